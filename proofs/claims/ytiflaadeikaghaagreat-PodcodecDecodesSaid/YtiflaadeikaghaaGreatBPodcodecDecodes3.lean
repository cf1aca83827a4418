/- Texts of the claim, merged by a program; what the statement does not reach is left out. -/
import Derived.Test.YtiflaadeikaghaaGreatBPodcodecDecodes2
import Derived.Test.YtiflaadeikaghaaGreatProg
import Derived.KernelRfl
import Derived.OpenShut
import Derived.ChangeArms
import Derived.ChangeSlices
import Derived.ChangeOld
import Derived.Carry
import GoSem.ClaimJoined

section
/- The seat's functions as the evaluator takes them; printed by a program, checked against the given ones in YtiflaadeikaghaaGreatTie. -/
namespace Go.Proofs.YtiflaadeikaghaaGreat.Ir
open Go.Pv
def o (d : Nat) (op : IOp) : IOper := ⟨some d, none, op, []⟩
def ob (d : Nat) (op : IOp) (b : List Nat) : IOper := ⟨some d, none, op, b⟩
def oM (d t : Nat) : IOper := o d (.mov (.t t))
def oX (d t k : Nat) : IOper := o d (.extract (.t t) k)
def oL (d n t : Nat) : IOper := o d (.load n true (.t t))
def oK (d n t : Nat) : IOper := o d (.load n false (.t t))
def oF (d n t : Nat) : IOper := o d (.faddr n (.t t))
def oS (n a b : Nat) : IOper := ⟨none, none, .store n (.t a) (.t b), []⟩
def oC (d f : Nat) (l : List Opd) : IOper := o d (.call false (.f f) l)
def oI (d n a b : Nat) : IOper := o d (.iaddr n (.t a) (.t b))
def oN (d t : Nat) : IOper := o d (.len false (.t t))
def oU (d t : Nat) : IOper := o d (.un .not (.t t))
def gT (d s : Nat) (x : IOp) : IOper := ⟨some d, some (s, true), x, []⟩
def gF (d s : Nat) (x : IOp) : IOper := ⟨some d, some (s, false), x, []⟩
def oD (d f : Nat) (l : List Opd) (b : List Nat) : IOper := ob d (.call false (.f f) l) b
def oE (d n t : Nat) (b : List Nat) : IOper := ob d (.load n false (.t t)) b
def oP (d a b : Nat) : IOper := o d (.pick (.t a) (.t b) (.c (.bool false)))
def oQ (d a b : Nat) : IOper := o d (.pick (.t a) (.c (.bool true)) (.t b))
def oA (d t : Nat) : IOper := o d (.bin .add (.t t) (.c (.int .i64 1)))
def oJ (d n k a b : Nat) : IOper := o d (.append n k (.t a) (.t b))
def zS : PV := .str ⟨#[]⟩
def zI : PV := .int .i64 0
def zB : PV := .bool false
def sA0 : Opd := .c (.str ⟨#[100, 101, 108, 97, 121]⟩)
def sA1 : Opd := .c (.str ⟨#[100, 105, 115, 107]⟩)
def sA2 : Opd := .c (.str ⟨#[101, 102, 102, 101, 99, 116]⟩)
def sA3 : Opd := .c (.str ⟨#[101, 120, 105, 115, 116, 115]⟩)
def sA4 : Opd := .c (.str ⟨#[101, 120, 105, 116, 67, 111, 100, 101]⟩)
def sA5 : Opd := .c (.str ⟨#[102, 105, 110, 105, 115, 104, 101, 100]⟩)
def sA6 : Opd := .c (.str ⟨#[102, 97, 105, 108, 117, 114, 101]⟩)
def sA7 : Opd := .c (.str ⟨#[103, 114, 97, 99, 101]⟩)
def sA8 : Opd := .c (.str ⟨#[105, 109, 97, 103, 101, 115]⟩)
def sA9 : Opd := .c (.str ⟨#[105, 109, 97, 103, 101]⟩)
def sA10 : Opd := .c (.str ⟨#[107, 101, 121]⟩)
def sA11 : Opd := .c (.str ⟨#[108, 105, 109, 105, 116]⟩)
def sA12 : Opd := .c (.str ⟨#[108, 105, 118, 101]⟩)
def sA13 : Opd := .c (.str ⟨#[108, 111, 119, 68, 105, 115, 107]⟩)
def sA14 : Opd := .c (.str ⟨#[108, 111, 119, 77, 101, 109]⟩)
def sA15 : Opd := .c (.str ⟨#[108, 97, 98, 101, 108, 115]⟩)
def sA16 : Opd := .c (.str ⟨#[109, 101, 109, 111, 114, 121]⟩)
def sA17 : Opd := .c (.str ⟨#[109, 97, 120, 80, 111, 100, 115]⟩)
def sA18 : Opd := .c (.str ⟨#[109, 97, 120, 83, 107, 101, 119]⟩)
def sA19 : Opd := .c (.str ⟨#[110, 111, 100, 101, 83, 101, 108, 101, 99, 116, 111, 114]⟩)
def sA20 : Opd := .c (.str ⟨#[110, 111, 100, 101, 84, 101, 114, 109, 115]⟩)
def sA21 : Opd := .c (.str ⟨#[110, 111, 100, 101]⟩)
def sA22 : Opd := .c (.str ⟨#[110, 111, 109, 105, 110, 97, 116, 101, 100]⟩)
def sA23 : Opd := .c (.str ⟨#[110, 97, 109, 101]⟩)
def sA24 : Opd := .c (.str ⟨#[111, 112]⟩)
def sA25 : Opd := .c (.str ⟨#[112, 101, 114, 105, 111, 100]⟩)
def sA26 : Opd := .c (.str ⟨#[112, 104, 97, 115, 101]⟩)
def sA27 : Opd := .c (.str ⟨#[112, 111, 100, 84, 101, 114, 109, 115]⟩)
def sA28 : Opd := .c (.str ⟨#[112, 114, 105, 111, 114, 105, 116, 121]⟩)
def sA29 : Opd := .c (.str ⟨#[112]⟩)
def sA30 : Opd := .c (.str ⟨#[114, 101, 113, 117, 101, 115, 116]⟩)
def sA31 : Opd := .c (.str ⟨#[114, 101, 113, 117, 105, 114, 101, 100]⟩)
def sA32 : Opd := .c (.str ⟨#[114, 101, 115, 116, 97, 114, 116, 115]⟩)
def sA33 : Opd := .c (.str ⟨#[114, 101, 115, 116, 97, 114, 116]⟩)
def sA34 : Opd := .c (.str ⟨#[114, 101, 97, 100, 121, 83, 105, 110, 99, 101]⟩)
def sA35 : Opd := .c (.str ⟨#[114, 101, 97, 100, 121]⟩)
def sA36 : Opd := .c (.str ⟨#[114, 101, 97, 115, 111, 110]⟩)
def sA37 : Opd := .c (.str ⟨#[115, 101, 108, 101, 99, 116, 111, 114]⟩)
def sA38 : Opd := .c (.str ⟨#[115, 101, 99, 111, 110, 100, 115]⟩)
def sA39 : Opd := .c (.str ⟨#[115, 105, 110, 99, 101]⟩)
def sA40 : Opd := .c (.str ⟨#[115, 105, 122, 101]⟩)
def sA41 : Opd := .c (.str ⟨#[115, 112, 101, 99]⟩)
def sA42 : Opd := .c (.str ⟨#[115, 112, 114, 101, 97, 100]⟩)
def sA43 : Opd := .c (.str ⟨#[115, 116, 97, 114, 116, 101, 100]⟩)
def sA44 : Opd := .c (.str ⟨#[115, 116, 97, 114, 116, 117, 112]⟩)
def sA45 : Opd := .c (.str ⟨#[115, 116, 97, 116, 101]⟩)
def sA46 : Opd := .c (.str ⟨#[115, 117, 99, 99, 101, 115, 115]⟩)
def sA47 : Opd := .c (.str ⟨#[116, 111, 108, 101, 114, 97, 116, 105, 111, 110, 115]⟩)
def sA48 : Opd := .c (.str ⟨#[116, 111, 112, 111, 108, 111, 103, 121]⟩)
def sA49 : Opd := .c (.str ⟨#[116, 97, 105, 110, 116, 115]⟩)
def sA50 : Opd := .c (.str ⟨#[117, 115, 101, 100]⟩)
def sA51 : Opd := .c (.str ⟨#[118, 97, 108, 117, 101, 115]⟩)
def sA52 : Opd := .c (.str ⟨#[118, 97, 108, 117, 101]⟩)
def sA53 : Opd := .c (.str ⟨#[119, 101, 105, 103, 104, 116]⟩)
def sA54 : Opd := .c (.str ⟨#[78, 111, 100, 101]⟩)
def sA55 : Opd := .c (.str ⟨#[80, 111, 100]⟩)
def sA56 : Opd := .c (.str ⟨#[97, 100, 100, 114, 101, 115, 115]⟩)
def sA57 : Opd := .c (.str ⟨#[97, 110, 116, 105]⟩)
def sA58 : Opd := .c (.str ⟨#[98, 101, 97, 116]⟩)
def sA59 : Opd := .c (.str ⟨#[99, 111, 110, 116, 97, 105, 110, 101, 114, 115]⟩)
def sA60 : Opd := .c (.str ⟨#[99, 111, 114, 100, 111, 110, 101, 100]⟩)
def sA61 : Opd := .c (.str ⟨#[99, 112, 117]⟩)
def sA62 : Opd := .c (.str ⟨#[99, 97, 112, 97, 99, 105, 116, 121]⟩)
def zL0 : List PV := [zI, zI, zS, .ns 5, .ns 6]
def zL1 : List PV := [zS, zS, zS, zI, zI, zI, zI, zB, zI, .ns 2, .ns 5, .ns 1, .ns 2, zS, zI, zI, zI, .ns 11, .ns 3, .ns 3, .ns 5, .ns 4, .ns 5, zI, zB, zI, zI, zI, .ns 7, zI, zS, zS]
def zL2 : List PV := [zS, zS, zS, zI, zI, zI, zI, zB, zI, .ns 2, .ns 5, .ns 1, .ns 2, zI, zI, zS, .ns 5, .ns 6, zI, zI, zS, .ns 5, .ns 6]
def zL3 : List PV := [zS, zS, zS, zI, zI, zI, zI, zB, zI, .ns 2, .ns 5, .ns 1, .ns 2, zI, zI, zI, zI, zB, .ns 4, zB, zI, zB, zB, .ns 3]
def zL4 : List PV := [zS, zI, zI, zS, .ns 5, .ns 6]
def zL5 : List PV := [zS, zS, zI, zI, zI, zI, zI, zI, .ns 4, .ns 4, .ns 4]
def zL6 : List PV := [zS, zI, zI, zI, .ns 11, .ns 3, .ns 3, .ns 5, .ns 4, .ns 5]
def zL7 : List PV := [zS, zS, zS, zI, zI, zI, zI, zB, zI, .ns 2, .ns 5, .ns 1, .ns 2]
def zL8 : List PV := [zI, zB, zI, zI, zI, .ns 7, zI, zS, zS]
def zL9 : List PV := [zS, zI, zI, zI, zI, zB, zB]
def zL10 : List PV := [zB, zB, zB, zB, zB, zB, zB, zB, zB]
def zL11 : List PV := [zB, zB, zB, zB, zB, zB, zB]
def zL12 : List PV := [zB, zB, zB, zB, zB, zB, zB, zB, zB, zB]
def rg1 (a : Nat) : Nat → List Nat
  | 0 => []
  | n + 1 => a :: rg1 (a + 1) n
def rg (a b : Nat) : List Nat := rg1 a (b - a)
def K1_c : IR :=
 .seq (.reg [o 1 (.box 23 (.t 0)),
 o 2 (.mov (.c zB))] false)
 (.seq (.seq (.reg [oF 15 0 1,
 oL 16 13 15,
 oC 17 8 ([.t 16]),
 oU 18 17,
 oM 19 18,
 gF 20 19 (.faddr 13 (.t 1)),
 gF 21 19 (.load 5 true (.t 20)),
 gF 22 19 (.call false (.f 9) [.t 21, .c (.int .i64 20000)]),
 gF 23 19 (.un .not (.t 22)),
 oQ 24 19 23,
 oM 25 24,
 gF 26 25 (.faddr 18 (.t 1)),
 gF 27 25 (.load 5 true (.t 26)),
 gF 28 25 (.call false (.f 9) [.t 27, .c (.int .i64 20000)]),
 gF 29 25 (.un .not (.t 28)),
 oQ 30 25 29] false)
 (.cond (.t 30) (.seq (.reg [oC 31 10 ([]),
 oM 2 31] false)
 (.ret))
 (.skip)))
 (.seq (.reg [oL 33 23 1,
 oC 34 11 ([.t 33]),
 oM 32 34,
 oX 35 32 0,
 oX 36 32 1,
 o 3 (.zero zL1),
 oS 32 3 35,
 oM 4 36] false)
 (.seq (.reg [oL 38 23 1,
 oC 39 12 ([.t 38]),
 oM 37 39,
 oX 40 37 0,
 oX 41 37 1,
 o 5 (.zero zL1),
 oS 32 5 40,
 oM 6 41] false)
 (.seq (.reg [oL 43 23 1,
 oC 44 13 ([.t 43]),
 oM 42 44,
 oX 45 42 0,
 oX 46 42 1,
 o 7 (.zero zL3),
 oS 24 7 45,
 oM 8 46] false)
 (.seq (.reg [oL 48 23 1,
 oC 49 14 ([.t 48]),
 oM 47 49,
 oX 50 47 0,
 oX 51 47 1,
 o 9 (.zero zL3),
 oS 24 9 50,
 oM 10 51] false)
 (.seq (.reg [oF 53 13 1,
 oL 54 5 53,
 oC 55 15 ([.t 54]),
 oM 52 55,
 oX 56 52 0,
 oX 57 52 1,
 o 11 (.zero [.ns 2, zS, zI, zI, zI, .ns 11, .ns 3, .ns 3, .ns 5, .ns 4, .ns 5]),
 oS 11 11 56,
 oM 12 57] false)
 (.seq (.reg [oF 59 13 1,
 oL 60 5 59,
 oC 61 16 ([.t 60]),
 oM 58 61,
 oX 62 58 0,
 oX 63 58 1,
 o 13 (.zero [.ns 2, zS, zI, zI, zI, .ns 11, .ns 3, .ns 3, .ns 5, .ns 4, .ns 5]),
 oS 11 13 62,
 oM 14 63] false)
 (.seq (.reg [oM 64 4,
 oM 65 6,
 o 66 (.bin .eql (.t 64) (.t 65)),
 oM 67 66,
 gT 68 67 (.mov (.t 8)),
 gT 69 67 (.mov (.t 10)),
 gT 70 67 (.bin .eql (.t 68) (.t 69)),
 oP 71 67 70,
 oM 72 71,
 gT 73 72 (.mov (.t 12)),
 gT 74 72 (.mov (.t 14)),
 gT 75 72 (.bin .eql (.t 73) (.t 74)),
 oP 76 72 75,
 oM 77 76,
 gT 78 77 (.load 32 true (.t 3)),
 gT 79 77 (.load 32 true (.t 5)),
 gT 80 77 (.call false (.f 17) [.t 78, .t 79]),
 oP 81 77 80,
 oM 82 81,
 gT 83 82 (.load 24 true (.t 7)),
 gT 84 82 (.load 24 true (.t 9)),
 gT 85 82 (.call false (.f 18) [.t 83, .t 84]),
 oP 86 82 85,
 oM 87 86,
 gT 88 87 (.load 11 true (.t 11)),
 gT 89 87 (.load 11 true (.t 13)),
 gT 90 87 (.call false (.f 19) [.t 88, .t 89]),
 oP 91 87 90,
 oM 92 91,
 gT 93 92 (.call false (.f 10) []),
 oP 94 92 93,
 oM 2 94] false)
 (.ret)))))))))
def K1 : IFn := ⟨1, 95, [.tmp 2], false, K1_c⟩
def Q14y : List Nat := [100001, 5, 6, 14, 100, 101, 102]
def Q1lz : IR :=
 .seq (.reg [o 103 (.bin .lss (.t 102) (.t 101))] false)
 (.seq (.cond (.t 103) (.skip)
 (.exit 0))
 (.seq (.block 1 (.seq (.reg [oM 104 102,
 oI 105 6 100 102,
 oL 106 6 105,
 o 16 (.zero zL4),
 oM 15 104,
 oS 6 16 106] false)
 (.seq (.reg [oF 107 13 5,
 oF 108 4 107,
 oK 109 1 108,
 oM 110 15,
 oI 111 6 109 110,
 oL 112 6 111,
 o 17 (.zero zL4),
 oS 6 17 112] false)
 (.seq (.seq (.reg [oM 113 15,
 oM 114 6,
 o 115 (.bin .eql (.t 113) (.t 114))] false)
 (.cond (.t 115) (.reg [oF 116 13 14,
 oF 117 4 116,
 oK 118 1 117,
 oM 119 15,
 oI 120 6 118 119,
 oL 121 6 120,
 oS 6 17 121] false)
 (.skip)))
 (.seq (.reg [oF 122 0 16,
 oK 123 1 122,
 oF 124 0 17,
 oK 125 1 124,
 o 126 (.bin .neq (.t 123) (.t 125)),
 oM 127 126,
 gF 128 127 (.faddr 1 (.t 16)),
 gF 129 127 (.load 5 true (.t 128)),
 gF 130 127 (.faddr 1 (.t 17)),
 gF 131 127 (.load 5 true (.t 130)),
 gF 132 127 (.call false (.f 23) [.t 129, .t 131]),
 gF 133 127 (.un .not (.t 132)),
 oQ 134 127 133] false)
 (.cond (.t 134) (.seq (.reg [o 4 (.mov (.c zB))] false)
 (.ret))
 (.skip)))))))
 (.reg [oA 135 102,
 oM 102 135] false)))
def K3_c : IR :=
 .seq (.reg [o 2 (.box 32 (.t 0)),
 o 4 (.mov (.c zB))] false)
 (.seq (.seq (.reg [oL 18 32 2,
 oC 19 20 ([.t 18]),
 oU 20 19] false)
 (.cond (.t 20) (.seq (.reg [oC 21 10 ([]),
 oM 4 21] false)
 (.ret))
 (.skip)))
 (.seq (.reg [oL 22 32 2,
 oC 23 21 ([.t 22]),
 o 5 (.zero zL2),
 oS 23 5 23] false)
 (.seq (.seq (.reg [oF 24 13 5,
 oF 25 4 24,
 oK 26 1 25,
 oN 27 26,
 o 28 (.bin .neq (.t 27) (.c (.int .i64 10))),
 oM 29 28,
 gF 30 29 (.faddr 18 (.t 5)),
 gF 31 29 (.faddr 4 (.t 30)),
 gF 32 29 (.load 1 false (.t 31)),
 gF 33 29 (.len false (.t 32)),
 gF 34 29 (.bin .neq (.t 33) (.c (.int .i64 9))),
 oQ 35 29 34] false)
 (.cond (.t 35) (.seq (.reg [o 4 (.mov (.c zB))] false)
 (.ret))
 (.skip)))
 (.seq (.reg [oM 36 1,
 o 37 (.conv .i64 (.t 36)),
 o 38 (.bin .rem (.t 37) (.c (.int .i64 10))),
 oM 6 38] false)
 (.seq (.reg [oL 39 23 5,
 o 7 (.zero zL2),
 oS 23 7 39] false)
 (.seq (.reg [oF 40 13 5,
 oL 41 5 40,
 oM 42 6,
 oC 43 22 ([.t 41, .t 42]),
 oF 44 13 7,
 oS 5 44 43] false)
 (.seq (.reg [oL 45 23 5,
 o 8 (.zero zL2),
 oS 23 8 45] false)
 (.seq (.reg [o 46 (.lit 6 0 zL4 []),
 oF 47 13 5,
 oF 48 4 47,
 oK 49 1 48,
 oJ 50 6 96 46 49,
 oF 51 13 8,
 oF 52 4 51,
 oS 1 52 50] false)
 (.seq (.reg [oF 53 13 8,
 oF 54 4 53,
 oK 55 1 54,
 oM 56 6,
 o 57 (.build [zI, zI, zS, .sl [], .sl []] []),
 oI 58 6 55 56,
 oF 59 1 58,
 oS 5 59 57] false)
 (.seq (.reg [oL 61 23 7,
 oC 62 11 ([.t 61]),
 oM 60 62,
 oX 63 60 0,
 oX 64 60 1,
 o 9 (.zero zL1),
 oS 32 9 63,
 oM 10 64] false)
 (.seq (.reg [oL 66 23 8,
 oC 67 11 ([.t 66]),
 oM 65 67,
 oX 68 65 0,
 oX 69 65 1,
 o 11 (.zero zL1),
 oS 32 11 68,
 oM 12 69] false)
 (.seq (.seq (.reg [oM 70 10,
 o 71 (.bin .neq (.t 70) (.c zI)),
 oM 72 71,
 gF 73 72 (.mov (.t 12)),
 gF 74 72 (.bin .neq (.t 73) (.c zI)),
 oQ 75 72 74,
 oM 76 75,
 gF 77 76 (.load 32 true (.t 9)),
 gF 78 76 (.load 32 true (.t 11)),
 gF 79 76 (.call false (.f 17) [.t 77, .t 78]),
 gF 80 76 (.un .not (.t 79)),
 oQ 81 76 80] false)
 (.cond (.t 81) (.seq (.reg [o 4 (.mov (.c zB))] false)
 (.ret))
 (.skip)))
 (.seq (.reg [oL 82 32 9,
 oC 83 21 ([.t 82]),
 o 13 (.zero zL2),
 oS 23 13 83] false)
 (.seq (.reg [o 84 (.build [zS, zS, zS, zI, zI, zI, zI, zB, zI, .sl [], .sl [], .sl [], .sl [], zS, zI, zI, zI, .sl [], .sl [], .sl [], .sl [], .sl [], .sl [], zI, zB, zI, zI, zI, .sl [], zI, zS, zS] []),
 oC 85 21 ([.t 84]),
 o 14 (.zero zL2),
 oS 23 14 85] false)
 (.seq (.seq (.reg [oF 86 13 13,
 oF 87 4 86,
 oK 88 1 87,
 oN 89 88,
 o 90 (.bin .neq (.t 89) (.c (.int .i64 10))),
 oM 91 90,
 gF 92 91 (.faddr 13 (.t 14)),
 gF 93 91 (.faddr 4 (.t 92)),
 gF 94 91 (.load 1 false (.t 93)),
 gF 95 91 (.len false (.t 94)),
 gF 96 91 (.bin .neq (.t 95) (.c (.int .i64 10))),
 oQ 97 91 96] false)
 (.cond (.t 97) (.seq (.reg [o 4 (.mov (.c zB))] false)
 (.ret))
 (.skip)))
 (.seq (.seq (.reg [oF 98 13 13,
 oF 99 4 98,
 oK 100 1 99,
 oN 101 100,
 o 102 (.mov (.c zI))] false)
 (.block 0 (.loop Q14y Q1lz)))
 (.seq (.reg [oC 136 10 ([]),
 oM 4 136] false)
 (.ret))))))))))))))))))
def K3 : IFn := ⟨2, 137, [.tmp 4], false, K3_c⟩
def K4_c : IR :=
 .seq (.reg [o 4 (.box 32 (.t 0)),
 o 6 (.box 5 (.t 2)),
 o 8 (.mov (.c zB))] false)
 (.seq (.seq (.reg [oL 16 32 4,
 oC 17 20 ([.t 16]),
 oU 18 17,
 oM 19 18,
 gF 20 19 (.load 5 true (.t 6)),
 gF 21 19 (.call false (.f 9) [.t 20, .c (.int .i64 2000)]),
 gF 22 19 (.un .not (.t 21)),
 oQ 23 19 22,
 oM 24 23,
 gF 25 24 (.mov (.t 3)),
 gF 26 24 (.len true (.t 25)),
 gF 27 24 (.bin .gtr (.t 26) (.c (.int .i64 100))),
 oQ 28 24 27] false)
 (.cond (.t 28) (.seq (.reg [oC 29 10 ([]),
 oM 8 29] false)
 (.ret))
 (.skip)))
 (.seq (.reg [oL 30 32 4,
 oC 31 21 ([.t 30]),
 o 9 (.zero zL2),
 oS 23 9 31] false)
 (.seq (.seq (.reg [oF 32 13 9,
 oF 33 4 32,
 oK 34 1 33,
 oN 35 34,
 o 36 (.bin .neq (.t 35) (.c (.int .i64 10)))] false)
 (.cond (.t 36) (.seq (.reg [o 8 (.mov (.c zB))] false)
 (.ret))
 (.skip)))
 (.seq (.reg [oM 37 1,
 o 38 (.conv .i64 (.t 37)),
 o 39 (.bin .rem (.t 38) (.c (.int .i64 10))),
 oM 10 39] false)
 (.seq (.seq (.reg [oF 40 0 6,
 oE 41 1 40 [0],
 ob 42 (.bin .neq (.t 41) (.c zI)) [0, 1],
 ob 43 (.mov (.t 42)) [0, 1, 2],
 ⟨(some 44), (some (43, true)), .faddr 0 (.t 6), [0, 1, 2, 3]⟩,
 ⟨(some 45), (some (43, true)), .load 1 false (.t 44), (rg 0 5)⟩,
 ⟨(some 46), (some (43, true)), .faddr 13 (.t 9), [0, 1, 2, 3]⟩,
 ⟨(some 47), (some (43, true)), .faddr 4 (.t 46), (rg 0 4 ++ [6])⟩,
 ⟨(some 48), (some (43, true)), .load 1 false (.t 47), (rg 0 4 ++ [6, 7])⟩,
 ⟨(some 49), (some (43, true)), .mov (.t 10), [0, 1, 2, 3]⟩,
 ⟨(some 50), (some (43, true)), .iaddr 6 (.t 48) (.t 49), (rg 0 4 ++ rg 6 10)⟩,
 ⟨(some 51), (some (43, true)), .faddr 1 (.t 50), (rg 0 4 ++ rg 6 11)⟩,
 ⟨(some 52), (some (43, true)), .faddr 0 (.t 51), (rg 0 4 ++ rg 6 12)⟩,
 ⟨(some 53), (some (43, true)), .load 1 false (.t 52), (rg 0 4 ++ rg 6 13)⟩,
 ⟨(some 54), (some (43, true)), .bin .neq (.t 45) (.t 53), (rg 0 14)⟩,
 ob 55 (.pick (.t 43) (.t 54) (.c zB)) (rg 0 15)] true)
 (.cond (.t 55) (.seq (.reg [oL 56 23 9,
 o 11 (.zero zL2),
 oS 23 11 56] false)
 (.seq (.reg [o 57 (.lit 6 0 zL4 []),
 oF 58 13 9,
 oF 59 4 58,
 oK 60 1 59,
 oJ 61 6 96 57 60,
 oF 62 13 11,
 oF 63 4 62,
 oS 1 63 61] false)
 (.seq (.reg [oF 64 13 11,
 oF 65 4 64,
 oK 66 1 65,
 oM 67 10,
 oL 68 5 6,
 oI 69 6 66 67,
 oF 70 1 69,
 oS 5 70 68] false)
 (.seq (.reg [oL 72 23 11,
 oC 73 11 ([.t 72]),
 oM 71 73,
 oX 74 71 0,
 oX 75 71 1,
 o 12 (.zero zL1),
 oS 32 12 74,
 oM 13 75] false)
 (.seq (.reg [oM 76 13,
 o 77 (.bin .neq (.t 76) (.c (.int .i64 6))),
 oM 78 77,
 gF 79 78 (.load 32 true (.t 12)),
 gF 80 78 (.build zL1 []),
 gF 81 78 (.call false (.f 17) [.t 79, .t 80]),
 gF 82 78 (.un .not (.t 81)),
 oQ 83 78 82] false)
 (.cond (.t 83) (.seq (.reg [o 8 (.mov (.c zB))] false)
 (.ret))
 (.skip)))))))
 (.skip)))
 (.seq (.seq (.reg [oM 84 3,
 o 85 (.bin .neq (.t 84) (sA55))] false)
 (.cond (.t 85) (.seq (.reg [oM 86 3,
 oF 87 0 9,
 oF 88 0 87,
 oS 1 88 86] false)
 (.seq (.reg [oL 90 23 9,
 oC 91 11 ([.t 90]),
 oM 89 91,
 oX 92 89 0,
 oX 93 89 1,
 o 14 (.zero zL1),
 oS 32 14 92,
 oM 15 93] false)
 (.seq (.reg [oM 94 15,
 o 95 (.bin .neq (.t 94) (.c (.int .i64 6)))] false)
 (.cond (.t 95) (.seq (.reg [o 8 (.mov (.c zB))] false)
 (.ret))
 (.skip)))))
 (.skip)))
 (.seq (.reg [oC 96 10 ([]),
 oM 8 96] false)
 (.ret))))))))
def K4 : IFn := ⟨4, 97, [.tmp 8], false, K4_c⟩
def Qpb : List Nat := [100006, 93, 94, 95, 110, 111, 112]
def Q1ib : IR :=
 .seq (.reg [o 113 (.bin .lss (.t 112) (.t 111))] false)
 (.seq (.cond (.t 113) (.skip)
 (.exit 8))
 (.seq (.block 9 (.seq (.reg [oI 114 1 110 112,
 oK 115 1 114,
 oM 12 115] false)
 (.seq (.reg [oM 116 12,
 o 117 (.len true (.t 116)),
 o 118 (.bin .gtr (.t 117) (.c (.int .i64 2000)))] false)
 (.cond (.t 118) (.seq (.reg [o 2 (.mov (.c zB))] false)
 (.ret))
 (.skip)))))
 (.reg [oA 119 112,
 oM 112 119] false)))
def Qpj : List Nat := [100005, 93, 94, 95]
def Q1j9 : IR :=
 .seq (.reg [o 96 (.bin .lss (.t 95) (.t 94))] false)
 (.seq (.cond (.t 96) (.skip)
 (.exit 6))
 (.seq (.block 7 (.seq (.reg [oI 97 2 93 95,
 oL 98 2 97,
 o 10 (.zero [zS, .ns 1]),
 oS 2 10 98] false)
 (.seq (.seq (.reg [oF 99 0 10,
 oK 100 1 99,
 o 101 (.len true (.t 100)),
 o 102 (.bin .gtr (.t 101) (.c (.int .i64 400))),
 oM 103 102,
 gF 104 103 (.faddr 1 (.t 10)),
 gF 105 103 (.load 1 false (.t 104)),
 gF 106 103 (.len false (.t 105)),
 gF 107 103 (.bin .gtr (.t 106) (.c (.int .i64 200))),
 oQ 108 103 107] false)
 (.cond (.t 108) (.seq (.reg [o 2 (.mov (.c zB))] false)
 (.ret))
 (.skip)))
 (.seq (.reg [oF 109 1 10,
 oK 110 1 109,
 oN 111 110,
 o 112 (.mov (.c zI))] false)
 (.block 8 (.loop Qpb Q1ib))))))
 (.reg [oA 120 95,
 oM 95 120] false)))
def Qnv : List Nat := [100004, 1, 82, 83, 84]
def Q1lt : IR :=
 .seq (.reg [o 85 (.bin .lss (.t 84) (.t 83))] false)
 (.seq (.cond (.t 85) (.skip)
 (.exit 4))
 (.seq (.block 5 (.seq (.reg [oI 86 1 82 84,
 oK 87 1 86,
 oM 8 87] false)
 (.seq (.reg [oM 88 8,
 o 89 (.len true (.t 88)),
 o 90 (.bin .gtr (.t 89) (.c (.int .i64 400)))] false)
 (.cond (.t 90) (.seq (.reg [o 2 (.mov (.c zB))] false)
 (.ret))
 (.skip)))))
 (.reg [oA 91 84,
 oM 84 91] false)))
def Qqb : List Nat := [100003, 1, 66, 67, 68]
def Q1kx : IR :=
 .seq (.reg [o 69 (.bin .lss (.t 68) (.t 67))] false)
 (.seq (.cond (.t 69) (.skip)
 (.exit 2))
 (.seq (.block 3 (.seq (.reg [oI 70 5 66 68,
 oL 71 5 70,
 o 6 (.zero [zS, zS, zI, zB, zB]),
 oS 5 6 71] false)
 (.seq (.reg [oF 72 0 6,
 oK 73 1 72,
 o 74 (.len true (.t 73)),
 oF 75 1 6,
 oK 76 1 75,
 o 77 (.len true (.t 76)),
 o 78 (.bin .add (.t 74) (.t 77)),
 o 79 (.bin .gtr (.t 78) (.c (.int .i64 400)))] false)
 (.cond (.t 79) (.seq (.reg [o 2 (.mov (.c zB))] false)
 (.ret))
 (.skip)))))
 (.reg [oA 80 68,
 oM 68 80] false)))
def Qnp : List Nat := [100002, 1, 50, 51, 52]
def Q1kz : IR :=
 .seq (.reg [o 53 (.bin .lss (.t 52) (.t 51))] false)
 (.seq (.cond (.t 53) (.skip)
 (.exit 0))
 (.seq (.block 1 (.seq (.reg [oI 54 2 50 52,
 oL 55 2 54,
 o 4 (.zero [zS, zS]),
 oS 2 4 55] false)
 (.seq (.reg [oF 56 0 4,
 oK 57 1 56,
 o 58 (.len true (.t 57)),
 oF 59 1 4,
 oK 60 1 59,
 o 61 (.len true (.t 60)),
 o 62 (.bin .add (.t 58) (.t 61)),
 o 63 (.bin .gtr (.t 62) (.c (.int .i64 400)))] false)
 (.cond (.t 63) (.seq (.reg [o 2 (.mov (.c zB))] false)
 (.ret))
 (.skip)))))
 (.reg [oA 64 52,
 oM 52 64] false)))
def K5_c : IR :=
 .seq (.reg [o 1 (.box 13 (.t 0)),
 o 2 (.mov (.c zB))] false)
 (.seq (.seq (.reg [oF 13 9 1,
 oK 14 1 13,
 oN 15 14,
 o 16 (.bin .gtr (.t 15) (.c (.int .i64 60))),
 oM 17 16,
 gF 18 17 (.faddr 10 (.t 1)),
 gF 19 17 (.load 1 false (.t 18)),
 gF 20 17 (.len false (.t 19)),
 gF 21 17 (.bin .gtr (.t 20) (.c (.int .i64 60))),
 oQ 22 17 21,
 oM 23 22,
 gF 24 23 (.faddr 11 (.t 1)),
 gF 25 23 (.load 1 false (.t 24)),
 gF 26 23 (.len false (.t 25)),
 gF 27 23 (.bin .gtr (.t 26) (.c (.int .i64 60))),
 oQ 28 23 27,
 oM 29 28,
 gF 30 29 (.faddr 12 (.t 1)),
 gF 31 29 (.load 1 false (.t 30)),
 gF 32 29 (.len false (.t 31)),
 gF 33 29 (.bin .gtr (.t 32) (.c (.int .i64 60))),
 oQ 34 29 33,
 oM 35 34,
 gF 36 35 (.faddr 0 (.t 1)),
 gF 37 35 (.load 1 false (.t 36)),
 gF 38 35 (.len true (.t 37)),
 gF 39 35 (.faddr 1 (.t 1)),
 gF 40 35 (.load 1 false (.t 39)),
 gF 41 35 (.len true (.t 40)),
 gF 42 35 (.bin .add (.t 38) (.t 41)),
 gF 43 35 (.faddr 2 (.t 1)),
 gF 44 35 (.load 1 false (.t 43)),
 gF 45 35 (.len true (.t 44)),
 gF 46 35 (.bin .add (.t 42) (.t 45)),
 gF 47 35 (.bin .gtr (.t 46) (.c (.int .i64 400))),
 oQ 48 35 47] false)
 (.cond (.t 48) (.seq (.reg [o 2 (.mov (.c zB))] false)
 (.ret))
 (.skip)))
 (.seq (.seq (.reg [oF 49 9 1,
 oK 50 1 49,
 oN 51 50,
 o 52 (.mov (.c zI))] false)
 (.block 0 (.loop Qnp Q1kz)))
 (.seq (.seq (.reg [oF 65 10 1,
 oK 66 1 65,
 oN 67 66,
 o 68 (.mov (.c zI))] false)
 (.block 2 (.loop Qqb Q1kx)))
 (.seq (.seq (.reg [oF 81 11 1,
 oK 82 1 81,
 oN 83 82,
 o 84 (.mov (.c zI))] false)
 (.block 4 (.loop Qnv Q1lt)))
 (.seq (.seq (.reg [oF 92 12 1,
 oK 93 1 92,
 oN 94 93,
 o 95 (.mov (.c zI))] false)
 (.block 6 (.loop Qpj Q1j9)))
 (.seq (.reg [o 2 (.mov (.c (.bool true)))] false)
 (.ret)))))))
def K5 : IFn := ⟨1, 121, [.tmp 2], false, K5_c⟩
def Q1og : IR :=
 .seq (.reg [o 2 (.box 5 (.t 0)),
 o 4 (.mov (.c zB))] false)
 (.seq (.reg [oL 5 5 2,
 oM 6 1,
 oC 7 30 ([.t 5, .t 6]),
 o 8 (.bin .geq (.t 7) (.c zI)),
 oM 4 8] false)
 (.ret))
def K27 : IFn := ⟨2, 9, [.tmp 4], false, Q1og⟩
def K7_c : IR :=
 .seq (.reg [o 0 (.mov (.c zB))] false)
 (.seq (.reg [o 7 (.build [zS, zS] [(0, 1, .c (.str ⟨#[97, 112, 112]⟩)), (1, 1, .c (.str ⟨#[119, 101, 98]⟩))]),
 o 8 (.lit 2 1 [zS, zS] [(0, .t 7)]),
 o 9 (.build [.ns 2, zS, zI, zI, zI, .ns 11, .ns 3, .ns 3, .ns 5, .ns 4, .ns 5] [(0, 1, .t 8)]),
 o 1 (.zero [.ns 2, zS, zI, zI, zI, .ns 11, .ns 3, .ns 3, .ns 5, .ns 4, .ns 5]),
 oS 11 1 9] false)
 (.seq (.reg [oL 10 11 1,
 oC 11 28 ([.t 10]),
 o 2 (.zero zL0),
 oS 5 2 11] false)
 (.seq (.reg [o 13 (.build zL7 [(0, 1, sA55), (2, 1, sA29)]),
 o 14 (.build zL2 [(0, 13, .t 13)]),
 oC 15 11 ([.t 14]),
 oM 12 15,
 oX 16 12 0,
 oX 17 12 1,
 o 3 (.zero zL1),
 oS 32 3 16,
 oM 4 17] false)
 (.seq (.reg [o 19 (.build zL7 [(0, 1, sA54)]),
 o 20 (.build zL0 [(0, 1, .c (.int .i64 2)), (1, 1, .c (.int .i64 1))]),
 o 21 (.build zL4 [(0, 1, sA60), (1, 5, .t 20)]),
 o 22 (.lit 6 1 zL4 [(0, .t 21)]),
 o 23 (.build zL0 [(0, 1, .c (.int .i64 5)), (4, 1, .t 22)]),
 o 24 (.build zL2 [(0, 13, .t 19), (13, 5, .t 23)]),
 oC 25 13 ([.t 24]),
 oM 18 25,
 oX 26 18 0,
 oX 27 18 1,
 o 5 (.zero zL3),
 oS 24 5 26,
 oM 6 27] false)
 (.seq (.reg [oL 28 5 2,
 oL 29 11 1,
 oD 30 29 ([.t 29]) [1],
 oD 31 23 ([.t 28, .t 30]) [0, 1, 2],
 ob 32 (.mov (.t 31)) [0, 1, 2, 3],
 ⟨(some 33), (some (32, true)), .faddr 4 (.t 2), (rg 0 5)⟩,
 ⟨(some 34), (some (32, true)), .load 1 false (.t 33), (rg 0 6)⟩,
 ⟨(some 35), (some (32, true)), .len false (.t 34), (rg 0 7)⟩,
 ⟨(some 36), (some (32, true)), .bin .eql (.t 35) (.c (.int .i64 2)), (rg 0 8)⟩,
 ob 37 (.pick (.t 32) (.t 36) (.c zB)) (rg 0 9),
 ob 38 (.mov (.t 37)) (rg 0 10),
 ⟨(some 39), (some (38, true)), .faddr 4 (.t 2), (rg 0 11)⟩,
 ⟨(some 40), (some (38, true)), .load 1 false (.t 39), (rg 0 12)⟩,
 ⟨(some 41), (some (38, true)), .iaddr 6 (.t 40) (.c (.int .i64 1)), (rg 0 13)⟩,
 ⟨(some 42), (some (38, true)), .faddr 1 (.t 41), (rg 0 14)⟩,
 ⟨(some 43), (some (38, true)), .faddr 4 (.t 42), (rg 0 15)⟩,
 ⟨(some 44), (some (38, true)), .load 1 false (.t 43), (rg 0 16)⟩,
 ⟨(some 45), (some (38, true)), .len false (.t 44), (rg 0 17)⟩,
 ⟨(some 46), (some (38, true)), .bin .eql (.t 45) (.c (.int .i64 10)), (rg 0 18)⟩,
 ob 47 (.pick (.t 38) (.t 46) (.c zB)) (rg 0 19),
 ob 48 (.mov (.t 47)) (rg 0 20),
 ⟨(some 49), (some (48, true)), .mov (.t 4), (rg 0 21)⟩,
 ⟨(some 50), (some (48, true)), .bin .eql (.t 49) (.c zI), (rg 0 22)⟩,
 ob 51 (.pick (.t 48) (.t 50) (.c zB)) (rg 0 23),
 ob 52 (.mov (.t 51)) (rg 0 24),
 ⟨(some 53), (some (52, true)), .faddr 0 (.t 3), (rg 0 25)⟩,
 ⟨(some 54), (some (52, true)), .faddr 2 (.t 53), (rg 0 26)⟩,
 ⟨(some 55), (some (52, true)), .load 1 false (.t 54), (rg 0 27)⟩,
 ⟨(some 56), (some (52, true)), .bin .eql (.t 55) (sA29), (rg 0 28)⟩,
 ob 57 (.pick (.t 52) (.t 56) (.c zB)) (rg 0 29),
 ob 58 (.mov (.t 57)) (rg 0 30),
 ⟨(some 59), (some (58, true)), .mov (.t 6), (rg 0 31)⟩,
 ⟨(some 60), (some (58, true)), .bin .eql (.t 59) (.c (.int .i64 6)), (rg 0 32)⟩,
 ob 61 (.pick (.t 58) (.t 60) (.c zB)) (rg 0 33),
 ob 0 (.mov (.t 61)) (rg 0 34)] true)
 (.ret))))))
def K7 : IFn := ⟨0, 62, [.tmp 0], false, K7_c⟩
def Kd_c : IR :=
 .seq (.reg [o 1 (.box 23 (.t 0)),
 o 2 (.zero zL1),
 o 3 (.mov (.c zI))] false)
 (.seq (.reg [oF 6 0 1,
 oF 7 0 6,
 oK 8 1 7,
 o 9 (.bin .neq (.t 8) (sA55)),
 o 10 (.build [zB] [(0, 1, .t 9)]),
 o 11 (.box 1 (.t 10)),
 oM 4 11] false)
 (.seq (.reg [oF 12 0 1,
 ob 13 (.load 13 true (.t 12)) [0],
 oD 14 31 ([.t 13]) [0, 1],
 oM 15 4,
 oF 16 13 1,
 ob 17 (.load 5 true (.t 16)) [4],
 oD 18 32 ([.t 15, .t 17]) (rg 0 6),
 oM 19 4,
 oF 20 18 1,
 ob 21 (.load 5 true (.t 20)) [8],
 oD 22 33 ([.t 19, .t 21]) (rg 0 10),
 ob 23 (.build zL1 [(0, 13, .t 14), (13, 10, .t 18), (23, 9, .t 22)]) (rg 0 11),
 o 5 (.zero zL1),
 ⟨none, none, .store 32 (.t 5) (.t 23), (rg 0 13)⟩] true)
 (.seq (.seq (.reg [oM 24 4,
 o 25 (.nilck (.t 24)),
 oF 26 0 25,
 oK 27 1 26] false)
 (.cond (.t 27) (.seq (.reg [o 28 (.build zL1 []),
 oS 32 2 28,
 o 3 (.mov (.c (.int .i64 6)))] false)
 (.ret))
 (.skip)))
 (.seq (.reg [oL 29 32 5,
 oS 32 2 29,
 o 3 (.mov (.c zI))] false)
 (.ret)))))
def Kd : IFn := ⟨1, 30, [.cell 2 32 true, .tmp 3], false, Kd_c⟩
def Q1qg : IR :=
 .seq (.reg [o 1 (.box 23 (.t 0)),
 o 2 (.zero zL1),
 o 3 (.mov (.c zI))] false)
 (.seq (.reg [oF 9 13 1,
 oL 10 5 9,
 oC 11 34 ([.t 10]),
 oM 8 11,
 oX 12 8 0,
 oX 13 8 1,
 o 4 (.zero zL6),
 oS 10 4 12,
 oM 5 13] false)
 (.seq (.reg [oF 15 18 1,
 oL 16 5 15,
 oC 17 35 ([.t 16]),
 oM 14 17,
 oX 18 14 0,
 oX 19 14 1,
 o 6 (.zero zL8),
 oS 9 6 18,
 oM 7 19] false)
 (.seq (.seq (.reg [oF 20 0 1,
 oF 21 0 20,
 oK 22 1 21,
 o 23 (.bin .neq (.t 22) (sA55)),
 oM 24 23,
 gF 25 24 (.mov (.t 5)),
 gF 26 24 (.un .not (.t 25)),
 oQ 27 24 26,
 oM 28 27,
 gF 29 28 (.mov (.t 7)),
 gF 30 28 (.un .not (.t 29)),
 oQ 31 28 30] false)
 (.cond (.t 31) (.seq (.reg [o 32 (.build zL1 []),
 oS 32 2 32,
 o 3 (.mov (.c (.int .i64 6)))] false)
 (.ret))
 (.skip)))
 (.seq (.reg [oF 33 0 1,
 oL 34 13 33,
 oL 35 10 4,
 oL 36 9 6,
 o 37 (.build zL1 [(0, 13, .t 34), (13, 10, .t 35), (23, 9, .t 36)]),
 oS 32 2 37,
 o 3 (.mov (.c zI))] false)
 (.ret)))))
def K2s : IFn := ⟨1, 38, [.cell 2 32 true, .tmp 3], false, Q1qg⟩
def Kc_c : IR :=
 .seq (.reg [o 1 (.box 23 (.t 0)),
 o 2 (.zero zL3),
 o 3 (.mov (.c zI))] false)
 (.seq (.reg [oF 8 0 1,
 oF 9 0 8,
 oK 10 1 9,
 o 11 (.bin .neq (.t 10) (sA54)),
 o 12 (.build [zB] [(0, 1, .t 11)]),
 o 13 (.box 1 (.t 12)),
 oM 4 13] false)
 (.seq (.reg [oM 14 4,
 oF 15 13 1,
 ob 16 (.load 5 true (.t 15)) [1],
 oD 17 36 ([.t 14, .t 16]) [0, 1, 2],
 oM 18 4,
 oF 19 18 1,
 ob 20 (.load 5 true (.t 19)) [5],
 oD 21 36 ([.t 18, .t 20]) (rg 0 7),
 o 5 (.zero zL0),
 o 6 (.zero zL0),
 ⟨none, none, .store 5 (.t 5) (.t 17), (rg 0 10)⟩,
 ⟨none, none, .store 5 (.t 6) (.t 21), (rg 0 11)⟩] true)
 (.seq (.reg [oF 22 0 1,
 ob 23 (.load 13 true (.t 22)) [0],
 oD 24 31 ([.t 23]) [0, 1],
 oM 25 4,
 oM 26 4,
 oL 27 5 5,
 oD 28 38 ([.t 26, .t 27, sA62]) [0, 1, 2, 4, 5],
 oD 29 37 ([.t 25, .t 28]) (rg 0 7),
 oM 30 4,
 oL 31 5 5,
 oD 32 39 ([.t 30, .t 31, sA17]) (rg 0 10),
 oM 33 4,
 oL 34 5 5,
 oD 35 40 ([.t 33, .t 34, sA60]) (rg 0 13),
 oM 36 4,
 oL 37 5 5,
 oM 38 4,
 ob 39 (.mkfn 42 [.t 38] []) [16],
 oD 40 41 ([.t 36, .t 37, sA49, .t 39]) (rg 0 18),
 oM 41 4,
 oL 42 5 6,
 oD 43 40 ([.t 41, .t 42, sA35]) (rg 0 21),
 oM 44 4,
 oL 45 5 6,
 oD 46 39 ([.t 44, .t 45, sA58]) (rg 0 24),
 oM 47 4,
 oL 48 5 6,
 oD 49 40 ([.t 47, .t 48, sA14]) (rg 0 27),
 oM 50 4,
 oL 51 5 6,
 oD 52 40 ([.t 50, .t 51, sA13]) (rg 0 30),
 oM 53 4,
 oL 54 5 6,
 oM 55 4,
 ob 56 (.mkfn 44 [.t 55] []) [33],
 oD 57 43 ([.t 53, .t 54, sA8, .t 56]) (rg 0 35),
 ob 58 (.build zL3 [(0, 13, .t 24), (13, 3, .t 29), (16, 1, .t 32), (17, 1, .t 35), (18, 1, .t 40), (19, 1, .t 43), (20, 1, .t 46), (21, 1, .t 49), (22, 1, .t 52), (23, 1, .t 57)]) (rg 0 36),
 o 7 (.zero zL3),
 ⟨none, none, .store 24 (.t 7) (.t 58), (rg 0 38)⟩] true)
 (.seq (.seq (.reg [oM 59 4,
 o 60 (.nilck (.t 59)),
 oF 61 0 60,
 oK 62 1 61] false)
 (.cond (.t 62) (.seq (.reg [o 63 (.build zL3 []),
 oS 24 2 63,
 o 3 (.mov (.c (.int .i64 6)))] false)
 (.ret))
 (.skip)))
 (.seq (.reg [oL 64 24 7,
 oS 24 2 64,
 o 3 (.mov (.c zI))] false)
 (.ret))))))
def Kc : IFn := ⟨1, 65, [.cell 2 24 true, .tmp 3], false, Kc_c⟩
def Qhf : List Nat := [100007, 1, 2, 4, 5, 24]
def Q1dw : IR :=
 .seq (.seq (.reg [oM 119 24,
 o 120 (.bin .lss (.t 119) (.c (.int .i64 9)))] false)
 (.cond (.t 120) (.skip)
 (.exit 0)))
 (.seq (.block 1 (.seq (.reg [oM 123 24,
 o 124 (.aaddr 9 1 (.t 5) (.t 123)),
 oK 125 1 124,
 oU 126 125] false)
 (.cond (.t 126) (.seq (.reg [o 127 (.build zL3 []),
 oS 24 2 127,
 o 3 (.mov (.c (.int .i64 6)))] false)
 (.ret))
 (.skip))))
 (.reg [oM 121 24,
 oA 122 121,
 oM 24 122] false))
def Q1r7 : IR :=
 .seq (.reg [o 1 (.box 23 (.t 0)),
 o 2 (.zero zL3),
 o 3 (.mov (.c zI))] false)
 (.seq (.reg [oF 25 0 1,
 oL 26 13 25,
 o 27 (.build zL3 [(0, 13, .t 26)]),
 o 4 (.zero zL3),
 oS 24 4 27] false)
 (.seq (.reg [o 28 (.bzero zL10),
 o 5 (.zero zL10),
 oS 9 5 28] false)
 (.seq (.reg [oF 30 13 1,
 oL 31 5 30,
 oC 32 45 ([.t 31, sA62]),
 oM 29 32,
 oX 33 29 0,
 oX 34 29 1,
 o 6 (.zero [zI, zI, zI]),
 oS 3 6 33,
 oM 7 34] false)
 (.seq (.reg [oL 35 3 6,
 oF 36 13 4,
 oS 3 36 35] false)
 (.seq (.reg [oM 37 7,
 o 38 (.aaddr 9 1 (.t 5) (.c zI)),
 oS 1 38 37] false)
 (.seq (.reg [oF 40 13 1,
 oL 41 5 40,
 oC 42 46 ([.t 41, sA60]),
 oM 39 42,
 oX 43 39 0,
 oX 44 39 1,
 oM 8 43,
 oM 9 44] false)
 (.seq (.reg [oM 45 8,
 oF 46 17 4,
 oS 1 46 45] false)
 (.seq (.reg [oM 47 9,
 o 48 (.aaddr 9 1 (.t 5) (.c (.int .i64 1))),
 oS 1 48 47] false)
 (.seq (.reg [oF 50 13 1,
 oL 51 5 50,
 oC 52 47 ([.t 51, sA17]),
 oM 49 52,
 oX 53 49 0,
 oX 54 49 1,
 oM 10 53,
 oM 11 54] false)
 (.seq (.reg [oM 55 10,
 oF 56 16 4,
 oS 1 56 55] false)
 (.seq (.reg [oM 57 11,
 o 58 (.aaddr 9 1 (.t 5) (.c (.int .i64 2))),
 oS 1 58 57] false)
 (.seq (.reg [oF 60 13 1,
 oL 61 5 60,
 oC 62 48 ([.t 61]),
 oM 59 62,
 oX 63 59 0,
 oX 64 59 1,
 oM 12 63,
 oM 13 64] false)
 (.seq (.reg [oM 65 12,
 oF 66 18 4,
 oS 1 66 65] false)
 (.seq (.reg [oM 67 13,
 o 68 (.aaddr 9 1 (.t 5) (.c (.int .i64 3))),
 oS 1 68 67] false)
 (.seq (.reg [oF 70 18 1,
 oL 71 5 70,
 oC 72 47 ([.t 71, sA58]),
 oM 69 72,
 oX 73 69 0,
 oX 74 69 1,
 oM 14 73,
 oM 15 74] false)
 (.seq (.reg [oM 75 14,
 oF 76 20 4,
 oS 1 76 75] false)
 (.seq (.reg [oM 77 15,
 o 78 (.aaddr 9 1 (.t 5) (.c (.int .i64 4))),
 oS 1 78 77] false)
 (.seq (.reg [oF 80 18 1,
 oL 81 5 80,
 oC 82 49 ([.t 81]),
 oM 79 82,
 oX 83 79 0,
 oX 84 79 1,
 oM 16 83,
 oM 17 84] false)
 (.seq (.reg [oM 85 16,
 oF 86 23 4,
 oS 1 86 85] false)
 (.seq (.reg [oM 87 17,
 o 88 (.aaddr 9 1 (.t 5) (.c (.int .i64 5))),
 oS 1 88 87] false)
 (.seq (.reg [oF 90 18 1,
 oL 91 5 90,
 oC 92 46 ([.t 91, sA13]),
 oM 89 92,
 oX 93 89 0,
 oX 94 89 1,
 oM 18 93,
 oM 19 94] false)
 (.seq (.reg [oM 95 18,
 oF 96 22 4,
 oS 1 96 95] false)
 (.seq (.reg [oM 97 19,
 o 98 (.aaddr 9 1 (.t 5) (.c (.int .i64 6))),
 oS 1 98 97] false)
 (.seq (.reg [oF 100 18 1,
 oL 101 5 100,
 oC 102 46 ([.t 101, sA14]),
 oM 99 102,
 oX 103 99 0,
 oX 104 99 1,
 oM 20 103,
 oM 21 104] false)
 (.seq (.reg [oM 105 20,
 oF 106 21 4,
 oS 1 106 105] false)
 (.seq (.reg [oM 107 21,
 o 108 (.aaddr 9 1 (.t 5) (.c (.int .i64 7))),
 oS 1 108 107] false)
 (.seq (.reg [oF 110 18 1,
 oL 111 5 110,
 oC 112 46 ([.t 111, sA35]),
 oM 109 112,
 oX 113 109 0,
 oX 114 109 1,
 oM 22 113,
 oM 23 114] false)
 (.seq (.reg [oM 115 22,
 oF 116 19 4,
 oS 1 116 115] false)
 (.seq (.reg [oM 117 23,
 o 118 (.aaddr 9 1 (.t 5) (.c (.int .i64 8))),
 oS 1 118 117] false)
 (.seq (.seq (.reg [o 24 (.mov (.c zI))] false)
 (.block 0 (.loop Qhf Q1dw)))
 (.seq (.seq (.reg [oF 128 0 1,
 oF 129 0 128,
 oK 130 1 129,
 o 131 (.bin .neq (.t 130) (sA54)),
 oM 132 131,
 gF 133 132 (.faddr 13 (.t 1)),
 gF 134 132 (.load 5 true (.t 133)),
 gF 135 132 (.call false (.f 50) [.t 134]),
 gF 136 132 (.un .not (.t 135)),
 oQ 137 132 136,
 oM 138 137,
 gF 139 138 (.faddr 18 (.t 1)),
 gF 140 138 (.load 5 true (.t 139)),
 gF 141 138 (.call false (.f 50) [.t 140]),
 gF 142 138 (.un .not (.t 141)),
 oQ 143 138 142] false)
 (.cond (.t 143) (.seq (.reg [o 144 (.build zL3 []),
 oS 24 2 144,
 o 3 (.mov (.c (.int .i64 6)))] false)
 (.ret))
 (.skip)))
 (.seq (.reg [oL 145 24 4,
 oS 24 2 145,
 o 3 (.mov (.c zI))] false)
 (.ret)))))))))))))))))))))))))))))))))
def K2r : IFn := ⟨1, 146, [.cell 2 24 true, .tmp 3], false, Q1r7⟩
def Ke_c : IR :=
 .seq (.reg [o 1 (.box 5 (.t 0)),
 o 2 (.zero [.ns 2, zS, zI, zI, zI, .ns 11, .ns 3, .ns 3, .ns 5, .ns 4, .ns 5]),
 o 3 (.mov (.c zI))] false)
 (.seq (.reg [o 6 (.build [zB] []),
 o 7 (.box 1 (.t 6)),
 oM 4 7] false)
 (.seq (.reg [oM 8 4,
 oL 9 5 1,
 oC 10 36 ([.t 8, .t 9])] false)
 (.seq (.reg [oM 11 4,
 oL 12 5 1,
 oM 13 4,
 ob 14 (.mkfn 52 [.t 13] []) [2],
 oD 15 51 ([.t 11, .t 12, sA15, .t 14]) [0, 1, 2, 3],
 oM 16 4,
 oM 17 4,
 oL 18 5 1,
 oD 19 38 ([.t 17, .t 18, sA41]) (rg 0 5 ++ [6, 7]),
 oD 20 32 ([.t 16, .t 19]) (rg 0 9),
 ob 21 (.build [.ns 2, zS, zI, zI, zI, .ns 11, .ns 3, .ns 3, .ns 5, .ns 4, .ns 5] [(0, 1, .t 15), (1, 10, .t 20)]) (rg 0 10),
 o 5 (.zero [.ns 2, zS, zI, zI, zI, .ns 11, .ns 3, .ns 3, .ns 5, .ns 4, .ns 5]),
 ⟨none, none, .store 11 (.t 5) (.t 21), (rg 0 12)⟩] true)
 (.seq (.seq (.reg [oM 22 4,
 o 23 (.nilck (.t 22)),
 oF 24 0 23,
 oK 25 1 24] false)
 (.cond (.t 25) (.seq (.reg [o 26 (.build [.ns 2, zS, zI, zI, zI, .ns 11, .ns 3, .ns 3, .ns 5, .ns 4, .ns 5] []),
 oS 11 2 26,
 o 3 (.mov (.c (.int .i64 6)))] false)
 (.ret))
 (.skip)))
 (.seq (.reg [oL 27 11 5,
 oS 11 2 27,
 o 3 (.mov (.c zI))] false)
 (.ret))))))
def Ke : IFn := ⟨1, 28, [.cell 2 11 true, .tmp 3], false, Ke_c⟩
def Qn0 : List Nat := [100008, 1, 2, 4, 5, 6, 7]
def Q1f1 : IR :=
 .seq (.seq (.reg [oM 20 7,
 oM 21 4,
 oN 22 21,
 o 23 (.bin .lss (.t 20) (.t 22))] false)
 (.cond (.t 23) (.skip)
 (.exit 0)))
 (.seq (.block 1 (.seq (.reg [oM 27 4,
 oM 28 7,
 oI 29 5 27 28,
 oL 30 5 29,
 oC 31 54 ([.t 30, sA10]),
 oM 26 31,
 oX 32 26 0,
 oX 33 26 1,
 oM 8 32,
 oM 9 33] false)
 (.seq (.reg [oM 35 4,
 oM 36 7,
 oI 37 5 35 36,
 oL 38 5 37,
 oC 39 54 ([.t 38, sA52]),
 oM 34 39,
 oX 40 34 0,
 oX 41 34 1,
 oM 10 40,
 oM 11 41] false)
 (.seq (.reg [oF 42 0 6,
 oK 43 1 42,
 oM 44 8,
 oM 45 10,
 o 46 (.build [zS, zS] [(0, 1, .t 44), (1, 1, .t 45)]),
 o 47 (.lit 2 1 [zS, zS] [(0, .t 46)]),
 oJ 48 2 32 43 47,
 oF 49 0 6,
 oS 1 49 48] false)
 (.reg [oM 50 5,
 oM 51 50,
 gT 52 51 (.mov (.t 4)),
 gT 53 51 (.mov (.t 7)),
 gT 54 51 (.iaddr 5 (.t 52) (.t 53)),
 gT 55 51 (.load 5 true (.t 54)),
 gT 56 51 (.call false (.f 50) [.t 55]),
 oP 57 51 56,
 oM 58 57,
 gT 59 58 (.mov (.t 9)),
 oP 60 58 59,
 oM 61 60,
 gT 62 61 (.mov (.t 11)),
 oP 63 61 62,
 oM 5 63] false)))))
 (.reg [oM 24 7,
 oA 25 24,
 oM 7 25] false))
def Q1rd : IR :=
 .seq (.reg [o 1 (.box 5 (.t 0)),
 o 2 (.zero [.ns 2, zS, zI, zI, zI, .ns 11, .ns 3, .ns 3, .ns 5, .ns 4, .ns 5]),
 o 3 (.mov (.c zI))] false)
 (.seq (.reg [oL 15 5 1,
 oC 16 53 ([.t 15, sA15]),
 oM 14 16,
 oX 17 14 0,
 oX 18 14 1,
 oM 4 17,
 oM 5 18] false)
 (.seq (.reg [o 19 (.build [.ns 2, zS, zI, zI, zI, .ns 11, .ns 3, .ns 3, .ns 5, .ns 4, .ns 5] []),
 o 6 (.zero [.ns 2, zS, zI, zI, zI, .ns 11, .ns 3, .ns 3, .ns 5, .ns 4, .ns 5]),
 oS 11 6 19] false)
 (.seq (.seq (.reg [o 7 (.mov (.c zI))] false)
 (.block 0 (.loop Qn0 Q1f1)))
 (.seq (.reg [oL 65 5 1,
 oC 66 55 ([.t 65, sA41]),
 oC 67 34 ([.t 66]),
 oM 64 67,
 oX 68 64 0,
 oX 69 64 1,
 o 12 (.zero zL6),
 oS 10 12 68,
 oM 13 69] false)
 (.seq (.seq (.reg [oM 70 5,
 oU 71 70,
 oM 72 71,
 gF 73 72 (.mov (.t 13)),
 gF 74 72 (.un .not (.t 73)),
 oQ 75 72 74,
 oM 76 75,
 gF 77 76 (.load 5 true (.t 1)),
 gF 78 76 (.call false (.f 50) [.t 77]),
 gF 79 76 (.un .not (.t 78)),
 oQ 80 76 79] false)
 (.cond (.t 80) (.seq (.reg [o 81 (.build [.ns 2, zS, zI, zI, zI, .ns 11, .ns 3, .ns 3, .ns 5, .ns 4, .ns 5] []),
 oS 11 2 81,
 o 3 (.mov (.c (.int .i64 6)))] false)
 (.ret))
 (.skip)))
 (.seq (.reg [oL 82 10 12,
 oF 83 1 6,
 oS 10 83 82] false)
 (.seq (.reg [oL 84 11 6,
 oS 11 2 84,
 o 3 (.mov (.c zI))] false)
 (.ret))))))))
def K2u : IFn := ⟨1, 85, [.cell 2 11 true, .tmp 3], false, Q1rd⟩
def Q1pl : IR :=
 .seq (.reg [o 2 (.box 32 (.t 0)),
 o 3 (.box 32 (.t 1)),
 o 4 (.mov (.c zB))] false)
 (.seq (.reg [oF 5 0 2,
 ob 6 (.faddr 0 (.t 5)) [0],
 oE 7 1 6 [0, 1],
 oF 8 0 3,
 ob 9 (.faddr 0 (.t 8)) [3],
 oE 10 1 9 [3, 4],
 ob 11 (.bin .eql (.t 7) (.t 10)) (rg 0 6),
 ob 12 (.mov (.t 11)) (rg 0 7),
 ⟨(some 13), (some (12, true)), .load 32 true (.t 2), (rg 0 8)⟩,
 ⟨(some 14), (some (12, true)), .call false (.f 25) [.t 13], (rg 0 9)⟩,
 ⟨(some 15), (some (12, true)), .load 32 true (.t 3), (rg 0 8)⟩,
 ⟨(some 16), (some (12, true)), .call false (.f 25) [.t 15], (rg 0 11)⟩,
 ⟨(some 17), (some (12, true)), .call false (.f 24) [.t 14, .t 16], (rg 0 12)⟩,
 ob 18 (.pick (.t 12) (.t 17) (.c zB)) (rg 0 13),
 ob 4 (.mov (.t 18)) (rg 0 14)] true)
 (.ret))
def K2m : IFn := ⟨2, 19, [.tmp 4], false, Q1pl⟩
def Q1nc : IR :=
 .seq (.reg [o 2 (.box 24 (.t 0)),
 o 3 (.box 24 (.t 1)),
 o 4 (.mov (.c zB))] false)
 (.seq (.reg [oF 5 0 2,
 ob 6 (.faddr 0 (.t 5)) [0],
 oE 7 1 6 [0, 1],
 oF 8 0 3,
 ob 9 (.faddr 0 (.t 8)) [3],
 oE 10 1 9 [3, 4],
 ob 11 (.bin .eql (.t 7) (.t 10)) (rg 0 6),
 ob 12 (.mov (.t 11)) (rg 0 7),
 ⟨(some 13), (some (12, true)), .load 24 true (.t 2), (rg 0 8)⟩,
 ⟨(some 14), (some (12, true)), .call false (.f 27) [.t 13], (rg 0 9)⟩,
 ⟨(some 15), (some (12, true)), .load 24 true (.t 3), (rg 0 8)⟩,
 ⟨(some 16), (some (12, true)), .call false (.f 27) [.t 15], (rg 0 11)⟩,
 ⟨(some 17), (some (12, true)), .call false (.f 24) [.t 14, .t 16], (rg 0 12)⟩,
 ob 18 (.pick (.t 12) (.t 17) (.c zB)) (rg 0 13),
 ob 4 (.mov (.t 18)) (rg 0 14)] true)
 (.ret))
def K2k : IFn := ⟨2, 19, [.tmp 4], false, Q1nc⟩
def Q1r2 : IR :=
 .seq (.reg [o 2 (.box 11 (.t 0)),
 o 3 (.box 11 (.t 1)),
 o 4 (.mov (.c zB))] false)
 (.seq (.reg [oL 5 11 2,
 oD 6 29 ([.t 5]) [0],
 oL 7 11 3,
 oD 8 29 ([.t 7]) [0, 1, 2],
 oD 9 23 ([.t 6, .t 8]) [0, 1, 2, 3],
 ob 4 (.mov (.t 9)) (rg 0 5)] true)
 (.ret))
def K2n : IFn := ⟨2, 10, [.tmp 4], false, Q1r2⟩
def Qjl : List Nat := [100010, 2, 3, 6]
def Q1e8 : IR :=
 .seq (.seq (.reg [oM 63 6,
 oF 64 4 2,
 oK 65 1 64,
 oN 66 65,
 o 67 (.bin .lss (.t 63) (.t 66))] false)
 (.cond (.t 67) (.skip)
 (.exit 2)))
 (.seq (.block 3 (.seq (.reg [oF 70 4 2,
 oE 71 1 70 [0],
 oM 72 6,
 ob 73 (.iaddr 6 (.t 71) (.t 72)) [0, 1, 2],
 ob 74 (.faddr 0 (.t 73)) [0, 1, 2, 3],
 oE 75 1 74 (rg 0 5),
 oF 76 4 3,
 oE 77 1 76 [6],
 oM 78 6,
 ob 79 (.iaddr 6 (.t 77) (.t 78)) [6, 7, 8],
 ob 80 (.faddr 0 (.t 79)) [6, 7, 8, 9],
 oE 81 1 80 (rg 6 11),
 ob 82 (.bin .neq (.t 75) (.t 81)) (rg 0 12),
 ob 83 (.mov (.t 82)) (rg 0 13),
 ⟨(some 84), (some (83, false)), .faddr 4 (.t 2), (rg 0 14)⟩,
 ⟨(some 85), (some (83, false)), .load 1 false (.t 84), (rg 0 15)⟩,
 ⟨(some 86), (some (83, false)), .mov (.t 6), (rg 0 14)⟩,
 ⟨(some 87), (some (83, false)), .iaddr 6 (.t 85) (.t 86), (rg 0 17)⟩,
 ⟨(some 88), (some (83, false)), .faddr 1 (.t 87), (rg 0 18)⟩,
 ⟨(some 89), (some (83, false)), .load 5 true (.t 88), (rg 0 19)⟩,
 ⟨(some 90), (some (83, false)), .faddr 4 (.t 3), (rg 0 14)⟩,
 ⟨(some 91), (some (83, false)), .load 1 false (.t 90), (rg 0 14 ++ [20])⟩,
 ⟨(some 92), (some (83, false)), .mov (.t 6), (rg 0 14)⟩,
 ⟨(some 93), (some (83, false)), .iaddr 6 (.t 91) (.t 92), (rg 0 14 ++ [20, 21, 22])⟩,
 ⟨(some 94), (some (83, false)), .faddr 1 (.t 93), (rg 0 14 ++ rg 20 24)⟩,
 ⟨(some 95), (some (83, false)), .load 5 true (.t 94), (rg 0 14 ++ rg 20 25)⟩,
 ⟨(some 96), (some (83, false)), .call false (.f 23) [.t 89, .t 95], (rg 0 26)⟩,
 ⟨(some 97), (some (83, false)), .un .not (.t 96), (rg 0 27)⟩,
 ob 98 (.pick (.t 83) (.c (.bool true)) (.t 97)) (rg 0 28)] true)
 (.cond (.t 98) (.seq (.reg [o 4 (.mov (.c zB))] false)
 (.ret))
 (.skip))))
 (.reg [oM 68 6,
 oA 69 68,
 oM 6 69] false))
def Qit : List Nat := [100009, 2, 3, 5]
def Q1er : IR :=
 .seq (.seq (.reg [oM 44 5,
 oF 45 3 2,
 oK 46 1 45,
 oN 47 46,
 o 48 (.bin .lss (.t 44) (.t 47))] false)
 (.cond (.t 48) (.skip)
 (.exit 0)))
 (.seq (.block 1 (.seq (.reg [oF 51 3 2,
 oE 52 1 51 [0],
 oM 53 5,
 ob 54 (.iaddr 5 (.t 52) (.t 53)) [0, 1, 2],
 ob 55 (.load 5 true (.t 54)) [0, 1, 2, 3],
 oF 56 3 3,
 oE 57 1 56 [5],
 oM 58 5,
 ob 59 (.iaddr 5 (.t 57) (.t 58)) [5, 6, 7],
 ob 60 (.load 5 true (.t 59)) [5, 6, 7, 8],
 oD 61 23 ([.t 55, .t 60]) (rg 0 10),
 ob 62 (.un .not (.t 61)) (rg 0 11)] true)
 (.cond (.t 62) (.seq (.reg [o 4 (.mov (.c zB))] false)
 (.ret))
 (.skip))))
 (.reg [oM 49 5,
 oA 50 49,
 oM 5 50] false))
def Q1p4 : IR :=
 .seq (.reg [o 2 (.box 5 (.t 0)),
 o 3 (.box 5 (.t 1)),
 o 4 (.mov (.c zB))] false)
 (.seq (.seq (.reg [oF 7 0 2,
 oK 8 1 7,
 oF 9 0 3,
 oK 10 1 9,
 o 11 (.bin .neq (.t 8) (.t 10)),
 oM 12 11,
 gF 13 12 (.faddr 1 (.t 2)),
 gF 14 12 (.load 1 false (.t 13)),
 gF 15 12 (.faddr 1 (.t 3)),
 gF 16 12 (.load 1 false (.t 15)),
 gF 17 12 (.bin .neq (.t 14) (.t 16)),
 oQ 18 12 17,
 oM 19 18,
 gF 20 19 (.faddr 2 (.t 2)),
 gF 21 19 (.load 1 false (.t 20)),
 gF 22 19 (.faddr 2 (.t 3)),
 gF 23 19 (.load 1 false (.t 22)),
 gF 24 19 (.bin .neq (.t 21) (.t 23)),
 oQ 25 19 24,
 oM 26 25,
 gF 27 26 (.faddr 3 (.t 2)),
 gF 28 26 (.load 1 false (.t 27)),
 gF 29 26 (.len false (.t 28)),
 gF 30 26 (.faddr 3 (.t 3)),
 gF 31 26 (.load 1 false (.t 30)),
 gF 32 26 (.len false (.t 31)),
 gF 33 26 (.bin .neq (.t 29) (.t 32)),
 oQ 34 26 33,
 oM 35 34,
 gF 36 35 (.faddr 4 (.t 2)),
 gF 37 35 (.load 1 false (.t 36)),
 gF 38 35 (.len false (.t 37)),
 gF 39 35 (.faddr 4 (.t 3)),
 gF 40 35 (.load 1 false (.t 39)),
 gF 41 35 (.len false (.t 40)),
 gF 42 35 (.bin .neq (.t 38) (.t 41)),
 oQ 43 35 42] false)
 (.cond (.t 43) (.seq (.reg [o 4 (.mov (.c zB))] false)
 (.ret))
 (.skip)))
 (.seq (.seq (.reg [o 5 (.mov (.c zI))] false)
 (.block 0 (.loop Qit Q1er)))
 (.seq (.seq (.reg [o 6 (.mov (.c zI))] false)
 (.block 2 (.loop Qjl Q1e8)))
 (.seq (.reg [o 4 (.mov (.c (.bool true)))] false)
 (.ret)))))
def K26 : IFn := ⟨2, 99, [.tmp 4], false, Q1p4⟩
def Q1pw : IR :=
 .seq (.reg [o 2 (.box 23 (.t 0)),
 o 3 (.box 23 (.t 1)),
 o 4 (.mov (.c zB))] false)
 (.seq (.reg [oF 5 0 2,
 oL 6 13 5,
 oF 7 0 3,
 oL 8 13 7,
 oC 9 58 ([.t 6, .t 8]),
 oM 10 9,
 gT 11 10 (.faddr 13 (.t 2)),
 gT 12 10 (.load 5 true (.t 11)),
 gT 13 10 (.faddr 13 (.t 3)),
 gT 14 10 (.load 5 true (.t 13)),
 gT 15 10 (.call false (.f 23) [.t 12, .t 14]),
 oP 16 10 15,
 oM 17 16,
 gT 18 17 (.faddr 18 (.t 2)),
 gT 19 17 (.load 5 true (.t 18)),
 gT 20 17 (.faddr 18 (.t 3)),
 gT 21 17 (.load 5 true (.t 20)),
 gT 22 17 (.call false (.f 23) [.t 19, .t 21]),
 oP 23 17 22,
 oM 4 23] false)
 (.ret))
def K2l : IFn := ⟨2, 24, [.tmp 4], false, Q1pw⟩
def Q1n7 : IR :=
 .seq (.reg [o 1 (.box 32 (.t 0)),
 o 2 (.zero zL2)] false)
 (.seq (.reg [oF 4 0 1,
 oL 5 13 4,
 o 3 (.zero zL7),
 oS 13 3 5] false)
 (.seq (.reg [oF 6 0 3,
 ⟨none, none, .store 1 (.t 6) (sA55), []⟩] false)
 (.seq (.reg [oL 7 13 3,
 oF 8 13 1,
 ob 9 (.load 10 true (.t 8)) [1],
 oD 10 59 ([.t 9]) [1, 2],
 oF 11 23 1,
 ob 12 (.load 9 true (.t 11)) [4],
 oD 13 60 ([.t 12]) (rg 1 6),
 ob 14 (.build zL2 [(0, 13, .t 7), (13, 5, .t 10), (18, 5, .t 13)]) (rg 0 7),
 ⟨none, none, .store 23 (.t 2) (.t 14), (rg 0 8)⟩] true)
 (.ret))))
def K2b : IFn := ⟨1, 15, [.cell 2 23 true], false, Q1n7⟩
def Q1mg : IR :=
 .seq (.reg [o 1 (.box 24 (.t 0)),
 o 2 (.zero zL2)] false)
 (.seq (.reg [oF 6 0 1,
 oL 7 13 6,
 o 3 (.zero zL7),
 oS 13 3 7] false)
 (.seq (.reg [oF 8 0 3,
 ⟨none, none, .store 1 (.t 8) (sA54), []⟩] false)
 (.seq (.reg [oF 9 13 1,
 ob 10 (.load 3 true (.t 9)) [0],
 oD 11 72 ([.t 10]) [0, 1],
 oD 12 71 ([sA62, .t 11]) [0, 1, 2],
 oF 13 17 1,
 oE 14 1 13 [4],
 oD 15 73 ([.t 14]) (rg 0 6),
 oD 16 71 ([sA60, .t 15]) (rg 0 7),
 oF 17 16 1,
 oE 18 1 17 [8],
 oD 19 74 ([.t 18]) (rg 0 10),
 oD 20 71 ([sA17, .t 19]) (rg 0 11),
 oF 21 18 1,
 oE 22 1 21 [12],
 oD 23 75 ([.t 22]) (rg 0 14),
 oD 24 71 ([sA49, .t 23]) (rg 0 15),
 ob 25 (.lit 6 4 zL4 [(0, .t 12), (1, .t 16), (2, .t 20), (3, .t 24)]) (rg 0 16),
 oD 26 70 ([.t 25]) (rg 0 17),
 o 4 (.zero zL0),
 ⟨none, none, .store 5 (.t 4) (.t 26), (rg 0 19)⟩] true)
 (.seq (.reg [oF 27 20 1,
 oE 28 1 27 [0],
 oD 29 74 ([.t 28]) [0, 1],
 oD 30 71 ([sA58, .t 29]) [0, 1, 2],
 oF 31 23 1,
 oE 32 1 31 [4],
 oD 33 76 ([.t 32]) (rg 0 6),
 oD 34 71 ([sA8, .t 33]) (rg 0 7),
 oF 35 22 1,
 oE 36 1 35 [8],
 oD 37 73 ([.t 36]) (rg 0 10),
 oD 38 71 ([sA13, .t 37]) (rg 0 11),
 oF 39 21 1,
 oE 40 1 39 [12],
 oD 41 73 ([.t 40]) (rg 0 14),
 oD 42 71 ([sA14, .t 41]) (rg 0 15),
 oF 43 19 1,
 oE 44 1 43 [16],
 oD 45 73 ([.t 44]) (rg 0 18),
 oD 46 71 ([sA35, .t 45]) (rg 0 19),
 ob 47 (.lit 6 5 zL4 [(0, .t 30), (1, .t 34), (2, .t 38), (3, .t 42), (4, .t 46)]) (rg 0 20),
 oD 48 70 ([.t 47]) (rg 0 21),
 o 5 (.zero zL0),
 ⟨none, none, .store 5 (.t 5) (.t 48), (rg 0 23)⟩] true)
 (.seq (.reg [oL 49 13 3,
 oL 50 5 4,
 oL 51 5 5,
 o 52 (.build zL2 [(0, 13, .t 49), (13, 5, .t 50), (18, 5, .t 51)]),
 oS 23 2 52] false)
 (.ret))))))
def K2a : IFn := ⟨1, 53, [.cell 2 23 true], false, Q1mg⟩
def Kb_c : IR :=
 .seq (.reg [o 1 (.box 11 (.t 0)),
 o 2 (.zero zL0)] false)
 (.seq (.reg [oF 3 0 1,
 oE 4 1 3 [0],
 oD 5 77 ([.t 4, .f 78]) [0, 1],
 oD 6 62 ([sA15, .t 5]) [0, 1, 2],
 oF 7 1 1,
 ob 8 (.load 10 true (.t 7)) [4],
 oD 9 56 ([.t 8]) (rg 0 6),
 oD 10 62 ([sA41, .t 9]) (rg 0 7),
 ob 11 (.lit 6 2 zL4 [(0, .t 6), (1, .t 10)]) (rg 0 8),
 oD 12 61 ([.t 11]) (rg 0 9),
 ⟨none, none, .store 5 (.t 2) (.t 12), (rg 0 10)⟩] true)
 (.ret))
def Kb : IFn := ⟨1, 13, [.cell 2 5 true], false, Kb_c⟩
def Q1nb : IR :=
 .seq (.reg [o 1 (.box 11 (.t 0)),
 o 2 (.zero zL0)] false)
 (.seq (.reg [oF 3 0 1,
 oE 4 1 3 [0],
 oD 5 79 ([.t 4]) [0, 1],
 oD 6 71 ([sA15, .t 5]) [0, 1, 2],
 oF 7 1 1,
 ob 8 (.load 10 true (.t 7)) [4],
 oD 9 59 ([.t 8]) (rg 0 6),
 oD 10 71 ([sA41, .t 9]) (rg 0 7),
 ob 11 (.lit 6 2 zL4 [(0, .t 6), (1, .t 10)]) (rg 0 8),
 oD 12 70 ([.t 11]) (rg 0 9),
 ⟨none, none, .store 5 (.t 2) (.t 12), (rg 0 10)⟩] true)
 (.ret))
def K2f : IFn := ⟨1, 13, [.cell 2 5 true], false, Q1nb⟩
def Qhm : List Nat := [100012, 1, 2, 6]
def Q1dx : IR :=
 .seq (.seq (.reg [oM 31 6,
 oF 32 4 2,
 oK 33 1 32,
 oN 34 33,
 o 35 (.bin .lss (.t 31) (.t 34)),
 oM 36 35,
 gT 37 36 (.mov (.t 1)),
 gT 38 36 (.bin .geq (.t 37) (.c zI)),
 oP 39 36 38] false)
 (.cond (.t 39) (.skip)
 (.exit 2)))
 (.seq (.block 3 (.reg [oF 42 4 2,
 oE 43 1 42 [0],
 oM 44 6,
 ob 45 (.iaddr 6 (.t 43) (.t 44)) [0, 1, 2],
 ob 46 (.faddr 1 (.t 45)) [0, 1, 2, 3],
 ob 47 (.load 5 true (.t 46)) (rg 0 5),
 oM 48 1,
 oF 49 4 2,
 oE 50 1 49 [7],
 oM 51 6,
 ob 52 (.iaddr 6 (.t 50) (.t 51)) [7, 8, 9],
 ob 53 (.faddr 0 (.t 52)) [7, 8, 9, 10],
 oE 54 1 53 (rg 7 12),
 ob 55 (.len true (.t 54)) (rg 7 13),
 ob 56 (.bin .sub (.t 48) (.t 55)) (rg 6 14),
 oD 57 30 ([.t 47, .t 56]) (rg 0 15),
 ob 1 (.mov (.t 57)) (rg 0 16)] true))
 (.reg [oM 40 6,
 oA 41 40,
 oM 6 41] false))
def Qln : List Nat := [100011, 1, 2, 5]
def Q1eo : IR :=
 .seq (.seq (.reg [oM 13 5,
 oF 14 3 2,
 oK 15 1 14,
 oN 16 15,
 o 17 (.bin .lss (.t 13) (.t 16)),
 oM 18 17,
 gT 19 18 (.mov (.t 1)),
 gT 20 18 (.bin .geq (.t 19) (.c zI)),
 oP 21 18 20] false)
 (.cond (.t 21) (.skip)
 (.exit 0)))
 (.seq (.block 1 (.reg [oF 24 3 2,
 oK 25 1 24,
 oM 26 5,
 oI 27 5 25 26,
 oL 28 5 27,
 oM 29 1,
 oC 30 30 ([.t 28, .t 29]),
 oM 1 30] false))
 (.reg [oM 22 5,
 oA 23 22,
 oM 5 23] false))
def Q1tc : IR :=
 .seq (.reg [o 2 (.box 5 (.t 0)),
 o 4 (.mov (.c zI))] false)
 (.seq (.reg [oM 7 1,
 o 8 (.bin .sub (.t 7) (.c (.int .i64 1))),
 oF 9 2 2,
 oK 10 1 9,
 o 11 (.len true (.t 10)),
 o 12 (.bin .sub (.t 8) (.t 11)),
 oM 1 12] false)
 (.seq (.seq (.reg [o 5 (.mov (.c zI))] false)
 (.block 0 (.loop Qln Q1eo)))
 (.seq (.seq (.reg [o 6 (.mov (.c zI))] false)
 (.block 2 (.loop Qhm Q1dx)))
 (.seq (.reg [oM 58 1,
 oM 4 58] false)
 (.ret)))))
def K28 : IFn := ⟨2, 59, [.tmp 4], false, Q1tc⟩
def Qpz : List Nat := [100013, 1, 2, 22, 23]
def Q1jo : IR :=
 .seq (.reg [o 24 (.bin .lss (.t 23) (.t 22))] false)
 (.seq (.cond (.t 24) (.skip)
 (.exit 0))
 (.seq (.block 1 (.seq (.reg [oM 25 23,
 oM 3 25] false)
 (.reg [oF 26 12 1,
 oE 27 1 26 [0],
 oM 28 3,
 oF 29 12 1,
 oE 30 1 29 [3],
 oM 31 3,
 ob 32 (.iaddr 2 (.t 30) (.t 31)) [3, 4, 5],
 ob 33 (.faddr 1 (.t 32)) [3, 4, 5, 6],
 oE 34 1 33 (rg 3 8),
 oD 35 82 ([.t 34]) (rg 3 9),
 ob 36 (.iaddr 2 (.t 27) (.t 28)) (rg 0 10),
 ob 37 (.faddr 1 (.t 36)) (rg 0 11),
 ⟨none, none, .store 1 (.t 37) (.t 35), (rg 0 12)⟩] true)))
 (.reg [oA 38 23,
 oM 23 38] false)))
def Kf_c : IR :=
 .seq (.reg [o 1 (.box 13 (.t 0)),
 o 2 (.zero zL7)] false)
 (.seq (.reg [oF 4 9 1,
 oE 5 1 4 [0],
 oD 6 80 ([.t 5]) [0, 1],
 oF 7 10 1,
 oE 8 1 7 [3],
 oD 9 81 ([.t 8]) (rg 0 5),
 oF 10 11 1,
 oE 11 1 10 [6],
 oD 12 82 ([.t 11]) (rg 0 8),
 oF 13 12 1,
 oE 14 1 13 [9],
 oD 15 83 ([.t 14]) (rg 0 11),
 ob 16 (.faddr 9 (.t 1)) (rg 0 5 ++ [6, 7, 9, 10]),
 ⟨none, none, .store 1 (.t 16) (.t 6), (rg 0 13)⟩,
 ob 17 (.faddr 10 (.t 1)) (rg 0 14),
 ⟨none, none, .store 1 (.t 17) (.t 9), (rg 0 15)⟩,
 ob 18 (.faddr 11 (.t 1)) (rg 0 16),
 ⟨none, none, .store 1 (.t 18) (.t 12), (rg 0 17)⟩,
 ob 19 (.faddr 12 (.t 1)) (rg 0 18),
 ⟨none, none, .store 1 (.t 19) (.t 15), (rg 0 19)⟩] true)
 (.seq (.seq (.reg [oF 20 12 1,
 oK 21 1 20,
 oN 22 21,
 o 23 (.mov (.c zI))] false)
 (.block 0 (.loop Qpz Q1jo)))
 (.seq (.reg [oL 39 13 1,
 oS 13 2 39] false)
 (.ret))))
def Kf : IFn := ⟨1, 40, [.cell 2 13 true], false, Kf_c⟩
def Ks_c : IR :=
 .seq (.reg [o 3 (.box 5 (.t 1)),
 o 4 (.zero zL6)] false)
 (.seq (.reg [oM 5 0,
 oL 6 5 3,
 oC 7 36 ([.t 5, .t 6])] false)
 (.seq (.reg [oM 8 0,
 oL 9 5 3,
 oD 10 84 ([.t 8, .t 9, sA21]) [0, 1],
 oM 11 0,
 oL 12 5 3,
 oD 13 39 ([.t 11, .t 12, sA28]) (rg 0 5),
 oM 14 0,
 oL 15 5 3,
 oD 16 39 ([.t 14, .t 15, sA33]) (rg 0 8),
 oM 17 0,
 oL 18 5 3,
 oD 19 39 ([.t 17, .t 18, sA7]) (rg 0 11),
 oM 20 0,
 oL 21 5 3,
 oM 22 0,
 ob 23 (.mkfn 86 [.t 22] []) [14],
 oD 24 85 ([.t 20, .t 21, sA59, .t 23]) (rg 0 16),
 oM 25 0,
 oL 26 5 3,
 oM 27 0,
 ob 28 (.mkfn 88 [.t 27] []) [19],
 oD 29 87 ([.t 25, .t 26, sA19, .t 28]) (rg 0 21),
 oM 30 0,
 oL 31 5 3,
 oM 32 0,
 ob 33 (.mkfn 90 [.t 32] []) [24],
 oD 34 89 ([.t 30, .t 31, sA20, .t 33]) (rg 0 26),
 oM 35 0,
 oL 36 5 3,
 oM 37 0,
 ob 38 (.mkfn 92 [.t 37] []) [29],
 oD 39 91 ([.t 35, .t 36, sA27, .t 38]) (rg 0 31),
 oM 40 0,
 oL 41 5 3,
 oM 42 0,
 ob 43 (.mkfn 94 [.t 42] []) [34],
 oD 44 93 ([.t 40, .t 41, sA42, .t 43]) (rg 0 36),
 oM 45 0,
 oL 46 5 3,
 oM 47 0,
 ob 48 (.mkfn 96 [.t 47] []) [39],
 oD 49 95 ([.t 45, .t 46, sA47, .t 48]) (rg 0 41),
 ob 50 (.build zL6 [(0, 1, .t 10), (1, 1, .t 13), (2, 1, .t 16), (3, 1, .t 19), (4, 1, .t 24), (5, 1, .t 29), (6, 1, .t 34), (7, 1, .t 39), (8, 1, .t 44), (9, 1, .t 49)]) (rg 0 42),
 ⟨none, none, .store 10 (.t 4) (.t 50), (rg 0 43)⟩] true)
 (.ret)))
def Ks : IFn := ⟨2, 51, [.cell 4 10 true], false, Ks_c⟩
def Ku_c : IR :=
 .seq (.reg [o 3 (.box 5 (.t 1)),
 o 4 (.zero zL8)] false)
 (.seq (.reg [oM 5 0,
 oL 6 5 3,
 oC 7 36 ([.t 5, .t 6])] false)
 (.seq (.reg [oM 8 0,
 oL 9 5 3,
 oD 10 39 ([.t 8, .t 9, sA26]) [0, 1],
 oM 11 0,
 oL 12 5 3,
 oD 13 40 ([.t 11, .t 12, sA35]) (rg 0 5),
 oM 14 0,
 oL 15 5 3,
 oD 16 39 ([.t 14, .t 15, sA34]) (rg 0 8),
 oM 17 0,
 oL 18 5 3,
 oD 19 39 ([.t 17, .t 18, sA43]) (rg 0 11),
 oM 20 0,
 oL 21 5 3,
 oD 22 39 ([.t 20, .t 21, sA5]) (rg 0 14),
 oM 23 0,
 oL 24 5 3,
 oM 25 0,
 ob 26 (.mkfn 98 [.t 25] []) [17],
 oD 27 97 ([.t 23, .t 24, sA59, .t 26]) (rg 0 19),
 oM 28 0,
 oL 29 5 3,
 oD 30 39 ([.t 28, .t 29, sA56]) (rg 0 22),
 oM 31 0,
 oL 32 5 3,
 oD 33 84 ([.t 31, .t 32, sA22]) (rg 0 25),
 oM 34 0,
 oL 35 5 3,
 oD 36 84 ([.t 34, .t 35, sA36]) (rg 0 28),
 ob 37 (.build zL8 [(0, 1, .t 10), (1, 1, .t 13), (2, 1, .t 16), (3, 1, .t 19), (4, 1, .t 22), (5, 1, .t 27), (6, 1, .t 30), (7, 1, .t 33), (8, 1, .t 36)]) (rg 0 29),
 ⟨none, none, .store 9 (.t 4) (.t 37), (rg 0 30)⟩] true)
 (.ret)))
def Ku : IFn := ⟨2, 38, [.cell 4 9 true], false, Ku_c⟩
def Qji : List Nat := [100014, 1, 2, 4, 5, 26]
def Q1e4 : IR :=
 .seq (.seq (.reg [oM 119 26,
 o 120 (.bin .lss (.t 119) (.c (.int .i64 10)))] false)
 (.cond (.t 120) (.skip)
 (.exit 0)))
 (.seq (.block 1 (.seq (.reg [oM 123 26,
 o 124 (.aaddr 10 1 (.t 5) (.t 123)),
 oK 125 1 124,
 oU 126 125] false)
 (.cond (.t 126) (.seq (.reg [o 127 (.build zL6 []),
 oS 10 2 127,
 o 3 (.mov (.c zB))] false)
 (.ret))
 (.skip))))
 (.reg [oM 121 26,
 oA 122 121,
 oM 26 122] false))
def Q1s3 : IR :=
 .seq (.reg [o 1 (.box 5 (.t 0)),
 o 2 (.zero zL6),
 o 3 (.mov (.c zB))] false)
 (.seq (.reg [o 27 (.build zL6 []),
 o 4 (.zero zL6),
 oS 10 4 27] false)
 (.seq (.reg [o 28 (.bzero zL12),
 o 5 (.zero zL12),
 oS 10 5 28] false)
 (.seq (.reg [oL 30 5 1,
 oC 31 99 ([.t 30]),
 oM 29 31,
 oX 32 29 0,
 oX 33 29 1,
 oM 6 32,
 oM 7 33] false)
 (.seq (.reg [oM 34 6,
 oF 35 4 4,
 oS 1 35 34] false)
 (.seq (.reg [oM 36 7,
 o 37 (.aaddr 10 1 (.t 5) (.c zI)),
 oS 1 37 36] false)
 (.seq (.reg [oL 39 5 1,
 oC 40 47 ([.t 39, sA7]),
 oM 38 40,
 oX 41 38 0,
 oX 42 38 1,
 oM 8 41,
 oM 9 42] false)
 (.seq (.reg [oM 43 8,
 oF 44 3 4,
 oS 1 44 43] false)
 (.seq (.reg [oM 45 9,
 o 46 (.aaddr 10 1 (.t 5) (.c (.int .i64 1))),
 oS 1 46 45] false)
 (.seq (.reg [oL 48 5 1,
 oC 49 54 ([.t 48, sA21]),
 oM 47 49,
 oX 50 47 0,
 oX 51 47 1,
 oM 10 50,
 oM 11 51] false)
 (.seq (.reg [oM 52 10,
 oF 53 0 4,
 oS 1 53 52] false)
 (.seq (.reg [oM 54 11,
 o 55 (.aaddr 10 1 (.t 5) (.c (.int .i64 2))),
 oS 1 55 54] false)
 (.seq (.reg [oL 57 5 1,
 oC 58 100 ([.t 57, sA19]),
 oM 56 58,
 oX 59 56 0,
 oX 60 56 1,
 oM 12 59,
 oM 13 60] false)
 (.seq (.reg [oM 61 12,
 oF 62 5 4,
 oS 1 62 61] false)
 (.seq (.reg [oM 63 13,
 o 64 (.aaddr 10 1 (.t 5) (.c (.int .i64 3))),
 oS 1 64 63] false)
 (.seq (.reg [oL 66 5 1,
 oC 67 101 ([.t 66]),
 oM 65 67,
 oX 68 65 0,
 oX 69 65 1,
 oM 14 68,
 oM 15 69] false)
 (.seq (.reg [oM 70 14,
 oF 71 6 4,
 oS 1 71 70] false)
 (.seq (.reg [oM 72 15,
 o 73 (.aaddr 10 1 (.t 5) (.c (.int .i64 4))),
 oS 1 73 72] false)
 (.seq (.reg [oL 75 5 1,
 oC 76 102 ([.t 75]),
 oM 74 76,
 oX 77 74 0,
 oX 78 74 1,
 oM 16 77,
 oM 17 78] false)
 (.seq (.reg [oM 79 16,
 oF 80 7 4,
 oS 1 80 79] false)
 (.seq (.reg [oM 81 17,
 o 82 (.aaddr 10 1 (.t 5) (.c (.int .i64 5))),
 oS 1 82 81] false)
 (.seq (.reg [oL 84 5 1,
 oC 85 47 ([.t 84, sA28]),
 oM 83 85,
 oX 86 83 0,
 oX 87 83 1,
 oM 18 86,
 oM 19 87] false)
 (.seq (.reg [oM 88 18,
 oF 89 1 4,
 oS 1 89 88] false)
 (.seq (.reg [oM 90 19,
 o 91 (.aaddr 10 1 (.t 5) (.c (.int .i64 6))),
 oS 1 91 90] false)
 (.seq (.reg [oL 93 5 1,
 oC 94 47 ([.t 93, sA33]),
 oM 92 94,
 oX 95 92 0,
 oX 96 92 1,
 oM 20 95,
 oM 21 96] false)
 (.seq (.reg [oM 97 20,
 oF 98 2 4,
 oS 1 98 97] false)
 (.seq (.reg [oM 99 21,
 o 100 (.aaddr 10 1 (.t 5) (.c (.int .i64 7))),
 oS 1 100 99] false)
 (.seq (.reg [oL 102 5 1,
 oC 103 103 ([.t 102]),
 oM 101 103,
 oX 104 101 0,
 oX 105 101 1,
 oM 22 104,
 oM 23 105] false)
 (.seq (.reg [oM 106 22,
 oF 107 8 4,
 oS 1 107 106] false)
 (.seq (.reg [oM 108 23,
 o 109 (.aaddr 10 1 (.t 5) (.c (.int .i64 8))),
 oS 1 109 108] false)
 (.seq (.reg [oL 111 5 1,
 oC 112 104 ([.t 111]),
 oM 110 112,
 oX 113 110 0,
 oX 114 110 1,
 oM 24 113,
 oM 25 114] false)
 (.seq (.reg [oM 115 24,
 oF 116 9 4,
 oS 1 116 115] false)
 (.seq (.reg [oM 117 25,
 o 118 (.aaddr 10 1 (.t 5) (.c (.int .i64 9))),
 oS 1 118 117] false)
 (.seq (.seq (.reg [o 26 (.mov (.c zI))] false)
 (.block 0 (.loop Qji Q1e4)))
 (.seq (.reg [oL 128 10 4,
 oL 129 5 1,
 oD 130 50 ([.t 129]) [1],
 ⟨none, none, .store 10 (.t 2) (.t 128), [0, 1, 2]⟩,
 ob 3 (.mov (.t 130)) [0, 1, 2, 3]] true)
 (.ret)))))))))))))))))))))))))))))))))))
def K2t : IFn := ⟨1, 131, [.cell 2 10 true, .tmp 3], false, Q1s3⟩
def Qlj : List Nat := [100015, 1, 2, 4, 5, 24]
def Q1el : IR :=
 .seq (.seq (.reg [oM 108 24,
 o 109 (.bin .lss (.t 108) (.c (.int .i64 9)))] false)
 (.cond (.t 109) (.skip)
 (.exit 0)))
 (.seq (.block 1 (.seq (.reg [oM 112 24,
 o 113 (.aaddr 9 1 (.t 5) (.t 112)),
 oK 114 1 113,
 oU 115 114] false)
 (.cond (.t 115) (.seq (.reg [o 116 (.build zL8 []),
 oS 9 2 116,
 o 3 (.mov (.c zB))] false)
 (.ret))
 (.skip))))
 (.reg [oM 110 24,
 oA 111 110,
 oM 24 111] false))
def Q1pc : IR :=
 .seq (.reg [o 1 (.box 5 (.t 0)),
 o 2 (.zero zL8),
 o 3 (.mov (.c zB))] false)
 (.seq (.reg [o 25 (.build zL8 []),
 o 4 (.zero zL8),
 oS 9 4 25] false)
 (.seq (.reg [o 26 (.bzero zL10),
 o 5 (.zero zL10),
 oS 9 5 26] false)
 (.seq (.reg [oL 28 5 1,
 oC 29 47 ([.t 28, sA56]),
 oM 27 29,
 oX 30 27 0,
 oX 31 27 1,
 oM 6 30,
 oM 7 31] false)
 (.seq (.reg [oM 32 6,
 oF 33 6 4,
 oS 1 33 32] false)
 (.seq (.reg [oM 34 7,
 o 35 (.aaddr 9 1 (.t 5) (.c zI)),
 oS 1 35 34] false)
 (.seq (.reg [oL 37 5 1,
 oC 38 105 ([.t 37]),
 oM 36 38,
 oX 39 36 0,
 oX 40 36 1,
 oM 8 39,
 oM 9 40] false)
 (.seq (.reg [oM 41 8,
 oF 42 5 4,
 oS 1 42 41] false)
 (.seq (.reg [oM 43 9,
 o 44 (.aaddr 9 1 (.t 5) (.c (.int .i64 1))),
 oS 1 44 43] false)
 (.seq (.reg [oL 46 5 1,
 oC 47 47 ([.t 46, sA5]),
 oM 45 47,
 oX 48 45 0,
 oX 49 45 1,
 oM 10 48,
 oM 11 49] false)
 (.seq (.reg [oM 50 10,
 oF 51 4 4,
 oS 1 51 50] false)
 (.seq (.reg [oM 52 11,
 o 53 (.aaddr 9 1 (.t 5) (.c (.int .i64 2))),
 oS 1 53 52] false)
 (.seq (.reg [oL 55 5 1,
 oC 56 54 ([.t 55, sA22]),
 oM 54 56,
 oX 57 54 0,
 oX 58 54 1,
 oM 12 57,
 oM 13 58] false)
 (.seq (.reg [oM 59 12,
 oF 60 7 4,
 oS 1 60 59] false)
 (.seq (.reg [oM 61 13,
 o 62 (.aaddr 9 1 (.t 5) (.c (.int .i64 3))),
 oS 1 62 61] false)
 (.seq (.reg [oL 64 5 1,
 oC 65 47 ([.t 64, sA26]),
 oM 63 65,
 oX 66 63 0,
 oX 67 63 1,
 oM 14 66,
 oM 15 67] false)
 (.seq (.reg [oM 68 14,
 oF 69 0 4,
 oS 1 69 68] false)
 (.seq (.reg [oM 70 15,
 o 71 (.aaddr 9 1 (.t 5) (.c (.int .i64 4))),
 oS 1 71 70] false)
 (.seq (.reg [oL 73 5 1,
 oC 74 46 ([.t 73, sA35]),
 oM 72 74,
 oX 75 72 0,
 oX 76 72 1,
 oM 16 75,
 oM 17 76] false)
 (.seq (.reg [oM 77 16,
 oF 78 1 4,
 oS 1 78 77] false)
 (.seq (.reg [oM 79 17,
 o 80 (.aaddr 9 1 (.t 5) (.c (.int .i64 5))),
 oS 1 80 79] false)
 (.seq (.reg [oL 82 5 1,
 oC 83 47 ([.t 82, sA34]),
 oM 81 83,
 oX 84 81 0,
 oX 85 81 1,
 oM 18 84,
 oM 19 85] false)
 (.seq (.reg [oM 86 18,
 oF 87 2 4,
 oS 1 87 86] false)
 (.seq (.reg [oM 88 19,
 o 89 (.aaddr 9 1 (.t 5) (.c (.int .i64 6))),
 oS 1 89 88] false)
 (.seq (.reg [oL 91 5 1,
 oC 92 54 ([.t 91, sA36]),
 oM 90 92,
 oX 93 90 0,
 oX 94 90 1,
 oM 20 93,
 oM 21 94] false)
 (.seq (.reg [oM 95 20,
 oF 96 8 4,
 oS 1 96 95] false)
 (.seq (.reg [oM 97 21,
 o 98 (.aaddr 9 1 (.t 5) (.c (.int .i64 7))),
 oS 1 98 97] false)
 (.seq (.reg [oL 100 5 1,
 oC 101 47 ([.t 100, sA43]),
 oM 99 101,
 oX 102 99 0,
 oX 103 99 1,
 oM 22 102,
 oM 23 103] false)
 (.seq (.reg [oM 104 22,
 oF 105 3 4,
 oS 1 105 104] false)
 (.seq (.reg [oM 106 23,
 o 107 (.aaddr 9 1 (.t 5) (.c (.int .i64 8))),
 oS 1 107 106] false)
 (.seq (.seq (.reg [o 24 (.mov (.c zI))] false)
 (.block 0 (.loop Qlj Q1el)))
 (.seq (.reg [oL 117 9 4,
 oL 118 5 1,
 oD 119 50 ([.t 118]) [1],
 ⟨none, none, .store 9 (.t 2) (.t 117), [0, 1, 2]⟩,
 ob 3 (.mov (.t 119)) [0, 1, 2, 3]] true)
 (.ret))))))))))))))))))))))))))))))))
def K3m : IFn := ⟨1, 120, [.cell 2 9 true, .tmp 3], false, Q1pc⟩
def Kw_c : IR :=
 .seq (.reg [o 3 (.box 5 (.t 1)),
 o 4 (.zero zL0)] false)
 (.seq (.reg [oM 5 0,
 oM 6 0,
 o 7 (.nilck (.t 6)),
 oF 8 0 7,
 oK 9 1 8,
 oM 10 9,
 gF 11 10 (.faddr 0 (.t 3)),
 gF 12 10 (.load 1 false (.t 11)),
 gF 13 10 (.bin .neq (.t 12) (.c (.int .i64 5))),
 gF 14 10 (.mov (.t 13)),
 gT 15 14 (.faddr 0 (.t 3)),
 gT 16 14 (.load 1 false (.t 15)),
 gT 17 14 (.bin .neq (.t 16) (.c zI)),
 gF 18 10 (.pick (.t 14) (.t 17) (.c zB)),
 oQ 19 10 18,
 o 20 (.nilck (.t 5)),
 oF 21 0 20,
 oS 1 21 19] false)
 (.seq (.reg [oL 22 5 3,
 oS 5 4 22] false)
 (.ret)))
def Kw : IFn := ⟨2, 23, [.cell 4 5 true], false, Kw_c⟩
def Kr_c : IR :=
 .seq (.reg [o 3 (.box 5 (.t 1)),
 o 4 (.zero [zI, zI, zI])] false)
 (.seq (.reg [oM 5 0,
 oL 6 5 3,
 oD 7 39 ([.t 5, .t 6, sA61]) [0, 1],
 oM 8 0,
 oL 9 5 3,
 oD 10 39 ([.t 8, .t 9, sA16]) (rg 0 5),
 oM 11 0,
 oL 12 5 3,
 oD 13 39 ([.t 11, .t 12, sA1]) (rg 0 8),
 ob 14 (.build [zI, zI, zI] [(0, 1, .t 7), (1, 1, .t 10), (2, 1, .t 13)]) (rg 0 9),
 ⟨none, none, .store 3 (.t 4) (.t 14), (rg 0 10)⟩] true)
 (.ret))
def Kr : IFn := ⟨2, 15, [.cell 4 3 true], false, Kr_c⟩
def Kx_c : IR :=
 .seq (.reg [o 4 (.box 5 (.t 1)),
 o 6 (.zero zL0)] false)
 (.seq (.reg [oM 7 0,
 oL 8 5 4,
 oM 9 2,
 oC 10 106 ([.t 7, .t 8, .t 9, .c (.int .i64 5)]),
 oS 5 6 10] false)
 (.ret))
def Kx : IFn := ⟨3, 11, [.cell 6 5 true], false, Kx_c⟩
def Kn_c : IR :=
 .seq (.reg [o 4 (.box 5 (.t 1)),
 o 6 (.mov (.c zI))] false)
 (.seq (.reg [oM 7 0,
 oL 8 5 4,
 oM 9 2,
 oC 10 106 ([.t 7, .t 8, .t 9, .c (.int .i64 2)]),
 o 11 (.field 1 1 false (.t 10)),
 oM 6 11] false)
 (.ret))
def Kn : IFn := ⟨3, 12, [.tmp 6], false, Kn_c⟩
def Ki_c : IR :=
 .seq (.reg [o 4 (.box 5 (.t 1)),
 o 6 (.mov (.c zB))] false)
 (.seq (.reg [oM 7 0,
 oL 8 5 4,
 oM 9 2,
 oC 10 106 ([.t 7, .t 8, .t 9, .c (.int .i64 1)]),
 o 11 (.field 1 1 false (.t 10)),
 o 12 (.bin .neq (.t 11) (.c zI)),
 oM 6 12] false)
 (.ret))
def Ki : IFn := ⟨3, 13, [.tmp 6], false, Ki_c⟩
def Qih : List Nat := [100016, 3, 9, 16, 17, 18]
def Q1f7 : IR :=
 .seq (.reg [o 19 (.bin .lss (.t 18) (.t 17))] false)
 (.seq (.cond (.t 19) (.skip)
 (.exit 0))
 (.seq (.block 1 (.seq (.reg [oI 20 5 16 18,
 oL 21 5 20,
 o 11 (.zero zL0),
 oS 5 11 21] false)
 (.reg [oM 22 9,
 oM 23 3,
 oL 24 5 11,
 o 25 (.call false (.t 23) [.t 24]),
 o 26 (.lit 4 1 [zS, zS, zI, zI] [(0, .t 25)]),
 oJ 27 4 48 22 26,
 oM 9 27] false)))
 (.reg [oA 28 18,
 oM 18 28] false)))
def Q1o7 : IR :=
 .seq (.reg [o 5 (.box 5 (.t 1)),
 o 8 (.mov (.c (.ns 4)))] false)
 (.seq (.reg [o 9 (.mov (.c (.ns 4)))] false)
 (.seq (.seq (.reg [oM 12 0,
 oL 13 5 5,
 oM 14 2,
 oC 15 106 ([.t 12, .t 13, .t 14, .c (.int .i64 4)]),
 o 16 (.field 3 1 false (.t 15)),
 oN 17 16,
 o 18 (.mov (.c zI))] false)
 (.block 0 (.loop Qih Q1f7)))
 (.seq (.reg [oM 29 9,
 oM 8 29] false)
 (.ret))))
def K11 : IFn := ⟨4, 30, [.tmp 8], false, Q1o7⟩
def Ky_c : IR :=
 .seq (.reg [o 3 (.box 5 (.t 1)),
 o 4 (.zero [zS, zS, zI, zI])] false)
 (.seq (.reg [oM 5 0,
 oL 6 5 3,
 oC 7 36 ([.t 5, .t 6])] false)
 (.seq (.reg [oM 8 0,
 oL 9 5 3,
 oD 10 84 ([.t 8, .t 9, sA10]) [0, 1],
 oM 11 0,
 oL 12 5 3,
 oD 13 84 ([.t 11, .t 12, sA52]) (rg 0 5),
 oM 14 0,
 oL 15 5 3,
 oD 16 39 ([.t 14, .t 15, sA2]) (rg 0 8),
 oM 17 0,
 oL 18 5 3,
 oD 19 39 ([.t 17, .t 18, sA39]) (rg 0 11),
 ob 20 (.build [zS, zS, zI, zI] [(0, 1, .t 10), (1, 1, .t 13), (2, 1, .t 16), (3, 1, .t 19)]) (rg 0 12),
 ⟨none, none, .store 4 (.t 4) (.t 20), (rg 0 13)⟩] true)
 (.ret)))
def Ky : IFn := ⟨2, 21, [.cell 4 4 true], false, Ky_c⟩
def Qm1 : List Nat := [100017, 3, 9, 16, 17, 18]
def Q1ep : IR :=
 .seq (.reg [o 19 (.bin .lss (.t 18) (.t 17))] false)
 (.seq (.cond (.t 19) (.skip)
 (.exit 0))
 (.seq (.block 1 (.seq (.reg [oI 20 5 16 18,
 oL 21 5 20,
 o 11 (.zero zL0),
 oS 5 11 21] false)
 (.reg [oM 22 9,
 oM 23 3,
 oL 24 5 11,
 o 25 (.call false (.t 23) [.t 24]),
 o 26 (.lit 3 1 [zS, zI, zI] [(0, .t 25)]),
 oJ 27 3 32 22 26,
 oM 9 27] false)))
 (.reg [oA 28 18,
 oM 18 28] false)))
def Q1m2 : IR :=
 .seq (.reg [o 5 (.box 5 (.t 1)),
 o 8 (.mov (.c (.ns 3)))] false)
 (.seq (.reg [o 9 (.mov (.c (.ns 3)))] false)
 (.seq (.seq (.reg [oM 12 0,
 oL 13 5 5,
 oM 14 2,
 oC 15 106 ([.t 12, .t 13, .t 14, .c (.int .i64 4)]),
 o 16 (.field 3 1 false (.t 15)),
 oN 17 16,
 o 18 (.mov (.c zI))] false)
 (.block 0 (.loop Qm1 Q1ep)))
 (.seq (.reg [oM 29 9,
 oM 8 29] false)
 (.ret))))
def K14 : IFn := ⟨4, 30, [.tmp 8], false, Q1m2⟩
def Kk_c : IR :=
 .seq (.reg [o 3 (.box 5 (.t 1)),
 o 4 (.zero [zS, zI, zI])] false)
 (.seq (.reg [oM 5 0,
 oL 6 5 3,
 oC 7 36 ([.t 5, .t 6])] false)
 (.seq (.reg [oM 8 0,
 oL 9 5 3,
 oD 10 84 ([.t 8, .t 9, sA23]) [0, 1],
 oM 11 0,
 oL 12 5 3,
 oD 13 39 ([.t 11, .t 12, sA40]) (rg 0 5),
 oM 14 0,
 oL 15 5 3,
 oD 16 39 ([.t 14, .t 15, sA50]) (rg 0 8),
 ob 17 (.build [zS, zI, zI] [(0, 1, .t 10), (1, 1, .t 13), (2, 1, .t 16)]) (rg 0 9),
 ⟨none, none, .store 3 (.t 4) (.t 17), (rg 0 10)⟩] true)
 (.ret)))
def Kk : IFn := ⟨2, 18, [.cell 4 3 true], false, Kk_c⟩
def Q1nn : IR :=
 .seq (.reg [o 2 (.box 5 (.t 0)),
 o 4 (.zero [zI, zI, zI]),
 o 5 (.mov (.c zB))] false)
 (.seq (.reg [oL 13 5 2,
 oM 14 1,
 oC 15 55 ([.t 13, .t 14]),
 o 6 (.zero zL0),
 oS 5 6 15] false)
 (.seq (.reg [oL 17 5 6,
 oC 18 47 ([.t 17, sA61]),
 oM 16 18,
 oX 19 16 0,
 oX 20 16 1,
 oM 7 19,
 oM 8 20] false)
 (.seq (.reg [oL 22 5 6,
 oC 23 47 ([.t 22, sA1]),
 oM 21 23,
 oX 24 21 0,
 oX 25 21 1,
 oM 9 24,
 oM 10 25] false)
 (.seq (.reg [oL 27 5 6,
 oC 28 47 ([.t 27, sA16]),
 oM 26 28,
 oX 29 26 0,
 oX 30 26 1,
 oM 11 29,
 oM 12 30] false)
 (.seq (.reg [oM 31 7,
 oM 32 11,
 oM 33 9,
 o 34 (.build [zI, zI, zI] [(0, 1, .t 31), (1, 1, .t 32), (2, 1, .t 33)]),
 oL 35 5 6,
 oC 36 50 ([.t 35]),
 oM 37 36,
 gT 38 37 (.mov (.t 8)),
 oP 39 37 38,
 oM 40 39,
 gT 41 40 (.mov (.t 10)),
 oP 42 40 41,
 oM 43 42,
 gT 44 43 (.mov (.t 12)),
 oP 45 43 44,
 oS 3 4 34,
 oM 5 45] false)
 (.ret))))))
def K3k : IFn := ⟨2, 46, [.cell 4 3 true, .tmp 5], false, Q1nn⟩
def Q1sz : IR :=
 .seq (.reg [o 2 (.box 5 (.t 0)),
 o 4 (.mov (.c zB)),
 o 5 (.mov (.c zB))] false)
 (.seq (.reg [oL 7 5 2,
 oM 8 1,
 oC 9 55 ([.t 7, .t 8]),
 o 6 (.zero zL0),
 oS 5 6 9] false)
 (.seq (.seq (.reg [oF 10 0 6,
 oK 11 1 10,
 o 12 (.bin .eql (.t 11) (.c (.int .i64 1)))] false)
 (.cond (.t 12) (.seq (.reg [oF 13 1 6,
 oK 14 1 13,
 o 15 (.bin .neq (.t 14) (.c zI)),
 oM 4 15,
 o 5 (.mov (.c (.bool true)))] false)
 (.ret))
 (.skip)))
 (.seq (.reg [oF 16 0 6,
 oE 17 1 16 [0],
 ob 18 (.bin .eql (.t 17) (.c zI)) [0, 1],
 o 4 (.mov (.c zB)),
 ob 5 (.mov (.t 18)) [0, 1, 2, 3]] true)
 (.ret))))
def K2v : IFn := ⟨2, 19, [.tmp 4, .tmp 5], false, Q1sz⟩
def Q1py : IR :=
 .seq (.reg [o 2 (.box 5 (.t 0)),
 o 4 (.mov (.c zI)),
 o 5 (.mov (.c zB))] false)
 (.seq (.reg [oL 7 5 2,
 oM 8 1,
 oC 9 55 ([.t 7, .t 8]),
 o 6 (.zero zL0),
 oS 5 6 9] false)
 (.seq (.seq (.reg [oF 10 0 6,
 oK 11 1 10,
 o 12 (.bin .eql (.t 11) (.c (.int .i64 2)))] false)
 (.cond (.t 12) (.seq (.reg [oF 13 1 6,
 oK 14 1 13,
 oM 4 14,
 o 5 (.mov (.c (.bool true)))] false)
 (.ret))
 (.skip)))
 (.seq (.reg [oF 15 0 6,
 oE 16 1 15 [0],
 ob 17 (.bin .eql (.t 16) (.c zI)) [0, 1],
 o 4 (.mov (.c zI)),
 ob 5 (.mov (.t 17)) [0, 1, 2, 3]] true)
 (.ret))))
def K2g : IFn := ⟨2, 18, [.tmp 4, .tmp 5], false, Q1py⟩
def Qn1 : List Nat := [100018, 4, 5, 6, 7]
def Q1dq : IR :=
 .seq (.seq (.reg [oM 21 7,
 oM 22 4,
 oN 23 22,
 o 24 (.bin .lss (.t 21) (.t 23))] false)
 (.cond (.t 24) (.skip)
 (.exit 0)))
 (.seq (.block 1 (.seq (.reg [oM 28 4,
 oM 29 7,
 oI 30 5 28 29,
 oL 31 5 30,
 oC 32 47 ([.t 31, sA2]),
 oM 27 32,
 oX 33 27 0,
 oX 34 27 1,
 oM 8 33,
 oM 9 34] false)
 (.seq (.reg [oM 36 4,
 oM 37 7,
 oI 38 5 36 37,
 oL 39 5 38,
 oC 40 54 ([.t 39, sA10]),
 oM 35 40,
 oX 41 35 0,
 oX 42 35 1,
 oM 10 41,
 oM 11 42] false)
 (.seq (.reg [oM 44 4,
 oM 45 7,
 oI 46 5 44 45,
 oL 47 5 46,
 oC 48 47 ([.t 47, sA39]),
 oM 43 48,
 oX 49 43 0,
 oX 50 43 1,
 oM 12 49,
 oM 13 50] false)
 (.seq (.reg [oM 52 4,
 oM 53 7,
 oI 54 5 52 53,
 oL 55 5 54,
 oC 56 54 ([.t 55, sA52]),
 oM 51 56,
 oX 57 51 0,
 oX 58 51 1,
 oM 14 57,
 oM 15 58] false)
 (.seq (.reg [oM 59 6,
 oM 60 10,
 oM 61 14,
 oM 62 8,
 oM 63 12,
 o 64 (.build [zS, zS, zI, zI] [(0, 1, .t 60), (1, 1, .t 61), (2, 1, .t 62), (3, 1, .t 63)]),
 o 65 (.lit 4 1 [zS, zS, zI, zI] [(0, .t 64)]),
 oJ 66 4 48 59 65,
 oM 6 66] false)
 (.reg [oM 67 5,
 oM 68 67,
 gT 69 68 (.mov (.t 4)),
 gT 70 68 (.mov (.t 7)),
 gT 71 68 (.iaddr 5 (.t 69) (.t 70)),
 gT 72 68 (.load 5 true (.t 71)),
 gT 73 68 (.call false (.f 50) [.t 72]),
 oP 74 68 73,
 oM 75 74,
 gT 76 75 (.mov (.t 9)),
 oP 77 75 76,
 oM 78 77,
 gT 79 78 (.mov (.t 11)),
 oP 80 78 79,
 oM 81 80,
 gT 82 81 (.mov (.t 13)),
 oP 83 81 82,
 oM 84 83,
 gT 85 84 (.mov (.t 15)),
 oP 86 84 85,
 oM 5 86] false)))))))
 (.reg [oM 25 7,
 oA 26 25,
 oM 7 26] false))
def Q1pn : IR :=
 .seq (.reg [o 1 (.box 5 (.t 0)),
 o 2 (.mov (.c (.ns 4))),
 o 3 (.mov (.c zB))] false)
 (.seq (.reg [oL 17 5 1,
 oC 18 53 ([.t 17, sA49]),
 oM 16 18,
 oX 19 16 0,
 oX 20 16 1,
 oM 4 19,
 oM 5 20] false)
 (.seq (.reg [o 6 (.mov (.c (.ns 4)))] false)
 (.seq (.seq (.reg [o 7 (.mov (.c zI))] false)
 (.block 0 (.loop Qn1 Q1dq)))
 (.seq (.reg [oM 87 6,
 oM 88 5,
 oM 2 87,
 oM 3 88] false)
 (.ret)))))
def K3o : IFn := ⟨1, 89, [.tmp 2, .tmp 3], false, Q1pn⟩
def Qim : List Nat := [100019, 4, 5, 6, 7]
def Q1eh : IR :=
 .seq (.seq (.reg [oM 19 7,
 oM 20 4,
 oN 21 20,
 o 22 (.bin .lss (.t 19) (.t 21))] false)
 (.cond (.t 22) (.skip)
 (.exit 0)))
 (.seq (.block 1 (.seq (.reg [oM 26 4,
 oM 27 7,
 oI 28 5 26 27,
 oL 29 5 28,
 oC 30 54 ([.t 29, sA23]),
 oM 25 30,
 oX 31 25 0,
 oX 32 25 1,
 oM 8 31,
 oM 9 32] false)
 (.seq (.reg [oM 34 4,
 oM 35 7,
 oI 36 5 34 35,
 oL 37 5 36,
 oC 38 47 ([.t 37, sA40]),
 oM 33 38,
 oX 39 33 0,
 oX 40 33 1,
 oM 10 39,
 oM 11 40] false)
 (.seq (.reg [oM 42 4,
 oM 43 7,
 oI 44 5 42 43,
 oL 45 5 44,
 oC 46 47 ([.t 45, sA50]),
 oM 41 46,
 oX 47 41 0,
 oX 48 41 1,
 oM 12 47,
 oM 13 48] false)
 (.seq (.reg [oM 49 6,
 oM 50 8,
 oM 51 10,
 oM 52 12,
 o 53 (.build [zS, zI, zI] [(0, 1, .t 50), (1, 1, .t 51), (2, 1, .t 52)]),
 o 54 (.lit 3 1 [zS, zI, zI] [(0, .t 53)]),
 oJ 55 3 32 49 54,
 oM 6 55] false)
 (.reg [oM 56 5,
 oM 57 56,
 gT 58 57 (.mov (.t 4)),
 gT 59 57 (.mov (.t 7)),
 gT 60 57 (.iaddr 5 (.t 58) (.t 59)),
 gT 61 57 (.load 5 true (.t 60)),
 gT 62 57 (.call false (.f 50) [.t 61]),
 oP 63 57 62,
 oM 64 63,
 gT 65 64 (.mov (.t 9)),
 oP 66 64 65,
 oM 67 66,
 gT 68 67 (.mov (.t 11)),
 oP 69 67 68,
 oM 70 69,
 gT 71 70 (.mov (.t 13)),
 oP 72 70 71,
 oM 5 72] false))))))
 (.reg [oM 23 7,
 oA 24 23,
 oM 7 24] false))
def Q1mu : IR :=
 .seq (.reg [o 1 (.box 5 (.t 0)),
 o 2 (.mov (.c (.ns 3))),
 o 3 (.mov (.c zB))] false)
 (.seq (.reg [oL 15 5 1,
 oC 16 53 ([.t 15, sA8]),
 oM 14 16,
 oX 17 14 0,
 oX 18 14 1,
 oM 4 17,
 oM 5 18] false)
 (.seq (.reg [o 6 (.mov (.c (.ns 3)))] false)
 (.seq (.seq (.reg [o 7 (.mov (.c zI))] false)
 (.block 0 (.loop Qim Q1eh)))
 (.seq (.reg [oM 73 6,
 oM 74 5,
 oM 2 73,
 oM 3 74] false)
 (.ret)))))
def K3f : IFn := ⟨1, 75, [.tmp 2, .tmp 3], false, Q1mu⟩
def Q1pm : IR :=
 .seq (.reg [o 1 (.box 5 (.t 0)),
 o 2 (.mov (.c zB))] false)
 (.seq (.reg [oF 3 0 1,
 oK 4 1 3,
 o 5 (.bin .eql (.t 4) (.c (.int .i64 5))),
 oM 6 5,
 gF 7 6 (.faddr 0 (.t 1)),
 gF 8 6 (.load 1 false (.t 7)),
 gF 9 6 (.bin .eql (.t 8) (.c zI)),
 oQ 10 6 9,
 oM 2 10] false)
 (.ret))
def K2h : IFn := ⟨1, 11, [.tmp 2], false, Q1pm⟩
def Qin : List Nat := [100020, 3, 9, 16, 17, 18]
def Q1dr : IR :=
 .seq (.reg [o 19 (.bin .lss (.t 18) (.t 17))] false)
 (.seq (.cond (.t 19) (.skip)
 (.exit 0))
 (.seq (.block 1 (.seq (.reg [oI 20 5 16 18,
 oL 21 5 20,
 o 11 (.zero zL0),
 oS 5 11 21] false)
 (.reg [oM 22 9,
 oM 23 3,
 oL 24 5 11,
 o 25 (.call false (.t 23) [.t 24]),
 o 26 (.lit 2 1 [zS, zS] [(0, .t 25)]),
 oJ 27 2 32 22 26,
 oM 9 27] false)))
 (.reg [oA 28 18,
 oM 18 28] false)))
def Q1qa : IR :=
 .seq (.reg [o 5 (.box 5 (.t 1)),
 o 8 (.mov (.c (.ns 2)))] false)
 (.seq (.reg [o 9 (.mov (.c (.ns 2)))] false)
 (.seq (.seq (.reg [oM 12 0,
 oL 13 5 5,
 oM 14 2,
 oC 15 106 ([.t 12, .t 13, .t 14, .c (.int .i64 4)]),
 o 16 (.field 3 1 false (.t 15)),
 oN 17 16,
 o 18 (.mov (.c zI))] false)
 (.block 0 (.loop Qin Q1dr)))
 (.seq (.reg [oM 29 9,
 oM 8 29] false)
 (.ret))))
def K15 : IFn := ⟨4, 30, [.tmp 8], false, Q1qa⟩
def Kl_c : IR :=
 .seq (.reg [o 3 (.box 5 (.t 1)),
 o 4 (.zero [zS, zS])] false)
 (.seq (.reg [oM 5 0,
 oL 6 5 3,
 oC 7 36 ([.t 5, .t 6])] false)
 (.seq (.reg [oM 8 0,
 oL 9 5 3,
 oD 10 84 ([.t 8, .t 9, sA10]) [0, 1],
 oM 11 0,
 oL 12 5 3,
 oD 13 84 ([.t 11, .t 12, sA52]) (rg 0 5),
 ob 14 (.build [zS, zS] [(0, 1, .t 10), (1, 1, .t 13)]) (rg 0 6),
 ⟨none, none, .store 2 (.t 4) (.t 14), (rg 0 7)⟩] true)
 (.ret)))
def Kl : IFn := ⟨2, 15, [.cell 4 2 true], false, Kl_c⟩
def Q1mq : IR :=
 .seq (.reg [o 2 (.box 5 (.t 0)),
 o 4 (.mov (.c (.ns 5))),
 o 5 (.mov (.c zB))] false)
 (.seq (.reg [oL 7 5 2,
 oM 8 1,
 oC 9 55 ([.t 7, .t 8]),
 o 6 (.zero zL0),
 oS 5 6 9] false)
 (.seq (.seq (.reg [oF 10 0 6,
 oK 11 1 10,
 o 12 (.bin .eql (.t 11) (.c (.int .i64 4)))] false)
 (.cond (.t 12) (.seq (.reg [oF 13 3 6,
 oK 14 1 13,
 oM 4 14,
 o 5 (.mov (.c (.bool true)))] false)
 (.ret))
 (.skip)))
 (.seq (.reg [oF 15 0 6,
 oE 16 1 15 [0],
 ob 17 (.bin .eql (.t 16) (.c zI)) [0, 1],
 o 4 (.mov (.c (.ns 5))),
 ob 5 (.mov (.t 17)) [0, 1, 2, 3]] true)
 (.ret))))
def K29 : IFn := ⟨2, 18, [.tmp 4, .tmp 5], false, Q1mq⟩
def Q1n9 : IR :=
 .seq (.reg [o 2 (.box 5 (.t 0)),
 o 4 (.mov (.c (zS))),
 o 5 (.mov (.c zB))] false)
 (.seq (.reg [oL 7 5 2,
 oM 8 1,
 oC 9 55 ([.t 7, .t 8]),
 o 6 (.zero zL0),
 oS 5 6 9] false)
 (.seq (.seq (.reg [oF 10 0 6,
 oK 11 1 10,
 o 12 (.bin .eql (.t 11) (.c (.int .i64 3)))] false)
 (.cond (.t 12) (.seq (.reg [oF 13 2 6,
 oK 14 1 13,
 oM 4 14,
 o 5 (.mov (.c (.bool true)))] false)
 (.ret))
 (.skip)))
 (.seq (.reg [oF 15 0 6,
 oE 16 1 15 [0],
 ob 17 (.bin .eql (.t 16) (.c zI)) [0, 1],
 o 4 (.mov (.c (zS))),
 ob 5 (.mov (.t 17)) [0, 1, 2, 3]] true)
 (.ret))))
def K2p : IFn := ⟨2, 18, [.tmp 4, .tmp 5], false, Q1n9⟩
def Qkc : List Nat := [100021, 1, 2, 4, 5]
def Q1f8 : IR :=
 .seq (.seq (.reg [oM 6 5,
 oF 7 4 2,
 oK 8 1 7,
 oN 9 8,
 o 10 (.bin .lss (.t 6) (.t 9))] false)
 (.cond (.t 10) (.skip)
 (.exit 0)))
 (.seq (.block 1 (.seq (.reg [oF 13 0 2,
 oK 14 1 13,
 o 15 (.bin .eql (.t 14) (.c (.int .i64 5))),
 oM 16 15,
 gT 17 16 (.faddr 4 (.t 2)),
 gT 18 16 (.load 1 false (.t 17)),
 gT 19 16 (.mov (.t 5)),
 gT 20 16 (.iaddr 6 (.t 18) (.t 19)),
 gT 21 16 (.faddr 0 (.t 20)),
 gT 22 16 (.load 1 false (.t 21)),
 gT 23 16 (.mov (.t 1)),
 gT 24 16 (.bin .eql (.t 22) (.t 23)),
 oP 25 16 24] false)
 (.cond (.t 25) (.seq (.reg [oF 26 4 2,
 oK 27 1 26,
 oM 28 5,
 oI 29 6 27 28,
 oF 30 1 29,
 oL 31 5 30,
 oS 5 4 31] false)
 (.ret))
 (.skip))))
 (.reg [oM 11 5,
 oA 12 11,
 oM 5 12] false))
def Q1q9 : IR :=
 .seq (.reg [o 2 (.box 5 (.t 0)),
 o 4 (.zero zL0)] false)
 (.seq (.seq (.reg [o 5 (.mov (.c zI))] false)
 (.block 0 (.loop Qkc Q1f8)))
 (.seq (.reg [o 32 (.build zL0 []),
 oS 5 4 32] false)
 (.ret)))
def K2i : IFn := ⟨2, 33, [.cell 4 5 true], false, Q1q9⟩
def Q1nt : IR :=
 .seq (.reg [o 1 (.box 10 (.t 0)),
 o 2 (.zero zL0)] false)
 (.seq (.reg [oF 3 4 1,
 oE 4 1 3 [0],
 oD 5 107 ([.t 4, .f 108]) [0, 1],
 oD 6 62 ([sA59, .t 5]) [0, 1, 2],
 oF 7 3 1,
 oE 8 1 7 [4],
 oD 9 65 ([.t 8]) (rg 0 6),
 oD 10 62 ([sA7, .t 9]) (rg 0 7),
 oF 11 0 1,
 oE 12 1 11 [8],
 oD 13 109 ([.t 12]) (rg 0 10),
 oD 14 62 ([sA21, .t 13]) (rg 0 11),
 oF 15 5 1,
 oE 16 1 15 [12],
 oD 17 110 ([.t 16, .f 111]) (rg 0 14),
 oD 18 62 ([sA19, .t 17]) (rg 0 15),
 oF 19 6 1,
 oE 20 1 19 [16],
 oD 21 112 ([.t 20, .f 113]) (rg 0 18),
 oD 22 62 ([sA20, .t 21]) (rg 0 19),
 oF 23 7 1,
 oE 24 1 23 [20],
 oD 25 114 ([.t 24, .f 115]) (rg 0 22),
 oD 26 62 ([sA27, .t 25]) (rg 0 23),
 oF 27 1 1,
 oE 28 1 27 [24],
 oD 29 65 ([.t 28]) (rg 0 26),
 oD 30 62 ([sA28, .t 29]) (rg 0 27),
 oF 31 2 1,
 oE 32 1 31 [28],
 oD 33 65 ([.t 32]) (rg 0 30),
 oD 34 62 ([sA33, .t 33]) (rg 0 31),
 oF 35 8 1,
 oE 36 1 35 [32],
 oD 37 116 ([.t 36, .f 117]) (rg 0 34),
 oD 38 62 ([sA42, .t 37]) (rg 0 35),
 oF 39 9 1,
 oE 40 1 39 [36],
 oD 41 118 ([.t 40, .f 119]) (rg 0 38),
 oD 42 62 ([sA47, .t 41]) (rg 0 39),
 ob 43 (.lit 6 10 zL4 [(0, .t 6), (1, .t 10), (2, .t 14), (3, .t 18), (4, .t 22), (5, .t 26), (6, .t 30), (7, .t 34), (8, .t 38), (9, .t 42)]) (rg 0 40),
 oD 44 61 ([.t 43]) (rg 0 41),
 ⟨none, none, .store 5 (.t 2) (.t 44), (rg 0 42)⟩] true)
 (.ret))
def K1m : IFn := ⟨1, 45, [.cell 2 5 true], false, Q1nt⟩
def Qj8 : List Nat := [100023, 2, 3, 6]
def Q1e3 : IR :=
 .seq (.seq (.reg [oM 118 6,
 oF 119 12 2,
 oK 120 1 119,
 oN 121 120,
 o 122 (.bin .lss (.t 118) (.t 121))] false)
 (.cond (.t 122) (.skip)
 (.exit 2)))
 (.seq (.block 3 (.seq (.reg [oF 125 12 2,
 oE 126 1 125 [0],
 oM 127 6,
 ob 128 (.iaddr 2 (.t 126) (.t 127)) [0, 1, 2],
 ob 129 (.faddr 0 (.t 128)) [0, 1, 2, 3],
 oE 130 1 129 (rg 0 5),
 oF 131 12 3,
 oE 132 1 131 [6],
 oM 133 6,
 ob 134 (.iaddr 2 (.t 132) (.t 133)) [6, 7, 8],
 ob 135 (.faddr 0 (.t 134)) [6, 7, 8, 9],
 oE 136 1 135 (rg 6 11),
 ob 137 (.bin .neq (.t 130) (.t 136)) (rg 0 12),
 ob 138 (.mov (.t 137)) (rg 0 13),
 ⟨(some 139), (some (138, false)), .faddr 12 (.t 2), (rg 0 14)⟩,
 ⟨(some 140), (some (138, false)), .load 1 false (.t 139), (rg 0 15)⟩,
 ⟨(some 141), (some (138, false)), .mov (.t 6), (rg 0 14)⟩,
 ⟨(some 142), (some (138, false)), .iaddr 2 (.t 140) (.t 141), (rg 0 17)⟩,
 ⟨(some 143), (some (138, false)), .faddr 1 (.t 142), (rg 0 18)⟩,
 ⟨(some 144), (some (138, false)), .load 1 false (.t 143), (rg 0 19)⟩,
 ⟨(some 145), (some (138, false)), .faddr 12 (.t 3), (rg 0 14)⟩,
 ⟨(some 146), (some (138, false)), .load 1 false (.t 145), (rg 0 14 ++ [20])⟩,
 ⟨(some 147), (some (138, false)), .mov (.t 6), (rg 0 14)⟩,
 ⟨(some 148), (some (138, false)), .iaddr 2 (.t 146) (.t 147), (rg 0 14 ++ [20, 21, 22])⟩,
 ⟨(some 149), (some (138, false)), .faddr 1 (.t 148), (rg 0 14 ++ rg 20 24)⟩,
 ⟨(some 150), (some (138, false)), .load 1 false (.t 149), (rg 0 14 ++ rg 20 25)⟩,
 ⟨(some 151), (some (138, false)), .call false (.f 123) [.t 144, .t 150], (rg 0 26)⟩,
 ⟨(some 152), (some (138, false)), .un .not (.t 151), (rg 0 27)⟩,
 ob 153 (.pick (.t 138) (.c (.bool true)) (.t 152)) (rg 0 28)] true)
 (.cond (.t 153) (.seq (.reg [o 4 (.mov (.c zB))] false)
 (.ret))
 (.skip))))
 (.reg [oM 123 6,
 oA 124 123,
 oM 6 124] false))
def Qid : List Nat := [100022, 2, 3, 5]
def Q1ec : IR :=
 .seq (.seq (.reg [oM 100 5,
 oF 101 10 2,
 oK 102 1 101,
 oN 103 102,
 o 104 (.bin .lss (.t 100) (.t 103))] false)
 (.cond (.t 104) (.skip)
 (.exit 0)))
 (.seq (.block 1 (.seq (.reg [oF 107 10 2,
 oE 108 1 107 [0],
 oM 109 5,
 ob 110 (.iaddr 5 (.t 108) (.t 109)) [0, 1, 2],
 ob 111 (.load 5 true (.t 110)) [0, 1, 2, 3],
 oF 112 10 3,
 oE 113 1 112 [5],
 oM 114 5,
 ob 115 (.iaddr 5 (.t 113) (.t 114)) [5, 6, 7],
 ob 116 (.load 5 true (.t 115)) [5, 6, 7, 8],
 ob 117 (.eqs (.st [(0, 1, .str), (1, 1, .str), (2, 1, .int), (3, 1, .bool), (4, 1, .bool)]) true (.t 111) (.t 116)) (rg 0 10)] true)
 (.cond (.t 117) (.seq (.reg [o 4 (.mov (.c zB))] false)
 (.ret))
 (.skip))))
 (.reg [oM 105 5,
 oA 106 105,
 oM 5 106] false))
def Q1r6 : IR :=
 .seq (.reg [o 2 (.box 13 (.t 0)),
 o 3 (.box 13 (.t 1)),
 o 4 (.mov (.c zB))] false)
 (.seq (.seq (.reg [oF 7 0 2,
 oK 8 1 7,
 oF 9 0 3,
 oK 10 1 9,
 o 11 (.bin .neq (.t 8) (.t 10)),
 oM 12 11,
 gF 13 12 (.faddr 1 (.t 2)),
 gF 14 12 (.load 1 false (.t 13)),
 gF 15 12 (.faddr 1 (.t 3)),
 gF 16 12 (.load 1 false (.t 15)),
 gF 17 12 (.bin .neq (.t 14) (.t 16)),
 oQ 18 12 17,
 oM 19 18,
 gF 20 19 (.faddr 2 (.t 2)),
 gF 21 19 (.load 1 false (.t 20)),
 gF 22 19 (.faddr 2 (.t 3)),
 gF 23 19 (.load 1 false (.t 22)),
 gF 24 19 (.bin .neq (.t 21) (.t 23)),
 oQ 25 19 24,
 oM 26 25,
 gF 27 26 (.faddr 3 (.t 2)),
 gF 28 26 (.load 1 false (.t 27)),
 gF 29 26 (.faddr 3 (.t 3)),
 gF 30 26 (.load 1 false (.t 29)),
 gF 31 26 (.bin .neq (.t 28) (.t 30)),
 oQ 32 26 31,
 oM 33 32,
 gF 34 33 (.faddr 4 (.t 2)),
 gF 35 33 (.load 1 false (.t 34)),
 gF 36 33 (.faddr 4 (.t 3)),
 gF 37 33 (.load 1 false (.t 36)),
 gF 38 33 (.bin .neq (.t 35) (.t 37)),
 oQ 39 33 38,
 oM 40 39,
 gF 41 40 (.faddr 5 (.t 2)),
 gF 42 40 (.load 1 false (.t 41)),
 gF 43 40 (.faddr 5 (.t 3)),
 gF 44 40 (.load 1 false (.t 43)),
 gF 45 40 (.bin .neq (.t 42) (.t 44)),
 oQ 46 40 45,
 oM 47 46,
 gF 48 47 (.faddr 6 (.t 2)),
 gF 49 47 (.load 1 false (.t 48)),
 gF 50 47 (.faddr 6 (.t 3)),
 gF 51 47 (.load 1 false (.t 50)),
 gF 52 47 (.bin .neq (.t 49) (.t 51)),
 oQ 53 47 52,
 oM 54 53,
 gF 55 54 (.faddr 7 (.t 2)),
 gF 56 54 (.load 1 false (.t 55)),
 gF 57 54 (.faddr 7 (.t 3)),
 gF 58 54 (.load 1 false (.t 57)),
 gF 59 54 (.eqb true (.t 56) (.t 58)),
 oQ 60 54 59,
 oM 61 60,
 gF 62 61 (.faddr 8 (.t 2)),
 gF 63 61 (.load 1 false (.t 62)),
 gF 64 61 (.faddr 8 (.t 3)),
 gF 65 61 (.load 1 false (.t 64)),
 gF 66 61 (.bin .neq (.t 63) (.t 65)),
 oQ 67 61 66] false)
 (.cond (.t 67) (.seq (.reg [o 4 (.mov (.c zB))] false)
 (.ret))
 (.skip)))
 (.seq (.seq (.reg [oF 68 9 2,
 oK 69 1 68,
 oF 70 9 3,
 oK 71 1 70,
 oC 72 122 ([.t 69, .t 71]),
 oU 73 72,
 oM 74 73,
 gF 75 74 (.faddr 11 (.t 2)),
 gF 76 74 (.load 1 false (.t 75)),
 gF 77 74 (.faddr 11 (.t 3)),
 gF 78 74 (.load 1 false (.t 77)),
 gF 79 74 (.call false (.f 123) [.t 76, .t 78]),
 gF 80 74 (.un .not (.t 79)),
 oQ 81 74 80,
 oM 82 81,
 gF 83 82 (.faddr 10 (.t 2)),
 gF 84 82 (.load 1 false (.t 83)),
 gF 85 82 (.len false (.t 84)),
 gF 86 82 (.faddr 10 (.t 3)),
 gF 87 82 (.load 1 false (.t 86)),
 gF 88 82 (.len false (.t 87)),
 gF 89 82 (.bin .neq (.t 85) (.t 88)),
 oQ 90 82 89,
 oM 91 90,
 gF 92 91 (.faddr 12 (.t 2)),
 gF 93 91 (.load 1 false (.t 92)),
 gF 94 91 (.len false (.t 93)),
 gF 95 91 (.faddr 12 (.t 3)),
 gF 96 91 (.load 1 false (.t 95)),
 gF 97 91 (.len false (.t 96)),
 gF 98 91 (.bin .neq (.t 94) (.t 97)),
 oQ 99 91 98] false)
 (.cond (.t 99) (.seq (.reg [o 4 (.mov (.c zB))] false)
 (.ret))
 (.skip)))
 (.seq (.seq (.reg [o 5 (.mov (.c zI))] false)
 (.block 0 (.loop Qid Q1ec)))
 (.seq (.seq (.reg [o 6 (.mov (.c zI))] false)
 (.block 2 (.loop Qj8 Q1e3)))
 (.seq (.reg [o 4 (.mov (.c (.bool true)))] false)
 (.ret))))))
def K2j : IFn := ⟨2, 154, [.tmp 4], false, Q1r6⟩
def Q1r1 : IR :=
 .seq (.reg [o 1 (.box 10 (.t 0)),
 o 2 (.zero zL0)] false)
 (.seq (.reg [oF 3 4 1,
 oE 4 1 3 [0],
 oD 5 124 ([.t 4]) [0, 1],
 oD 6 71 ([sA59, .t 5]) [0, 1, 2],
 oF 7 3 1,
 oE 8 1 7 [4],
 oD 9 74 ([.t 8]) (rg 0 6),
 oD 10 71 ([sA7, .t 9]) (rg 0 7),
 oF 11 0 1,
 oE 12 1 11 [8],
 oD 13 125 ([.t 12]) (rg 0 10),
 oD 14 71 ([sA21, .t 13]) (rg 0 11),
 oF 15 5 1,
 oE 16 1 15 [12],
 oD 17 126 ([.t 16]) (rg 0 14),
 oD 18 71 ([sA19, .t 17]) (rg 0 15),
 oF 19 6 1,
 oE 20 1 19 [16],
 oD 21 127 ([.t 20]) (rg 0 18),
 oD 22 71 ([sA20, .t 21]) (rg 0 19),
 oF 23 7 1,
 oE 24 1 23 [20],
 oD 25 128 ([.t 24]) (rg 0 22),
 oD 26 71 ([sA27, .t 25]) (rg 0 23),
 oF 27 1 1,
 oE 28 1 27 [24],
 oD 29 74 ([.t 28]) (rg 0 26),
 oD 30 71 ([sA28, .t 29]) (rg 0 27),
 oF 31 2 1,
 oE 32 1 31 [28],
 oD 33 74 ([.t 32]) (rg 0 30),
 oD 34 71 ([sA33, .t 33]) (rg 0 31),
 oF 35 8 1,
 oE 36 1 35 [32],
 oD 37 129 ([.t 36]) (rg 0 34),
 oD 38 71 ([sA42, .t 37]) (rg 0 35),
 oF 39 9 1,
 oE 40 1 39 [36],
 oD 41 130 ([.t 40]) (rg 0 38),
 oD 42 71 ([sA47, .t 41]) (rg 0 39),
 ob 43 (.lit 6 10 zL4 [(0, .t 6), (1, .t 10), (2, .t 14), (3, .t 18), (4, .t 22), (5, .t 26), (6, .t 30), (7, .t 34), (8, .t 38), (9, .t 42)]) (rg 0 40),
 oD 44 70 ([.t 43]) (rg 0 41),
 ⟨none, none, .store 5 (.t 2) (.t 44), (rg 0 42)⟩] true)
 (.ret))
def K2d : IFn := ⟨1, 45, [.cell 2 5 true], false, Q1r1⟩
def Q1pz : IR :=
 .seq (.reg [o 1 (.box 9 (.t 0)),
 o 2 (.zero zL0)] false)
 (.seq (.reg [oF 3 6 1,
 oE 4 1 3 [0],
 oD 5 74 ([.t 4]) [0, 1],
 oD 6 71 ([sA56, .t 5]) [0, 1, 2],
 oF 7 5 1,
 oE 8 1 7 [4],
 oD 9 131 ([.t 8]) (rg 0 6),
 oD 10 71 ([sA59, .t 9]) (rg 0 7),
 oF 11 4 1,
 oE 12 1 11 [8],
 oD 13 74 ([.t 12]) (rg 0 10),
 oD 14 71 ([sA5, .t 13]) (rg 0 11),
 oF 15 7 1,
 oE 16 1 15 [12],
 oD 17 125 ([.t 16]) (rg 0 14),
 oD 18 71 ([sA22, .t 17]) (rg 0 15),
 oF 19 0 1,
 oE 20 1 19 [16],
 oD 21 74 ([.t 20]) (rg 0 18),
 oD 22 71 ([sA26, .t 21]) (rg 0 19),
 oF 23 1 1,
 oE 24 1 23 [20],
 oD 25 73 ([.t 24]) (rg 0 22),
 oD 26 71 ([sA35, .t 25]) (rg 0 23),
 oF 27 2 1,
 oE 28 1 27 [24],
 oD 29 74 ([.t 28]) (rg 0 26),
 oD 30 71 ([sA34, .t 29]) (rg 0 27),
 oF 31 8 1,
 oE 32 1 31 [28],
 oD 33 125 ([.t 32]) (rg 0 30),
 oD 34 71 ([sA36, .t 33]) (rg 0 31),
 oF 35 3 1,
 oE 36 1 35 [32],
 oD 37 74 ([.t 36]) (rg 0 34),
 oD 38 71 ([sA43, .t 37]) (rg 0 35),
 ob 39 (.lit 6 9 zL4 [(0, .t 6), (1, .t 10), (2, .t 14), (3, .t 18), (4, .t 22), (5, .t 26), (6, .t 30), (7, .t 34), (8, .t 38)]) (rg 0 36),
 oD 40 70 ([.t 39]) (rg 0 37),
 ⟨none, none, .store 5 (.t 2) (.t 40), (rg 0 38)⟩] true)
 (.ret))
def K35 : IFn := ⟨1, 41, [.cell 2 5 true], false, Q1pz⟩
def Qz8 : List Nat := [100024, 2, 3, 4, 12, 13, 14]
def Q1j4 : IR :=
 .seq (.reg [o 15 (.bin .lss (.t 14) (.t 13))] false)
 (.seq (.cond (.t 15) (.skip)
 (.exit 0))
 (.seq (.block 1 (.seq (.reg [oM 16 14,
 oI 17 6 12 14,
 oL 18 6 17,
 o 6 (.zero zL4),
 oM 5 16,
 oS 6 6 18] false)
 (.seq (.reg [oM 19 5,
 ob 20 (.bin .add (.t 19) (.c (.int .i64 1))) [0],
 oM 21 3,
 ob 22 (.len false (.t 21)) [2],
 ob 23 (.bin .eql (.t 20) (.t 22)) [0, 1, 2, 3],
 ob 24 (.mov (.t 23)) (rg 0 5),
 ⟨(some 25), (some (24, false)), .mov (.t 3), (rg 0 6)⟩,
 ⟨(some 26), (some (24, false)), .mov (.t 5), (rg 0 6)⟩,
 ⟨(some 27), (some (24, false)), .bin .add (.t 26) (.c (.int .i64 1)), (rg 0 6 ++ [7])⟩,
 ⟨(some 28), (some (24, false)), .iaddr 6 (.t 25) (.t 27), (rg 0 9)⟩,
 ⟨(some 29), (some (24, false)), .faddr 0 (.t 28), (rg 0 10)⟩,
 ⟨(some 30), (some (24, false)), .load 1 false (.t 29), (rg 0 11)⟩,
 ⟨(some 31), (some (24, false)), .faddr 0 (.t 6), (rg 0 6)⟩,
 ⟨(some 32), (some (24, false)), .load 1 false (.t 31), (rg 0 6 ++ [12])⟩,
 ⟨(some 33), (some (24, false)), .bin .neq (.t 30) (.t 32), (rg 0 14)⟩,
 ob 34 (.pick (.t 24) (.c (.bool true)) (.t 33)) (rg 0 15)] true)
 (.cond (.t 34) (.reg [oF 35 4 4,
 oK 36 1 35,
 oL 37 6 6,
 o 38 (.lit 6 1 zL4 [(0, .t 37)]),
 oJ 39 6 96 36 38,
 oF 40 4 4,
 oS 1 40 39] false)
 (.skip)))))
 (.reg [oA 41 14,
 oM 14 41] false)))
def Q1my : IR :=
 .seq (.reg [o 2 (.zero zL0)] false)
 (.seq (.reg [oM 7 0,
 oC 8 132 ([.t 7]),
 oM 3 8] false)
 (.seq (.reg [oM 9 3,
 o 10 (.call true (.f 133) [.t 9, .f 134])] false)
 (.seq (.reg [o 11 (.build zL0 [(0, 1, .c (.int .i64 5))]),
 o 4 (.zero zL0),
 oS 5 4 11] false)
 (.seq (.seq (.reg [oM 12 3,
 oN 13 12,
 o 14 (.mov (.c zI))] false)
 (.block 0 (.loop Qz8 Q1j4)))
 (.seq (.reg [oL 42 5 4,
 oC 43 136 ([.t 42]),
 oS 5 2 43] false)
 (.ret))))))
def K3z : IFn := ⟨1, 44, [.cell 2 5 true], false, Q1my⟩
def Q1rr : IR :=
 .seq (.reg [o 3 (.box 5 (.t 1)),
 o 4 (.zero zL4)] false)
 (.seq (.reg [oM 5 0,
 oL 6 5 3,
 o 7 (.build zL4 [(0, 1, .t 5), (1, 5, .t 6)]),
 oS 6 4 7] false)
 (.ret))
def K1r : IFn := ⟨2, 8, [.cell 4 6 true], false, Q1rr⟩
def Q1s1 : IR :=
 .seq (.reg [o 1 (.box 3 (.t 0)),
 o 2 (.zero zL0)] false)
 (.seq (.reg [oF 3 0 1,
 oE 4 1 3 [0],
 oD 5 65 ([.t 4]) [0, 1],
 oD 6 62 ([sA61, .t 5]) [0, 1, 2],
 oF 7 2 1,
 oE 8 1 7 [4],
 oD 9 65 ([.t 8]) (rg 0 6),
 oD 10 62 ([sA1, .t 9]) (rg 0 7),
 oF 11 1 1,
 oE 12 1 11 [8],
 oD 13 65 ([.t 12]) (rg 0 10),
 oD 14 62 ([sA16, .t 13]) (rg 0 11),
 ob 15 (.lit 6 3 zL4 [(0, .t 6), (1, .t 10), (2, .t 14)]) (rg 0 12),
 oD 16 61 ([.t 15]) (rg 0 13),
 ⟨none, none, .store 5 (.t 2) (.t 16), (rg 0 14)⟩] true)
 (.ret))
def K1l : IFn := ⟨1, 17, [.cell 2 5 true], false, Q1s1⟩
def Q1p6 : IR :=
 .seq (.reg [o 2 (.zero zL0)] false)
 (.seq (.reg [o 4 (.build zL0 [(0, 1, .c (.int .i64 1))]),
 o 3 (.zero zL0),
 oS 5 3 4] false)
 (.seq (.seq (.reg [oM 5 0] false)
 (.cond (.t 5) (.reg [oF 6 1 3,
 ⟨none, none, .store 1 (.t 6) (.c (.int .i64 1)), []⟩] false)
 (.skip)))
 (.seq (.reg [oL 7 5 3,
 oS 5 2 7] false)
 (.ret))))
def K3v : IFn := ⟨1, 8, [.cell 2 5 true], false, Q1p6⟩
def Q1ru : IR :=
 .seq (.reg [o 2 (.zero zL0)] false)
 (.seq (.reg [oM 3 0,
 o 4 (.build zL0 [(0, 1, .c (.int .i64 2)), (1, 1, .t 3)]),
 oS 5 2 4] false)
 (.ret))
def K3x : IFn := ⟨1, 5, [.cell 2 5 true], false, Q1ru⟩
def Q1q7 : IR :=
 .seq (.reg [o 2 (.zero zL0)] false)
 (.seq (.reg [oM 3 0,
 o 4 (.build zL0 [(0, 1, .c (.int .i64 5)), (4, 1, .t 3)]),
 oS 5 2 4] false)
 (.ret))
def K3b : IFn := ⟨1, 5, [.cell 2 5 true], false, Q1q7⟩
def Q1px : IR :=
 .seq (.reg [o 3 (.box 5 (.t 1)),
 o 4 (.zero zL4)] false)
 (.seq (.reg [oM 5 0,
 oL 6 5 3,
 o 7 (.build zL4 [(0, 1, .t 5), (1, 5, .t 6)]),
 oS 6 4 7] false)
 (.ret))
def K2w : IFn := ⟨2, 8, [.cell 4 6 true], false, Q1px⟩
def Q1qt : IR :=
 .seq (.reg [o 1 (.box 3 (.t 0)),
 o 2 (.zero zL0)] false)
 (.seq (.reg [oF 3 0 1,
 oE 4 1 3 [0],
 oD 5 74 ([.t 4]) [0, 1],
 oD 6 71 ([sA61, .t 5]) [0, 1, 2],
 oF 7 2 1,
 oE 8 1 7 [4],
 oD 9 74 ([.t 8]) (rg 0 6),
 oD 10 71 ([sA1, .t 9]) (rg 0 7),
 oF 11 1 1,
 oE 12 1 11 [8],
 oD 13 74 ([.t 12]) (rg 0 10),
 oD 14 71 ([sA16, .t 13]) (rg 0 11),
 ob 15 (.lit 6 3 zL4 [(0, .t 6), (1, .t 10), (2, .t 14)]) (rg 0 12),
 oD 16 70 ([.t 15]) (rg 0 13),
 ⟨none, none, .store 5 (.t 2) (.t 16), (rg 0 14)⟩] true)
 (.ret))
def K33 : IFn := ⟨1, 17, [.cell 2 5 true], false, Q1qt⟩
def Q1rz : IR :=
 .seq (.reg [o 2 (.zero zL0)] false)
 (.seq (.seq (.reg [oM 3 0] false)
 (.cond (.t 3) (.seq (.reg [o 4 (.build zL0 [(0, 1, .c (.int .i64 1)), (1, 1, .c (.int .i64 1))]),
 oS 5 2 4] false)
 (.ret))
 (.skip)))
 (.seq (.reg [o 5 (.build zL0 [(0, 1, .c (.int .i64 1))]),
 oS 5 2 5] false)
 (.ret)))
def K3q : IFn := ⟨1, 6, [.cell 2 5 true], false, Q1rz⟩
def Q1se : IR :=
 .seq (.reg [o 2 (.zero zL0)] false)
 (.seq (.reg [oM 3 0,
 o 4 (.build zL0 [(0, 1, .c (.int .i64 2)), (1, 1, .t 3)]),
 oS 5 2 4] false)
 (.ret))
def K3a : IFn := ⟨1, 5, [.cell 2 5 true], false, Q1se⟩
def Qjq : List Nat := [100027, 0, 2, 3, 4]
def Q1ev : IR :=
 .seq (.seq (.reg [oM 5 4,
 oM 6 0,
 oN 7 6,
 o 8 (.bin .lss (.t 5) (.t 7))] false)
 (.cond (.t 8) (.skip)
 (.exit 0)))
 (.seq (.block 1 (.reg [oM 11 3,
 oM 12 0,
 oM 13 4,
 ob 14 (.iaddr 4 (.t 12) (.t 13)) [1, 2],
 ob 15 (.faddr 2 (.t 14)) [1, 2, 3],
 oE 16 1 15 [1, 2, 3, 4],
 oD 17 74 ([.t 16]) (rg 1 6),
 oD 18 71 ([sA2, .t 17]) (rg 1 7),
 oM 19 0,
 oM 20 4,
 ob 21 (.iaddr 4 (.t 19) (.t 20)) [8, 9],
 ob 22 (.faddr 0 (.t 21)) [8, 9, 10],
 oE 23 1 22 [8, 9, 10, 11],
 oD 24 125 ([.t 23]) (rg 1 13),
 oD 25 71 ([sA10, .t 24]) (rg 1 14),
 oM 26 0,
 oM 27 4,
 ob 28 (.iaddr 4 (.t 26) (.t 27)) [15, 16],
 ob 29 (.faddr 3 (.t 28)) [15, 16, 17],
 oE 30 1 29 [15, 16, 17, 18],
 oD 31 74 ([.t 30]) (rg 1 20),
 oD 32 71 ([sA39, .t 31]) (rg 1 21),
 oM 33 0,
 oM 34 4,
 ob 35 (.iaddr 4 (.t 33) (.t 34)) [22, 23],
 ob 36 (.faddr 1 (.t 35)) [22, 23, 24],
 oE 37 1 36 [22, 23, 24, 25],
 oD 38 125 ([.t 37]) (rg 1 27),
 oD 39 71 ([sA52, .t 38]) (rg 1 28),
 ob 40 (.lit 6 4 zL4 [(0, .t 18), (1, .t 25), (2, .t 32), (3, .t 39)]) (rg 1 29),
 oD 41 70 ([.t 40]) (rg 1 30),
 ob 42 (.lit 5 1 zL0 [(0, .t 41)]) (rg 1 31),
 ob 43 (.append 5 80 (.t 11) (.t 42)) (rg 0 32),
 ob 3 (.mov (.t 43)) (rg 0 33)] true))
 (.reg [oM 9 4,
 oA 10 9,
 oM 4 10] false))
def Q1t4 : IR :=
 .seq (.reg [o 2 (.zero zL0)] false)
 (.seq (.reg [o 3 (.mov (.c (.ns 5)))] false)
 (.seq (.seq (.reg [o 4 (.mov (.c zI))] false)
 (.block 0 (.loop Qjq Q1ev)))
 (.seq (.reg [oM 44 3,
 oC 45 138 ([.t 44]),
 oS 5 2 45] false)
 (.ret))))
def K37 : IFn := ⟨1, 46, [.cell 2 5 true], false, Q1t4⟩
def Ql7 : List Nat := [100028, 0, 2, 3, 4]
def Q1dt : IR :=
 .seq (.seq (.reg [oM 5 4,
 oM 6 0,
 oN 7 6,
 o 8 (.bin .lss (.t 5) (.t 7))] false)
 (.cond (.t 8) (.skip)
 (.exit 0)))
 (.seq (.block 1 (.reg [oM 11 3,
 oM 12 0,
 oM 13 4,
 ob 14 (.iaddr 3 (.t 12) (.t 13)) [1, 2],
 ob 15 (.faddr 0 (.t 14)) [1, 2, 3],
 oE 16 1 15 [1, 2, 3, 4],
 oD 17 125 ([.t 16]) (rg 1 6),
 oD 18 71 ([sA23, .t 17]) (rg 1 7),
 oM 19 0,
 oM 20 4,
 ob 21 (.iaddr 3 (.t 19) (.t 20)) [8, 9],
 ob 22 (.faddr 1 (.t 21)) [8, 9, 10],
 oE 23 1 22 [8, 9, 10, 11],
 oD 24 74 ([.t 23]) (rg 1 13),
 oD 25 71 ([sA40, .t 24]) (rg 1 14),
 oM 26 0,
 oM 27 4,
 ob 28 (.iaddr 3 (.t 26) (.t 27)) [15, 16],
 ob 29 (.faddr 2 (.t 28)) [15, 16, 17],
 oE 30 1 29 [15, 16, 17, 18],
 oD 31 74 ([.t 30]) (rg 1 20),
 oD 32 71 ([sA50, .t 31]) (rg 1 21),
 ob 33 (.lit 6 3 zL4 [(0, .t 18), (1, .t 25), (2, .t 32)]) (rg 1 22),
 oD 34 70 ([.t 33]) (rg 1 23),
 ob 35 (.lit 5 1 zL0 [(0, .t 34)]) (rg 1 24),
 ob 36 (.append 5 80 (.t 11) (.t 35)) (rg 0 25),
 ob 3 (.mov (.t 36)) (rg 0 26)] true))
 (.reg [oM 9 4,
 oA 10 9,
 oM 4 10] false))
def Q1r4 : IR :=
 .seq (.reg [o 2 (.zero zL0)] false)
 (.seq (.reg [o 3 (.mov (.c (.ns 5)))] false)
 (.seq (.seq (.reg [o 4 (.mov (.c zI))] false)
 (.block 0 (.loop Ql7 Q1dt)))
 (.seq (.reg [oM 37 3,
 oC 38 138 ([.t 37]),
 oS 5 2 38] false)
 (.ret))))
def K2y : IFn := ⟨1, 39, [.cell 2 5 true], false, Q1r4⟩
def Qzd : List Nat := [100029, 1, 4, 5, 8, 9, 10]
def Q1k8 : IR :=
 .seq (.reg [o 11 (.bin .lss (.t 10) (.t 9))] false)
 (.seq (.cond (.t 11) (.skip)
 (.exit 0))
 (.seq (.block 1 (.seq (.reg [oI 12 2 8 10,
 oL 13 2 12,
 o 7 (.zero [zS, zS]),
 oS 2 7 13] false)
 (.reg [oM 14 5,
 oM 15 1,
 oL 16 2 7,
 o 17 (.call false (.t 15) [.t 16]),
 o 18 (.lit 5 1 zL0 [(0, .t 17)]),
 oJ 19 5 80 14 18,
 oM 5 19] false)))
 (.reg [oA 20 10,
 oM 10 20] false)))
def Q1o1 : IR :=
 .seq (.reg [o 4 (.zero zL0)] false)
 (.seq (.reg [o 5 (.mov (.c (.ns 5)))] false)
 (.seq (.seq (.reg [oM 8 0,
 oN 9 8,
 o 10 (.mov (.c zI))] false)
 (.block 0 (.loop Qzd Q1k8)))
 (.seq (.reg [oM 21 5,
 oC 22 137 ([.t 21]),
 oS 5 4 22] false)
 (.ret))))
def K23 : IFn := ⟨2, 23, [.cell 4 5 true], false, Q1o1⟩
def Q1nj : IR :=
 .seq (.reg [o 1 (.box 2 (.t 0)),
 o 2 (.zero zL0)] false)
 (.seq (.reg [oF 3 0 1,
 oE 4 1 3 [0],
 oD 5 109 ([.t 4]) [0, 1],
 oD 6 62 ([sA10, .t 5]) [0, 1, 2],
 oF 7 1 1,
 oE 8 1 7 [4],
 oD 9 109 ([.t 8]) (rg 0 6),
 oD 10 62 ([sA52, .t 9]) (rg 0 7),
 ob 11 (.lit 6 2 zL4 [(0, .t 6), (1, .t 10)]) (rg 0 8),
 oD 12 61 ([.t 11]) (rg 0 9),
 ⟨none, none, .store 5 (.t 2) (.t 12), (rg 0 10)⟩] true)
 (.ret))
def K1g : IFn := ⟨1, 13, [.cell 2 5 true], false, Q1nj⟩
def Qlh : List Nat := [100030, 0, 2, 3, 4]
def Q1f6 : IR :=
 .seq (.seq (.reg [oM 5 4,
 oM 6 0,
 oN 7 6,
 o 8 (.bin .lss (.t 5) (.t 7))] false)
 (.cond (.t 8) (.skip)
 (.exit 0)))
 (.seq (.block 1 (.reg [oM 11 3,
 oM 12 0,
 oM 13 4,
 ob 14 (.iaddr 2 (.t 12) (.t 13)) [1, 2],
 ob 15 (.faddr 0 (.t 14)) [1, 2, 3],
 oE 16 1 15 [1, 2, 3, 4],
 oD 17 125 ([.t 16]) (rg 1 6),
 oD 18 71 ([sA10, .t 17]) (rg 1 7),
 oM 19 0,
 oM 20 4,
 ob 21 (.iaddr 2 (.t 19) (.t 20)) [8, 9],
 ob 22 (.faddr 1 (.t 21)) [8, 9, 10],
 oE 23 1 22 [8, 9, 10, 11],
 oD 24 125 ([.t 23]) (rg 1 13),
 oD 25 71 ([sA52, .t 24]) (rg 1 14),
 ob 26 (.lit 6 2 zL4 [(0, .t 18), (1, .t 25)]) (rg 1 15),
 oD 27 70 ([.t 26]) (rg 1 16),
 ob 28 (.lit 5 1 zL0 [(0, .t 27)]) (rg 1 17),
 ob 29 (.append 5 80 (.t 11) (.t 28)) (rg 0 18),
 ob 3 (.mov (.t 29)) (rg 0 19)] true))
 (.reg [oM 9 4,
 oA 10 9,
 oM 4 10] false))
def Q1nh : IR :=
 .seq (.reg [o 2 (.zero zL0)] false)
 (.seq (.reg [o 3 (.mov (.c (.ns 5)))] false)
 (.seq (.seq (.reg [o 4 (.mov (.c zI))] false)
 (.block 0 (.loop Qlh Q1f6)))
 (.seq (.reg [oM 30 3,
 oC 31 138 ([.t 30]),
 oS 5 2 31] false)
 (.ret))))
def K2z : IFn := ⟨1, 32, [.cell 2 5 true], false, Q1nh⟩
def Kv_c : IR :=
 .seq (.reg [o 4 (.box 5 (.t 1)),
 o 6 (.mov (.c (zS)))] false)
 (.seq (.reg [oM 7 0,
 oL 8 5 4,
 oM 9 2,
 oC 10 106 ([.t 7, .t 8, .t 9, .c (.int .i64 3)]),
 o 11 (.field 2 1 false (.t 10)),
 oM 6 11] false)
 (.ret))
def Kv : IFn := ⟨3, 12, [.tmp 6], false, Kv_c⟩
def Ql8 : List Nat := [100031, 3, 9, 16, 17, 18]
def Q1ew : IR :=
 .seq (.reg [o 19 (.bin .lss (.t 18) (.t 17))] false)
 (.seq (.cond (.t 19) (.skip)
 (.exit 0))
 (.seq (.block 1 (.seq (.reg [oI 20 5 16 18,
 oL 21 5 20,
 o 11 (.zero zL0),
 oS 5 11 21] false)
 (.reg [oM 22 9,
 oM 23 3,
 oL 24 5 11,
 o 25 (.call false (.t 23) [.t 24]),
 o 26 (.lit 11 1 zL5 [(0, .t 25)]),
 oJ 27 11 152 22 26,
 oM 9 27] false)))
 (.reg [oA 28 18,
 oM 18 28] false)))
def Q1oq : IR :=
 .seq (.reg [o 5 (.box 5 (.t 1)),
 o 8 (.mov (.c (.ns 11)))] false)
 (.seq (.reg [o 9 (.mov (.c (.ns 11)))] false)
 (.seq (.seq (.reg [oM 12 0,
 oL 13 5 5,
 oM 14 2,
 oC 15 106 ([.t 12, .t 13, .t 14, .c (.int .i64 4)]),
 o 16 (.field 3 1 false (.t 15)),
 oN 17 16,
 o 18 (.mov (.c zI))] false)
 (.block 0 (.loop Ql8 Q1ew)))
 (.seq (.reg [oM 29 9,
 oM 8 29] false)
 (.ret))))
def K16 : IFn := ⟨4, 30, [.tmp 8], false, Q1oq⟩
def Kg_c : IR :=
 .seq (.reg [o 3 (.box 5 (.t 1)),
 o 4 (.zero zL5)] false)
 (.seq (.reg [oM 5 0,
 oL 6 5 3,
 oC 7 36 ([.t 5, .t 6])] false)
 (.seq (.reg [oM 8 0,
 oL 9 5 3,
 oD 10 84 ([.t 8, .t 9, sA23]) [0, 1],
 oM 11 0,
 oL 12 5 3,
 oD 13 84 ([.t 11, .t 12, sA9]) (rg 0 5),
 oM 14 0,
 oM 15 0,
 oL 16 5 3,
 oD 17 38 ([.t 15, .t 16, sA30]) (rg 0 6 ++ [7, 8]),
 oD 18 37 ([.t 14, .t 17]) (rg 0 10),
 oM 19 0,
 oM 20 0,
 oL 21 5 3,
 oD 22 38 ([.t 20, .t 21, sA11]) (rg 0 11 ++ [12, 13]),
 oD 23 37 ([.t 19, .t 22]) (rg 0 15),
 oM 24 0,
 oL 25 5 3,
 oM 26 0,
 ob 27 (.mkfn 140 [.t 26] []) [18],
 oD 28 139 ([.t 24, .t 25, sA12, .t 27]) (rg 0 20),
 oM 29 0,
 oL 30 5 3,
 oM 31 0,
 ob 32 (.mkfn 140 [.t 31] []) [23],
 oD 33 139 ([.t 29, .t 30, sA35, .t 32]) (rg 0 25),
 oM 34 0,
 oL 35 5 3,
 oM 36 0,
 ob 37 (.mkfn 140 [.t 36] []) [28],
 oD 38 139 ([.t 34, .t 35, sA44, .t 37]) (rg 0 30),
 ob 39 (.build zL5 [(0, 1, .t 10), (1, 1, .t 13), (2, 3, .t 18), (5, 3, .t 23), (8, 1, .t 28), (9, 1, .t 33), (10, 1, .t 38)]) (rg 0 31),
 ⟨none, none, .store 11 (.t 4) (.t 39), (rg 0 32)⟩] true)
 (.ret)))
def Kg : IFn := ⟨2, 40, [.cell 4 11 true], false, Kg_c⟩
def Qj1 : List Nat := [100032, 3, 9, 16, 17, 18]
def Q1du : IR :=
 .seq (.reg [o 19 (.bin .lss (.t 18) (.t 17))] false)
 (.seq (.cond (.t 19) (.skip)
 (.exit 0))
 (.seq (.block 1 (.seq (.reg [oI 20 5 16 18,
 oL 21 5 20,
 o 11 (.zero zL0),
 oS 5 11 21] false)
 (.reg [oM 22 9,
 oM 23 3,
 oL 24 5 11,
 o 25 (.call false (.t 23) [.t 24]),
 o 26 (.lit 3 1 [zS, zI, .ns 1] [(0, .t 25)]),
 oJ 27 3 48 22 26,
 oM 9 27] false)))
 (.reg [oA 28 18,
 oM 18 28] false)))
def Q1rq : IR :=
 .seq (.reg [o 5 (.box 5 (.t 1)),
 o 8 (.mov (.c (.ns 3)))] false)
 (.seq (.reg [o 9 (.mov (.c (.ns 3)))] false)
 (.seq (.seq (.reg [oM 12 0,
 oL 13 5 5,
 oM 14 2,
 oC 15 106 ([.t 12, .t 13, .t 14, .c (.int .i64 4)]),
 o 16 (.field 3 1 false (.t 15)),
 oN 17 16,
 o 18 (.mov (.c zI))] false)
 (.block 0 (.loop Qj1 Q1du)))
 (.seq (.reg [oM 29 9,
 oM 8 29] false)
 (.ret))))
def K17 : IFn := ⟨4, 30, [.tmp 8], false, Q1rq⟩
def Kq_c : IR :=
 .seq (.reg [o 3 (.box 5 (.t 1)),
 o 4 (.zero [zS, zI, .ns 1])] false)
 (.seq (.reg [oM 5 0,
 oL 6 5 3,
 oC 7 36 ([.t 5, .t 6])] false)
 (.seq (.reg [oM 8 0,
 oL 9 5 3,
 oD 10 84 ([.t 8, .t 9, sA10]) [0, 1],
 oM 11 0,
 oL 12 5 3,
 oD 13 39 ([.t 11, .t 12, sA24]) (rg 0 5),
 oM 14 0,
 oL 15 5 3,
 oM 16 0,
 ob 17 (.mkfn 142 [.t 16] []) [8],
 oD 18 141 ([.t 14, .t 15, sA51, .t 17]) (rg 0 10),
 ob 19 (.build [zS, zI, .ns 1] [(0, 1, .t 10), (1, 1, .t 13), (2, 1, .t 18)]) (rg 0 11),
 ⟨none, none, .store 3 (.t 4) (.t 19), (rg 0 12)⟩] true)
 (.ret)))
def Kq : IFn := ⟨2, 20, [.cell 4 3 true], false, Kq_c⟩
def Qll : List Nat := [100033, 3, 9, 16, 17, 18]
def Q1dy : IR :=
 .seq (.reg [o 19 (.bin .lss (.t 18) (.t 17))] false)
 (.seq (.cond (.t 19) (.skip)
 (.exit 0))
 (.seq (.block 1 (.seq (.reg [oI 20 5 16 18,
 oL 21 5 20,
 o 11 (.zero zL0),
 oS 5 11 21] false)
 (.reg [oM 22 9,
 oM 23 3,
 oL 24 5 11,
 o 25 (.call false (.t 23) [.t 24]),
 o 26 (.lit 3 1 [zB, .ns 3, zI] [(0, .t 25)]),
 oJ 27 3 40 22 26,
 oM 9 27] false)))
 (.reg [oA 28 18,
 oM 18 28] false)))
def Q1rf : IR :=
 .seq (.reg [o 5 (.box 5 (.t 1)),
 o 8 (.mov (.c (.ns 3)))] false)
 (.seq (.reg [o 9 (.mov (.c (.ns 3)))] false)
 (.seq (.seq (.reg [oM 12 0,
 oL 13 5 5,
 oM 14 2,
 oC 15 106 ([.t 12, .t 13, .t 14, .c (.int .i64 4)]),
 o 16 (.field 3 1 false (.t 15)),
 oN 17 16,
 o 18 (.mov (.c zI))] false)
 (.block 0 (.loop Qll Q1dy)))
 (.seq (.reg [oM 29 9,
 oM 8 29] false)
 (.ret))))
def K18 : IFn := ⟨4, 30, [.tmp 8], false, Q1rf⟩
def Km_c : IR :=
 .seq (.reg [o 3 (.box 5 (.t 1)),
 o 4 (.zero [zB, .ns 3, zI])] false)
 (.seq (.reg [oM 5 0,
 oL 6 5 3,
 oC 7 36 ([.t 5, .t 6])] false)
 (.seq (.reg [oM 8 0,
 oL 9 5 3,
 oD 10 40 ([.t 8, .t 9, sA31]) [0, 1],
 oM 11 0,
 oL 12 5 3,
 oM 13 0,
 ob 14 (.mkfn 88 [.t 13] []) [5],
 oD 15 87 ([.t 11, .t 12, sA37, .t 14]) (rg 0 7),
 oM 16 0,
 oL 17 5 3,
 oD 18 39 ([.t 16, .t 17, sA53]) (rg 0 10),
 ob 19 (.build [zB, .ns 3, zI] [(0, 1, .t 10), (1, 1, .t 15), (2, 1, .t 18)]) (rg 0 11),
 ⟨none, none, .store 3 (.t 4) (.t 19), (rg 0 12)⟩] true)
 (.ret)))
def Km : IFn := ⟨2, 20, [.cell 4 3 true], false, Km_c⟩
def Qhn : List Nat := [100034, 3, 9, 16, 17, 18]
def Q1e9 : IR :=
 .seq (.reg [o 19 (.bin .lss (.t 18) (.t 17))] false)
 (.seq (.cond (.t 19) (.skip)
 (.exit 0))
 (.seq (.block 1 (.seq (.reg [oI 20 5 16 18,
 oL 21 5 20,
 o 11 (.zero zL0),
 oS 5 11 21] false)
 (.reg [oM 22 9,
 oM 23 3,
 oL 24 5 11,
 o 25 (.call false (.t 23) [.t 24]),
 o 26 (.lit 5 1 [zB, zB, .ns 3, zS, zI] [(0, .t 25)]),
 oJ 27 5 56 22 26,
 oM 9 27] false)))
 (.reg [oA 28 18,
 oM 18 28] false)))
def Q1sn : IR :=
 .seq (.reg [o 5 (.box 5 (.t 1)),
 o 8 (.mov (.c (.ns 5)))] false)
 (.seq (.reg [o 9 (.mov (.c (.ns 5)))] false)
 (.seq (.seq (.reg [oM 12 0,
 oL 13 5 5,
 oM 14 2,
 oC 15 106 ([.t 12, .t 13, .t 14, .c (.int .i64 4)]),
 o 16 (.field 3 1 false (.t 15)),
 oN 17 16,
 o 18 (.mov (.c zI))] false)
 (.block 0 (.loop Qhn Q1e9)))
 (.seq (.reg [oM 29 9,
 oM 8 29] false)
 (.ret))))
def K19 : IFn := ⟨4, 30, [.tmp 8], false, Q1sn⟩
def Ko_c : IR :=
 .seq (.reg [o 3 (.box 5 (.t 1)),
 o 4 (.zero [zB, zB, .ns 3, zS, zI])] false)
 (.seq (.reg [oM 5 0,
 oL 6 5 3,
 oC 7 36 ([.t 5, .t 6])] false)
 (.seq (.reg [oM 8 0,
 oL 9 5 3,
 oD 10 40 ([.t 8, .t 9, sA31]) [0, 1],
 oM 11 0,
 oL 12 5 3,
 oD 13 40 ([.t 11, .t 12, sA57]) (rg 0 5),
 oM 14 0,
 oL 15 5 3,
 oM 16 0,
 ob 17 (.mkfn 88 [.t 16] []) [8],
 oD 18 87 ([.t 14, .t 15, sA37, .t 17]) (rg 0 10),
 oM 19 0,
 oL 20 5 3,
 oD 21 84 ([.t 19, .t 20, sA48]) (rg 0 13),
 oM 22 0,
 oL 23 5 3,
 oD 24 39 ([.t 22, .t 23, sA53]) (rg 0 16),
 ob 25 (.build [zB, zB, .ns 3, zS, zI] [(0, 1, .t 10), (1, 1, .t 13), (2, 1, .t 18), (3, 1, .t 21), (4, 1, .t 24)]) (rg 0 17),
 ⟨none, none, .store 5 (.t 4) (.t 25), (rg 0 18)⟩] true)
 (.ret)))
def Ko : IFn := ⟨2, 26, [.cell 4 5 true], false, Ko_c⟩
def Qmx : List Nat := [100035, 3, 9, 16, 17, 18]
def Q1dz : IR :=
 .seq (.reg [o 19 (.bin .lss (.t 18) (.t 17))] false)
 (.seq (.cond (.t 19) (.skip)
 (.exit 0))
 (.seq (.block 1 (.seq (.reg [oI 20 5 16 18,
 oL 21 5 20,
 o 11 (.zero zL0),
 oS 5 11 21] false)
 (.reg [oM 22 9,
 oM 23 3,
 oL 24 5 11,
 o 25 (.call false (.t 23) [.t 24]),
 o 26 (.lit 4 1 [zI, zS, .ns 3, zB] [(0, .t 25)]),
 oJ 27 4 56 22 26,
 oM 9 27] false)))
 (.reg [oA 28 18,
 oM 18 28] false)))
def Q1sl : IR :=
 .seq (.reg [o 5 (.box 5 (.t 1)),
 o 8 (.mov (.c (.ns 4)))] false)
 (.seq (.reg [o 9 (.mov (.c (.ns 4)))] false)
 (.seq (.seq (.reg [oM 12 0,
 oL 13 5 5,
 oM 14 2,
 oC 15 106 ([.t 12, .t 13, .t 14, .c (.int .i64 4)]),
 o 16 (.field 3 1 false (.t 15)),
 oN 17 16,
 o 18 (.mov (.c zI))] false)
 (.block 0 (.loop Qmx Q1dz)))
 (.seq (.reg [oM 29 9,
 oM 8 29] false)
 (.ret))))
def K1a : IFn := ⟨4, 30, [.tmp 8], false, Q1sl⟩
def Kt_c : IR :=
 .seq (.reg [o 3 (.box 5 (.t 1)),
 o 4 (.zero [zI, zS, .ns 3, zB])] false)
 (.seq (.reg [oM 5 0,
 oL 6 5 3,
 oC 7 36 ([.t 5, .t 6])] false)
 (.seq (.reg [oM 8 0,
 oL 9 5 3,
 oD 10 39 ([.t 8, .t 9, sA18]) [0, 1],
 oM 11 0,
 oL 12 5 3,
 oD 13 84 ([.t 11, .t 12, sA48]) (rg 0 5),
 oM 14 0,
 oL 15 5 3,
 oM 16 0,
 ob 17 (.mkfn 88 [.t 16] []) [8],
 oD 18 87 ([.t 14, .t 15, sA37, .t 17]) (rg 0 10),
 oM 19 0,
 oL 20 5 3,
 oD 21 40 ([.t 19, .t 20, sA31]) (rg 0 13),
 ob 22 (.build [zI, zS, .ns 3, zB] [(0, 1, .t 10), (1, 1, .t 13), (2, 1, .t 18), (3, 1, .t 21)]) (rg 0 14),
 ⟨none, none, .store 4 (.t 4) (.t 22), (rg 0 15)⟩] true)
 (.ret)))
def Kt : IFn := ⟨2, 23, [.cell 4 4 true], false, Kt_c⟩
def Qk2 : List Nat := [100036, 3, 9, 16, 17, 18]
def Q1ex : IR :=
 .seq (.reg [o 19 (.bin .lss (.t 18) (.t 17))] false)
 (.seq (.cond (.t 19) (.skip)
 (.exit 0))
 (.seq (.block 1 (.seq (.reg [oI 20 5 16 18,
 oL 21 5 20,
 o 11 (.zero zL0),
 oS 5 11 21] false)
 (.reg [oM 22 9,
 oM 23 3,
 oL 24 5 11,
 o 25 (.call false (.t 23) [.t 24]),
 o 26 (.lit 5 1 [zS, zS, zB, zI, zI] [(0, .t 25)]),
 oJ 27 5 56 22 26,
 oM 9 27] false)))
 (.reg [oA 28 18,
 oM 18 28] false)))
def Q1pf : IR :=
 .seq (.reg [o 5 (.box 5 (.t 1)),
 o 8 (.mov (.c (.ns 5)))] false)
 (.seq (.reg [o 9 (.mov (.c (.ns 5)))] false)
 (.seq (.seq (.reg [oM 12 0,
 oL 13 5 5,
 oM 14 2,
 oC 15 106 ([.t 12, .t 13, .t 14, .c (.int .i64 4)]),
 o 16 (.field 3 1 false (.t 15)),
 oN 17 16,
 o 18 (.mov (.c zI))] false)
 (.block 0 (.loop Qk2 Q1ex)))
 (.seq (.reg [oM 29 9,
 oM 8 29] false)
 (.ret))))
def K1b : IFn := ⟨4, 30, [.tmp 8], false, Q1pf⟩
def Q1sb : IR :=
 .seq (.reg [o 3 (.box 5 (.t 1)),
 o 4 (.zero [zS, zS, zB, zI, zI])] false)
 (.seq (.reg [oM 5 0,
 oL 6 5 3,
 oC 7 36 ([.t 5, .t 6])] false)
 (.seq (.reg [oM 8 0,
 oL 9 5 3,
 oD 10 84 ([.t 8, .t 9, sA10]) [0, 1],
 oM 11 0,
 oL 12 5 3,
 oD 13 84 ([.t 11, .t 12, sA52]) (rg 0 5),
 oM 14 0,
 oL 15 5 3,
 oD 16 40 ([.t 14, .t 15, sA3]) (rg 0 8),
 oM 17 0,
 oL 18 5 3,
 oD 19 39 ([.t 17, .t 18, sA2]) (rg 0 11),
 oM 20 0,
 oL 21 5 3,
 oD 22 39 ([.t 20, .t 21, sA38]) (rg 0 14),
 ob 23 (.build [zS, zS, zB, zI, zI] [(0, 1, .t 10), (1, 1, .t 13), (2, 1, .t 16), (3, 1, .t 19), (4, 1, .t 22)]) (rg 0 15),
 ⟨none, none, .store 5 (.t 4) (.t 23), (rg 0 16)⟩] true)
 (.ret)))
def K10 : IFn := ⟨2, 24, [.cell 4 5 true], false, Q1sb⟩
def Qj9 : List Nat := [100037, 3, 9, 16, 17, 18]
def Q1ea : IR :=
 .seq (.reg [o 19 (.bin .lss (.t 18) (.t 17))] false)
 (.seq (.cond (.t 19) (.skip)
 (.exit 0))
 (.seq (.block 1 (.seq (.reg [oI 20 5 16 18,
 oL 21 5 20,
 o 11 (.zero zL0),
 oS 5 11 21] false)
 (.reg [oM 22 9,
 oM 23 3,
 oL 24 5 11,
 o 25 (.call false (.t 23) [.t 24]),
 o 26 (.lit 7 1 zL9 [(0, .t 25)]),
 oJ 27 7 56 22 26,
 oM 9 27] false)))
 (.reg [oA 28 18,
 oM 18 28] false)))
def Q1m0 : IR :=
 .seq (.reg [o 5 (.box 5 (.t 1)),
 o 8 (.mov (.c (.ns 7)))] false)
 (.seq (.reg [o 9 (.mov (.c (.ns 7)))] false)
 (.seq (.seq (.reg [oM 12 0,
 oL 13 5 5,
 oM 14 2,
 oC 15 106 ([.t 12, .t 13, .t 14, .c (.int .i64 4)]),
 o 16 (.field 3 1 false (.t 15)),
 oN 17 16,
 o 18 (.mov (.c zI))] false)
 (.block 0 (.loop Qj9 Q1ea)))
 (.seq (.reg [oM 29 9,
 oM 8 29] false)
 (.ret))))
def K1c : IFn := ⟨4, 30, [.tmp 8], false, Q1m0⟩
def Kh_c : IR :=
 .seq (.reg [o 3 (.box 5 (.t 1)),
 o 4 (.zero zL9)] false)
 (.seq (.reg [oM 5 0,
 oL 6 5 3,
 oC 7 36 ([.t 5, .t 6])] false)
 (.seq (.reg [oM 8 0,
 oL 9 5 3,
 oD 10 84 ([.t 8, .t 9, sA23]) [0, 1],
 oM 11 0,
 oL 12 5 3,
 oD 13 39 ([.t 11, .t 12, sA45]) (rg 0 5),
 oM 14 0,
 oL 15 5 3,
 oD 16 39 ([.t 14, .t 15, sA32]) (rg 0 8),
 oM 17 0,
 oL 18 5 3,
 oD 19 39 ([.t 17, .t 18, sA4]) (rg 0 11),
 oM 20 0,
 oL 21 5 3,
 oD 22 39 ([.t 20, .t 21, sA39]) (rg 0 14),
 oM 23 0,
 oL 24 5 3,
 oD 25 40 ([.t 23, .t 24, sA35]) (rg 0 17),
 oM 26 0,
 oL 27 5 3,
 oD 28 40 ([.t 26, .t 27, sA43]) (rg 0 20),
 ob 29 (.build zL9 [(0, 1, .t 10), (1, 1, .t 13), (2, 1, .t 16), (3, 1, .t 19), (4, 1, .t 22), (5, 1, .t 25), (6, 1, .t 28)]) (rg 0 21),
 ⟨none, none, .store 7 (.t 4) (.t 29), (rg 0 22)⟩] true)
 (.ret)))
def Kh : IFn := ⟨2, 30, [.cell 4 7 true], false, Kh_c⟩
def Qhp : List Nat := [100038, 4, 5, 6, 7]
def Q1eb : IR :=
 .seq (.seq (.reg [oM 15 7,
 oM 16 4,
 oN 17 16,
 o 18 (.bin .lss (.t 15) (.t 17))] false)
 (.cond (.t 18) (.skip)
 (.exit 0)))
 (.seq (.block 1 (.seq (.reg [oM 22 4,
 oM 23 7,
 oI 24 5 22 23,
 oL 25 5 24,
 oC 26 143 ([.t 25]),
 oM 21 26,
 oX 27 21 0,
 oX 28 21 1,
 o 8 (.zero zL5),
 oS 11 8 27,
 oM 9 28] false)
 (.seq (.reg [oM 29 6,
 oL 30 11 8,
 o 31 (.lit 11 1 zL5 [(0, .t 30)]),
 oJ 32 11 152 29 31,
 oM 6 32] false)
 (.reg [oM 33 5,
 oM 34 33,
 gT 35 34 (.mov (.t 9)),
 oP 36 34 35,
 oM 5 36] false))))
 (.reg [oM 19 7,
 oA 20 19,
 oM 7 20] false))
def Q1m8 : IR :=
 .seq (.reg [o 1 (.box 5 (.t 0)),
 o 2 (.mov (.c (.ns 11))),
 o 3 (.mov (.c zB))] false)
 (.seq (.reg [oL 11 5 1,
 oC 12 53 ([.t 11, sA59]),
 oM 10 12,
 oX 13 10 0,
 oX 14 10 1,
 oM 4 13,
 oM 5 14] false)
 (.seq (.reg [o 6 (.mov (.c (.ns 11)))] false)
 (.seq (.seq (.reg [o 7 (.mov (.c zI))] false)
 (.block 0 (.loop Qhp Q1eb)))
 (.seq (.reg [oM 37 6,
 oM 38 5,
 oM 2 37,
 oM 3 38] false)
 (.ret)))))
def K3e : IFn := ⟨1, 39, [.tmp 2, .tmp 3], false, Q1m8⟩
def Qlk : List Nat := [100039, 6, 7, 8, 9]
def Q1e0 : IR :=
 .seq (.seq (.reg [oM 22 9,
 oM 23 6,
 oN 24 23,
 o 25 (.bin .lss (.t 22) (.t 24))] false)
 (.cond (.t 25) (.skip)
 (.exit 0)))
 (.seq (.block 1 (.seq (.reg [oM 29 6,
 oM 30 9,
 oI 31 5 29 30,
 oL 32 5 31,
 oC 33 54 ([.t 32, sA10]),
 oM 28 33,
 oX 34 28 0,
 oX 35 28 1,
 oM 10 34,
 oM 11 35] false)
 (.seq (.reg [oM 37 6,
 oM 38 9,
 oI 39 5 37 38,
 oL 40 5 39,
 oC 41 47 ([.t 40, sA24]),
 oM 36 41,
 oX 42 36 0,
 oX 43 36 1,
 oM 12 42,
 oM 13 43] false)
 (.seq (.reg [oM 45 6,
 oM 46 9,
 oI 47 5 45 46,
 oL 48 5 47,
 oC 49 144 ([.t 48, sA51]),
 oM 44 49,
 oX 50 44 0,
 oX 51 44 1,
 oM 14 50,
 oM 15 51] false)
 (.seq (.reg [oM 52 8,
 oM 53 10,
 oM 54 12,
 oM 55 14,
 o 56 (.build [zS, zI, .ns 1] [(0, 1, .t 53), (1, 1, .t 54), (2, 1, .t 55)]),
 o 57 (.lit 3 1 [zS, zI, .ns 1] [(0, .t 56)]),
 oJ 58 3 48 52 57,
 oM 8 58] false)
 (.reg [oM 59 7,
 oM 60 59,
 gT 61 60 (.mov (.t 6)),
 gT 62 60 (.mov (.t 9)),
 gT 63 60 (.iaddr 5 (.t 61) (.t 62)),
 gT 64 60 (.load 5 true (.t 63)),
 gT 65 60 (.call false (.f 50) [.t 64]),
 oP 66 60 65,
 oM 67 66,
 gT 68 67 (.mov (.t 11)),
 oP 69 67 68,
 oM 70 69,
 gT 71 70 (.mov (.t 13)),
 oP 72 70 71,
 oM 73 72,
 gT 74 73 (.mov (.t 15)),
 oP 75 73 74,
 oM 7 75] false))))))
 (.reg [oM 26 9,
 oA 27 26,
 oM 9 27] false))
def Q1r8 : IR :=
 .seq (.reg [o 2 (.box 5 (.t 0)),
 o 4 (.mov (.c (.ns 3))),
 o 5 (.mov (.c zB))] false)
 (.seq (.reg [oL 17 5 2,
 oM 18 1,
 oC 19 53 ([.t 17, .t 18]),
 oM 16 19,
 oX 20 16 0,
 oX 21 16 1,
 oM 6 20,
 oM 7 21] false)
 (.seq (.reg [o 8 (.mov (.c (.ns 3)))] false)
 (.seq (.seq (.reg [o 9 (.mov (.c zI))] false)
 (.block 0 (.loop Qlk Q1e0)))
 (.seq (.reg [oM 76 8,
 oM 77 7,
 oM 4 76,
 oM 5 77] false)
 (.ret)))))
def K2o : IFn := ⟨2, 78, [.tmp 4, .tmp 5], false, Q1r8⟩
def Qkm : List Nat := [100040, 4, 5, 6, 7]
def Q1e2 : IR :=
 .seq (.seq (.reg [oM 19 7,
 oM 20 4,
 oN 21 20,
 o 22 (.bin .lss (.t 19) (.t 21))] false)
 (.cond (.t 22) (.skip)
 (.exit 0)))
 (.seq (.block 1 (.seq (.reg [oM 26 4,
 oM 27 7,
 oI 28 5 26 27,
 oL 29 5 28,
 oC 30 46 ([.t 29, sA31]),
 oM 25 30,
 oX 31 25 0,
 oX 32 25 1,
 oM 8 31,
 oM 9 32] false)
 (.seq (.reg [oM 34 4,
 oM 35 7,
 oI 36 5 34 35,
 oL 37 5 36,
 oC 38 100 ([.t 37, sA37]),
 oM 33 38,
 oX 39 33 0,
 oX 40 33 1,
 oM 10 39,
 oM 11 40] false)
 (.seq (.reg [oM 42 4,
 oM 43 7,
 oI 44 5 42 43,
 oL 45 5 44,
 oC 46 47 ([.t 45, sA53]),
 oM 41 46,
 oX 47 41 0,
 oX 48 41 1,
 oM 12 47,
 oM 13 48] false)
 (.seq (.reg [oM 49 6,
 oM 50 8,
 oM 51 10,
 oM 52 12,
 o 53 (.build [zB, .ns 3, zI] [(0, 1, .t 50), (1, 1, .t 51), (2, 1, .t 52)]),
 o 54 (.lit 3 1 [zB, .ns 3, zI] [(0, .t 53)]),
 oJ 55 3 40 49 54,
 oM 6 55] false)
 (.reg [oM 56 5,
 oM 57 56,
 gT 58 57 (.mov (.t 4)),
 gT 59 57 (.mov (.t 7)),
 gT 60 57 (.iaddr 5 (.t 58) (.t 59)),
 gT 61 57 (.load 5 true (.t 60)),
 gT 62 57 (.call false (.f 50) [.t 61]),
 oP 63 57 62,
 oM 64 63,
 gT 65 64 (.mov (.t 9)),
 oP 66 64 65,
 oM 67 66,
 gT 68 67 (.mov (.t 11)),
 oP 69 67 68,
 oM 70 69,
 gT 71 70 (.mov (.t 13)),
 oP 72 70 71,
 oM 5 72] false))))))
 (.reg [oM 23 7,
 oA 24 23,
 oM 7 24] false))
def Q1q1 : IR :=
 .seq (.reg [o 1 (.box 5 (.t 0)),
 o 2 (.mov (.c (.ns 3))),
 o 3 (.mov (.c zB))] false)
 (.seq (.reg [oL 15 5 1,
 oC 16 53 ([.t 15, sA20]),
 oM 14 16,
 oX 17 14 0,
 oX 18 14 1,
 oM 4 17,
 oM 5 18] false)
 (.seq (.reg [o 6 (.mov (.c (.ns 3)))] false)
 (.seq (.seq (.reg [o 7 (.mov (.c zI))] false)
 (.block 0 (.loop Qkm Q1e2)))
 (.seq (.reg [oM 73 6,
 oM 74 5,
 oM 2 73,
 oM 3 74] false)
 (.ret)))))
def K3g : IFn := ⟨1, 75, [.tmp 2, .tmp 3], false, Q1q1⟩
def Qmn : List Nat := [100041, 4, 5, 6, 7]
def Q1ez : IR :=
 .seq (.seq (.reg [oM 23 7,
 oM 24 4,
 oN 25 24,
 o 26 (.bin .lss (.t 23) (.t 25))] false)
 (.cond (.t 26) (.skip)
 (.exit 0)))
 (.seq (.block 1 (.seq (.reg [oM 30 4,
 oM 31 7,
 oI 32 5 30 31,
 oL 33 5 32,
 oC 34 46 ([.t 33, sA57]),
 oM 29 34,
 oX 35 29 0,
 oX 36 29 1,
 oM 8 35,
 oM 9 36] false)
 (.seq (.reg [oM 38 4,
 oM 39 7,
 oI 40 5 38 39,
 oL 41 5 40,
 oC 42 46 ([.t 41, sA31]),
 oM 37 42,
 oX 43 37 0,
 oX 44 37 1,
 oM 10 43,
 oM 11 44] false)
 (.seq (.reg [oM 46 4,
 oM 47 7,
 oI 48 5 46 47,
 oL 49 5 48,
 oC 50 100 ([.t 49, sA37]),
 oM 45 50,
 oX 51 45 0,
 oX 52 45 1,
 oM 12 51,
 oM 13 52] false)
 (.seq (.reg [oM 54 4,
 oM 55 7,
 oI 56 5 54 55,
 oL 57 5 56,
 oC 58 54 ([.t 57, sA48]),
 oM 53 58,
 oX 59 53 0,
 oX 60 53 1,
 oM 14 59,
 oM 15 60] false)
 (.seq (.reg [oM 62 4,
 oM 63 7,
 oI 64 5 62 63,
 oL 65 5 64,
 oC 66 47 ([.t 65, sA53]),
 oM 61 66,
 oX 67 61 0,
 oX 68 61 1,
 oM 16 67,
 oM 17 68] false)
 (.seq (.reg [oM 69 6,
 oM 70 10,
 oM 71 8,
 oM 72 12,
 oM 73 14,
 oM 74 16,
 o 75 (.build [zB, zB, .ns 3, zS, zI] [(0, 1, .t 70), (1, 1, .t 71), (2, 1, .t 72), (3, 1, .t 73), (4, 1, .t 74)]),
 o 76 (.lit 5 1 [zB, zB, .ns 3, zS, zI] [(0, .t 75)]),
 oJ 77 5 56 69 76,
 oM 6 77] false)
 (.reg [oM 78 5,
 oM 79 78,
 gT 80 79 (.mov (.t 4)),
 gT 81 79 (.mov (.t 7)),
 gT 82 79 (.iaddr 5 (.t 80) (.t 81)),
 gT 83 79 (.load 5 true (.t 82)),
 gT 84 79 (.call false (.f 50) [.t 83]),
 oP 85 79 84,
 oM 86 85,
 gT 87 86 (.mov (.t 9)),
 oP 88 86 87,
 oM 89 88,
 gT 90 89 (.mov (.t 11)),
 oP 91 89 90,
 oM 92 91,
 gT 93 92 (.mov (.t 13)),
 oP 94 92 93,
 oM 95 94,
 gT 96 95 (.mov (.t 15)),
 oP 97 95 96,
 oM 98 97,
 gT 99 98 (.mov (.t 17)),
 oP 100 98 99,
 oM 5 100] false))))))))
 (.reg [oM 27 7,
 oA 28 27,
 oM 7 28] false))
def Q1no : IR :=
 .seq (.reg [o 1 (.box 5 (.t 0)),
 o 2 (.mov (.c (.ns 5))),
 o 3 (.mov (.c zB))] false)
 (.seq (.reg [oL 19 5 1,
 oC 20 53 ([.t 19, sA27]),
 oM 18 20,
 oX 21 18 0,
 oX 22 18 1,
 oM 4 21,
 oM 5 22] false)
 (.seq (.reg [o 6 (.mov (.c (.ns 5)))] false)
 (.seq (.seq (.reg [o 7 (.mov (.c zI))] false)
 (.block 0 (.loop Qmn Q1ez)))
 (.seq (.reg [oM 101 6,
 oM 102 5,
 oM 2 101,
 oM 3 102] false)
 (.ret)))))
def K3h : IFn := ⟨1, 103, [.tmp 2, .tmp 3], false, Q1no⟩
def Qls : List Nat := [100042, 4, 5, 6, 7]
def Q1e1 : IR :=
 .seq (.seq (.reg [oM 21 7,
 oM 22 4,
 oN 23 22,
 o 24 (.bin .lss (.t 21) (.t 23))] false)
 (.cond (.t 24) (.skip)
 (.exit 0)))
 (.seq (.block 1 (.seq (.reg [oM 28 4,
 oM 29 7,
 oI 30 5 28 29,
 oL 31 5 30,
 oC 32 47 ([.t 31, sA18]),
 oM 27 32,
 oX 33 27 0,
 oX 34 27 1,
 oM 8 33,
 oM 9 34] false)
 (.seq (.reg [oM 36 4,
 oM 37 7,
 oI 38 5 36 37,
 oL 39 5 38,
 oC 40 46 ([.t 39, sA31]),
 oM 35 40,
 oX 41 35 0,
 oX 42 35 1,
 oM 10 41,
 oM 11 42] false)
 (.seq (.reg [oM 44 4,
 oM 45 7,
 oI 46 5 44 45,
 oL 47 5 46,
 oC 48 100 ([.t 47, sA37]),
 oM 43 48,
 oX 49 43 0,
 oX 50 43 1,
 oM 12 49,
 oM 13 50] false)
 (.seq (.reg [oM 52 4,
 oM 53 7,
 oI 54 5 52 53,
 oL 55 5 54,
 oC 56 54 ([.t 55, sA48]),
 oM 51 56,
 oX 57 51 0,
 oX 58 51 1,
 oM 14 57,
 oM 15 58] false)
 (.seq (.reg [oM 59 6,
 oM 60 8,
 oM 61 14,
 oM 62 12,
 oM 63 10,
 o 64 (.build [zI, zS, .ns 3, zB] [(0, 1, .t 60), (1, 1, .t 61), (2, 1, .t 62), (3, 1, .t 63)]),
 o 65 (.lit 4 1 [zI, zS, .ns 3, zB] [(0, .t 64)]),
 oJ 66 4 56 59 65,
 oM 6 66] false)
 (.reg [oM 67 5,
 oM 68 67,
 gT 69 68 (.mov (.t 4)),
 gT 70 68 (.mov (.t 7)),
 gT 71 68 (.iaddr 5 (.t 69) (.t 70)),
 gT 72 68 (.load 5 true (.t 71)),
 gT 73 68 (.call false (.f 50) [.t 72]),
 oP 74 68 73,
 oM 75 74,
 gT 76 75 (.mov (.t 9)),
 oP 77 75 76,
 oM 78 77,
 gT 79 78 (.mov (.t 11)),
 oP 80 78 79,
 oM 81 80,
 gT 82 81 (.mov (.t 13)),
 oP 83 81 82,
 oM 84 83,
 gT 85 84 (.mov (.t 15)),
 oP 86 84 85,
 oM 5 86] false)))))))
 (.reg [oM 25 7,
 oA 26 25,
 oM 7 26] false))
def Q1ne : IR :=
 .seq (.reg [o 1 (.box 5 (.t 0)),
 o 2 (.mov (.c (.ns 4))),
 o 3 (.mov (.c zB))] false)
 (.seq (.reg [oL 17 5 1,
 oC 18 53 ([.t 17, sA42]),
 oM 16 18,
 oX 19 16 0,
 oX 20 16 1,
 oM 4 19,
 oM 5 20] false)
 (.seq (.reg [o 6 (.mov (.c (.ns 4)))] false)
 (.seq (.seq (.reg [o 7 (.mov (.c zI))] false)
 (.block 0 (.loop Qls Q1e1)))
 (.seq (.reg [oM 87 6,
 oM 88 5,
 oM 2 87,
 oM 3 88] false)
 (.ret)))))
def K3l : IFn := ⟨1, 89, [.tmp 2, .tmp 3], false, Q1ne⟩
def Qm4 : List Nat := [100043, 4, 5, 6, 7]
def Q1e6 : IR :=
 .seq (.seq (.reg [oM 23 7,
 oM 24 4,
 oN 25 24,
 o 26 (.bin .lss (.t 23) (.t 25))] false)
 (.cond (.t 26) (.skip)
 (.exit 0)))
 (.seq (.block 1 (.seq (.reg [oM 30 4,
 oM 31 7,
 oI 32 5 30 31,
 oL 33 5 32,
 oC 34 47 ([.t 33, sA2]),
 oM 29 34,
 oX 35 29 0,
 oX 36 29 1,
 oM 8 35,
 oM 9 36] false)
 (.seq (.reg [oM 38 4,
 oM 39 7,
 oI 40 5 38 39,
 oL 41 5 40,
 oC 42 46 ([.t 41, sA3]),
 oM 37 42,
 oX 43 37 0,
 oX 44 37 1,
 oM 10 43,
 oM 11 44] false)
 (.seq (.reg [oM 46 4,
 oM 47 7,
 oI 48 5 46 47,
 oL 49 5 48,
 oC 50 54 ([.t 49, sA10]),
 oM 45 50,
 oX 51 45 0,
 oX 52 45 1,
 oM 12 51,
 oM 13 52] false)
 (.seq (.reg [oM 54 4,
 oM 55 7,
 oI 56 5 54 55,
 oL 57 5 56,
 oC 58 47 ([.t 57, sA38]),
 oM 53 58,
 oX 59 53 0,
 oX 60 53 1,
 oM 14 59,
 oM 15 60] false)
 (.seq (.reg [oM 62 4,
 oM 63 7,
 oI 64 5 62 63,
 oL 65 5 64,
 oC 66 54 ([.t 65, sA52]),
 oM 61 66,
 oX 67 61 0,
 oX 68 61 1,
 oM 16 67,
 oM 17 68] false)
 (.seq (.reg [oM 69 6,
 oM 70 12,
 oM 71 16,
 oM 72 10,
 oM 73 8,
 oM 74 14,
 o 75 (.build [zS, zS, zB, zI, zI] [(0, 1, .t 70), (1, 1, .t 71), (2, 1, .t 72), (3, 1, .t 73), (4, 1, .t 74)]),
 o 76 (.lit 5 1 [zS, zS, zB, zI, zI] [(0, .t 75)]),
 oJ 77 5 56 69 76,
 oM 6 77] false)
 (.reg [oM 78 5,
 oM 79 78,
 gT 80 79 (.mov (.t 4)),
 gT 81 79 (.mov (.t 7)),
 gT 82 79 (.iaddr 5 (.t 80) (.t 81)),
 gT 83 79 (.load 5 true (.t 82)),
 gT 84 79 (.call false (.f 50) [.t 83]),
 oP 85 79 84,
 oM 86 85,
 gT 87 86 (.mov (.t 9)),
 oP 88 86 87,
 oM 89 88,
 gT 90 89 (.mov (.t 11)),
 oP 91 89 90,
 oM 92 91,
 gT 93 92 (.mov (.t 13)),
 oP 94 92 93,
 oM 95 94,
 gT 96 95 (.mov (.t 15)),
 oP 97 95 96,
 oM 98 97,
 gT 99 98 (.mov (.t 17)),
 oP 100 98 99,
 oM 5 100] false))))))))
 (.reg [oM 27 7,
 oA 28 27,
 oM 7 28] false))
def Q1mc : IR :=
 .seq (.reg [o 1 (.box 5 (.t 0)),
 o 2 (.mov (.c (.ns 5))),
 o 3 (.mov (.c zB))] false)
 (.seq (.reg [oL 19 5 1,
 oC 20 53 ([.t 19, sA47]),
 oM 18 20,
 oX 21 18 0,
 oX 22 18 1,
 oM 4 21,
 oM 5 22] false)
 (.seq (.reg [o 6 (.mov (.c (.ns 5)))] false)
 (.seq (.seq (.reg [o 7 (.mov (.c zI))] false)
 (.block 0 (.loop Qm4 Q1e6)))
 (.seq (.reg [oM 101 6,
 oM 102 5,
 oM 2 101,
 oM 3 102] false)
 (.ret)))))
def K3p : IFn := ⟨1, 103, [.tmp 2, .tmp 3], false, Q1mc⟩
def Qhq : List Nat := [100044, 4, 5, 6, 7]
def Q1en : IR :=
 .seq (.seq (.reg [oM 29 7,
 oM 30 4,
 oN 31 30,
 o 32 (.bin .lss (.t 29) (.t 31))] false)
 (.cond (.t 32) (.skip)
 (.exit 0)))
 (.seq (.block 1 (.seq (.reg [o 35 (.build zL9 []),
 o 8 (.zero zL9),
 oS 7 8 35] false)
 (.seq (.reg [o 36 (.bzero zL11),
 o 9 (.zero zL11),
 oS 7 9 36] false)
 (.seq (.reg [oM 38 4,
 oM 39 7,
 oI 40 5 38 39,
 oL 41 5 40,
 oC 42 47 ([.t 41, sA4]),
 oM 37 42,
 oX 43 37 0,
 oX 44 37 1,
 oM 10 43,
 oM 11 44] false)
 (.seq (.reg [oM 45 10,
 oF 46 3 8,
 oS 1 46 45] false)
 (.seq (.reg [oM 47 11,
 o 48 (.aaddr 7 1 (.t 9) (.c zI)),
 oS 1 48 47] false)
 (.seq (.reg [oM 50 4,
 oM 51 7,
 oI 52 5 50 51,
 oL 53 5 52,
 oC 54 54 ([.t 53, sA23]),
 oM 49 54,
 oX 55 49 0,
 oX 56 49 1,
 oM 12 55,
 oM 13 56] false)
 (.seq (.reg [oM 57 12,
 oF 58 0 8,
 oS 1 58 57] false)
 (.seq (.reg [oM 59 13,
 o 60 (.aaddr 7 1 (.t 9) (.c (.int .i64 1))),
 oS 1 60 59] false)
 (.seq (.reg [oM 62 4,
 oM 63 7,
 oI 64 5 62 63,
 oL 65 5 64,
 oC 66 46 ([.t 65, sA35]),
 oM 61 66,
 oX 67 61 0,
 oX 68 61 1,
 oM 14 67,
 oM 15 68] false)
 (.seq (.reg [oM 69 14,
 oF 70 5 8,
 oS 1 70 69] false)
 (.seq (.reg [oM 71 15,
 o 72 (.aaddr 7 1 (.t 9) (.c (.int .i64 2))),
 oS 1 72 71] false)
 (.seq (.reg [oM 74 4,
 oM 75 7,
 oI 76 5 74 75,
 oL 77 5 76,
 oC 78 47 ([.t 77, sA32]),
 oM 73 78,
 oX 79 73 0,
 oX 80 73 1,
 oM 16 79,
 oM 17 80] false)
 (.seq (.reg [oM 81 16,
 oF 82 2 8,
 oS 1 82 81] false)
 (.seq (.reg [oM 83 17,
 o 84 (.aaddr 7 1 (.t 9) (.c (.int .i64 3))),
 oS 1 84 83] false)
 (.seq (.reg [oM 86 4,
 oM 87 7,
 oI 88 5 86 87,
 oL 89 5 88,
 oC 90 47 ([.t 89, sA39]),
 oM 85 90,
 oX 91 85 0,
 oX 92 85 1,
 oM 18 91,
 oM 19 92] false)
 (.seq (.reg [oM 93 18,
 oF 94 4 8,
 oS 1 94 93] false)
 (.seq (.reg [oM 95 19,
 o 96 (.aaddr 7 1 (.t 9) (.c (.int .i64 4))),
 oS 1 96 95] false)
 (.seq (.reg [oM 98 4,
 oM 99 7,
 oI 100 5 98 99,
 oL 101 5 100,
 oC 102 46 ([.t 101, sA43]),
 oM 97 102,
 oX 103 97 0,
 oX 104 97 1,
 oM 20 103,
 oM 21 104] false)
 (.seq (.reg [oM 105 20,
 oF 106 6 8,
 oS 1 106 105] false)
 (.seq (.reg [oM 107 21,
 o 108 (.aaddr 7 1 (.t 9) (.c (.int .i64 5))),
 oS 1 108 107] false)
 (.seq (.reg [oM 110 4,
 oM 111 7,
 oI 112 5 110 111,
 oL 113 5 112,
 oC 114 47 ([.t 113, sA45]),
 oM 109 114,
 oX 115 109 0,
 oX 116 109 1,
 oM 22 115,
 oM 23 116] false)
 (.seq (.reg [oM 117 22,
 oF 118 1 8,
 oS 1 118 117] false)
 (.seq (.reg [oM 119 23,
 o 120 (.aaddr 7 1 (.t 9) (.c (.int .i64 6))),
 oS 1 120 119] false)
 (.seq (.reg [oM 121 6,
 oL 122 7 8,
 o 123 (.lit 7 1 zL9 [(0, .t 122)]),
 oJ 124 7 56 121 123,
 oM 6 124] false)
 (.reg [oM 125 5,
 oM 126 125,
 gT 127 126 (.mov (.t 4)),
 gT 128 126 (.mov (.t 7)),
 gT 129 126 (.iaddr 5 (.t 127) (.t 128)),
 gT 130 126 (.load 5 true (.t 129)),
 gT 131 126 (.call false (.f 50) [.t 130]),
 oP 132 126 131,
 oM 133 132,
 gT 134 133 (.aaddr 7 1 (.t 9) (.c zI)),
 gT 135 133 (.load 1 false (.t 134)),
 oP 136 133 135,
 oM 137 136,
 gT 138 137 (.aaddr 7 1 (.t 9) (.c (.int .i64 1))),
 gT 139 137 (.load 1 false (.t 138)),
 oP 140 137 139,
 oM 141 140,
 gT 142 141 (.aaddr 7 1 (.t 9) (.c (.int .i64 2))),
 gT 143 141 (.load 1 false (.t 142)),
 oP 144 141 143,
 oM 145 144,
 gT 146 145 (.aaddr 7 1 (.t 9) (.c (.int .i64 3))),
 gT 147 145 (.load 1 false (.t 146)),
 oP 148 145 147,
 oM 149 148,
 gT 150 149 (.aaddr 7 1 (.t 9) (.c (.int .i64 4))),
 gT 151 149 (.load 1 false (.t 150)),
 oP 152 149 151,
 oM 153 152,
 gT 154 153 (.aaddr 7 1 (.t 9) (.c (.int .i64 5))),
 gT 155 153 (.load 1 false (.t 154)),
 oP 156 153 155,
 oM 157 156,
 gT 158 157 (.aaddr 7 1 (.t 9) (.c (.int .i64 6))),
 gT 159 157 (.load 1 false (.t 158)),
 oP 160 157 159,
 oM 5 160] false))))))))))))))))))))))))))
 (.reg [oM 33 7,
 oA 34 33,
 oM 7 34] false))
def Q1m4 : IR :=
 .seq (.reg [o 1 (.box 5 (.t 0)),
 o 2 (.mov (.c (.ns 7))),
 o 3 (.mov (.c zB))] false)
 (.seq (.reg [oL 25 5 1,
 oC 26 53 ([.t 25, sA59]),
 oM 24 26,
 oX 27 24 0,
 oX 28 24 1,
 oM 4 27,
 oM 5 28] false)
 (.seq (.reg [o 6 (.mov (.c (.ns 7)))] false)
 (.seq (.seq (.reg [o 7 (.mov (.c zI))] false)
 (.block 0 (.loop Qhq Q1en)))
 (.seq (.reg [oM 161 6,
 oM 162 5,
 oM 2 161,
 oM 3 162] false)
 (.ret)))))
def K3n : IFn := ⟨1, 163, [.tmp 2, .tmp 3], false, Q1m4⟩
def Kj_c : IR :=
 .seq (.reg [o 5 (.box 5 (.t 1)),
 o 8 (.zero zL0)] false)
 (.seq (.seq (.reg [oF 11 0 5,
 oK 12 1 11,
 o 13 (.bin .neq (.t 12) (.c (.int .i64 5)))] false)
 (.cond (.t 13) (.seq (.reg [oM 14 0,
 oM 15 0,
 o 16 (.nilck (.t 15)),
 oF 17 0 16,
 oK 18 1 17,
 oM 19 18,
 gF 20 19 (.faddr 0 (.t 5)),
 gF 21 19 (.load 1 false (.t 20)),
 gF 22 19 (.bin .neq (.t 21) (.c zI)),
 oQ 23 19 22,
 o 24 (.nilck (.t 14)),
 oF 25 0 24,
 oS 1 25 23] false)
 (.seq (.reg [o 26 (.build zL0 []),
 oS 5 8 26] false)
 (.ret)))
 (.skip)))
 (.seq (.reg [oL 28 5 5,
 oM 29 2,
 oC 30 145 ([.t 28, .t 29]),
 oM 27 30,
 oX 31 27 0,
 oX 32 27 1,
 o 9 (.zero zL0),
 oS 5 9 31,
 oM 10 32] false)
 (.seq (.seq (.reg [oF 33 0 9,
 oK 34 1 33,
 oM 35 3,
 o 36 (.bin .eql (.t 34) (.t 35))] false)
 (.cond (.t 36) (.seq (.reg [oL 37 5 9,
 oS 5 8 37] false)
 (.ret))
 (.skip)))
 (.seq (.reg [oM 38 0,
 oM 39 0,
 o 40 (.nilck (.t 39)),
 oF 41 0 40,
 oK 42 1 41,
 oM 43 42,
 gF 44 43 (.faddr 0 (.t 9)),
 gF 45 43 (.load 1 false (.t 44)),
 gF 46 43 (.bin .neq (.t 45) (.c zI)),
 oQ 47 43 46,
 o 48 (.nilck (.t 38)),
 oF 49 0 48,
 oS 1 49 47] false)
 (.seq (.reg [o 50 (.build zL0 []),
 oS 5 8 50] false)
 (.ret))))))
def Kj : IFn := ⟨4, 51, [.cell 8 5 true], false, Kj_c⟩
def Qz5 : List Nat := [100045, 1, 4, 5, 8, 9, 10]
def Q1iz : IR :=
 .seq (.reg [o 11 (.bin .lss (.t 10) (.t 9))] false)
 (.seq (.cond (.t 11) (.skip)
 (.exit 0))
 (.seq (.block 1 (.seq (.reg [oI 12 11 8 10,
 oL 13 11 12,
 o 7 (.zero zL5),
 oS 11 7 13] false)
 (.reg [oM 14 5,
 oM 15 1,
 oL 16 11 7,
 o 17 (.call false (.t 15) [.t 16]),
 o 18 (.lit 5 1 zL0 [(0, .t 17)]),
 oJ 19 5 80 14 18,
 oM 5 19] false)))
 (.reg [oA 20 10,
 oM 10 20] false)))
def Q1p2 : IR :=
 .seq (.reg [o 4 (.zero zL0)] false)
 (.seq (.reg [o 5 (.mov (.c (.ns 5)))] false)
 (.seq (.seq (.reg [oM 8 0,
 oN 9 8,
 o 10 (.mov (.c zI))] false)
 (.block 0 (.loop Qz5 Q1iz)))
 (.seq (.reg [oM 21 5,
 oC 22 137 ([.t 21]),
 oS 5 4 22] false)
 (.ret))))
def K1t : IFn := ⟨2, 23, [.cell 4 5 true], false, Q1p2⟩
def Q1oy : IR :=
 .seq (.reg [o 1 (.box 11 (.t 0)),
 o 2 (.zero zL0)] false)
 (.seq (.reg [oF 3 1 1,
 oE 4 1 3 [0],
 oD 5 109 ([.t 4]) [0, 1],
 oD 6 62 ([sA9, .t 5]) [0, 1, 2],
 oF 7 5 1,
 ob 8 (.load 3 true (.t 7)) [4],
 oD 9 63 ([.t 8]) (rg 0 6),
 oD 10 62 ([sA11, .t 9]) (rg 0 7),
 oF 11 8 1,
 oE 12 1 11 [8],
 oD 13 146 ([.t 12, .f 147]) (rg 0 10),
 oD 14 62 ([sA12, .t 13]) (rg 0 11),
 oF 15 0 1,
 oE 16 1 15 [12],
 oD 17 109 ([.t 16]) (rg 0 14),
 oD 18 62 ([sA23, .t 17]) (rg 0 15),
 oF 19 9 1,
 oE 20 1 19 [16],
 oD 21 146 ([.t 20, .f 147]) (rg 0 18),
 oD 22 62 ([sA35, .t 21]) (rg 0 19),
 oF 23 2 1,
 ob 24 (.load 3 true (.t 23)) [20],
 oD 25 63 ([.t 24]) (rg 0 22),
 oD 26 62 ([sA30, .t 25]) (rg 0 23),
 oF 27 10 1,
 oE 28 1 27 [24],
 oD 29 146 ([.t 28, .f 147]) (rg 0 26),
 oD 30 62 ([sA44, .t 29]) (rg 0 27),
 ob 31 (.lit 6 7 zL4 [(0, .t 6), (1, .t 10), (2, .t 14), (3, .t 18), (4, .t 22), (5, .t 26), (6, .t 30)]) (rg 0 28),
 oD 32 61 ([.t 31]) (rg 0 29),
 ⟨none, none, .store 5 (.t 2) (.t 32), (rg 0 30)⟩] true)
 (.ret))
def K1d : IFn := ⟨1, 33, [.cell 2 5 true], false, Q1oy⟩
def Q1sc : IR :=
 .seq (.reg [o 2 (.zero zL0)] false)
 (.seq (.reg [oM 3 0,
 o 4 (.build zL0 [(0, 1, .c (.int .i64 3)), (2, 1, .t 3)]),
 oS 5 2 4] false)
 (.ret))
def K41 : IFn := ⟨1, 5, [.cell 2 5 true], false, Q1sc⟩
def Qzg : List Nat := [100046, 1, 4, 5, 8, 9, 10]
def Q1ja : IR :=
 .seq (.reg [o 11 (.bin .lss (.t 10) (.t 9))] false)
 (.seq (.cond (.t 11) (.skip)
 (.exit 0))
 (.seq (.block 1 (.seq (.reg [oI 12 3 8 10,
 oL 13 3 12,
 o 7 (.zero [zS, zI, .ns 1]),
 oS 3 7 13] false)
 (.reg [oM 14 5,
 oM 15 1,
 oL 16 3 7,
 o 17 (.call false (.t 15) [.t 16]),
 o 18 (.lit 5 1 zL0 [(0, .t 17)]),
 oJ 19 5 80 14 18,
 oM 5 19] false)))
 (.reg [oA 20 10,
 oM 10 20] false)))
def Q1ss : IR :=
 .seq (.reg [o 4 (.zero zL0)] false)
 (.seq (.reg [o 5 (.mov (.c (.ns 5)))] false)
 (.seq (.seq (.reg [oM 8 0,
 oN 9 8,
 o 10 (.mov (.c zI))] false)
 (.block 0 (.loop Qzg Q1ja)))
 (.seq (.reg [oM 21 5,
 oC 22 137 ([.t 21]),
 oS 5 4 22] false)
 (.ret))))
def K1u : IFn := ⟨2, 23, [.cell 4 5 true], false, Q1ss⟩
def Q1ra : IR :=
 .seq (.reg [o 1 (.box 3 (.t 0)),
 o 2 (.zero zL0)] false)
 (.seq (.reg [oF 3 0 1,
 oE 4 1 3 [0],
 oD 5 109 ([.t 4]) [0, 1],
 oD 6 62 ([sA10, .t 5]) [0, 1, 2],
 oF 7 1 1,
 oE 8 1 7 [4],
 oD 9 65 ([.t 8]) (rg 0 6),
 oD 10 62 ([sA24, .t 9]) (rg 0 7),
 oF 11 2 1,
 oE 12 1 11 [8],
 oD 13 148 ([.t 12, .f 109]) (rg 0 10),
 oD 14 62 ([sA51, .t 13]) (rg 0 11),
 ob 15 (.lit 6 3 zL4 [(0, .t 6), (1, .t 10), (2, .t 14)]) (rg 0 12),
 oD 16 61 ([.t 15]) (rg 0 13),
 ⟨none, none, .store 5 (.t 2) (.t 16), (rg 0 14)⟩] true)
 (.ret))
def K1k : IFn := ⟨1, 17, [.cell 2 5 true], false, Q1ra⟩
def Qzf : List Nat := [100047, 1, 4, 5, 8, 9, 10]
def Q1jt : IR :=
 .seq (.reg [o 11 (.bin .lss (.t 10) (.t 9))] false)
 (.seq (.cond (.t 11) (.skip)
 (.exit 0))
 (.seq (.block 1 (.seq (.reg [oI 12 3 8 10,
 oL 13 3 12,
 o 7 (.zero [zB, .ns 3, zI]),
 oS 3 7 13] false)
 (.reg [oM 14 5,
 oM 15 1,
 oL 16 3 7,
 o 17 (.call false (.t 15) [.t 16]),
 o 18 (.lit 5 1 zL0 [(0, .t 17)]),
 oJ 19 5 80 14 18,
 oM 5 19] false)))
 (.reg [oA 20 10,
 oM 10 20] false)))
def Q1qp : IR :=
 .seq (.reg [o 4 (.zero zL0)] false)
 (.seq (.reg [o 5 (.mov (.c (.ns 5)))] false)
 (.seq (.seq (.reg [oM 8 0,
 oN 9 8,
 o 10 (.mov (.c zI))] false)
 (.block 0 (.loop Qzf Q1jt)))
 (.seq (.reg [oM 21 5,
 oC 22 137 ([.t 21]),
 oS 5 4 22] false)
 (.ret))))
def K1v : IFn := ⟨2, 23, [.cell 4 5 true], false, Q1qp⟩
def Q1rp : IR :=
 .seq (.reg [o 1 (.box 3 (.t 0)),
 o 2 (.zero zL0)] false)
 (.seq (.reg [oF 3 0 1,
 oE 4 1 3 [0],
 oD 5 64 ([.t 4]) [0, 1],
 oD 6 62 ([sA31, .t 5]) [0, 1, 2],
 oF 7 1 1,
 oE 8 1 7 [4],
 oD 9 110 ([.t 8, .f 111]) (rg 0 6),
 oD 10 62 ([sA37, .t 9]) (rg 0 7),
 oF 11 2 1,
 oE 12 1 11 [8],
 oD 13 65 ([.t 12]) (rg 0 10),
 oD 14 62 ([sA53, .t 13]) (rg 0 11),
 ob 15 (.lit 6 3 zL4 [(0, .t 6), (1, .t 10), (2, .t 14)]) (rg 0 12),
 oD 16 61 ([.t 15]) (rg 0 13),
 ⟨none, none, .store 5 (.t 2) (.t 16), (rg 0 14)⟩] true)
 (.ret))
def K1h : IFn := ⟨1, 17, [.cell 2 5 true], false, Q1rp⟩
def Q104 : List Nat := [100048, 1, 4, 5, 8, 9, 10]
def Q1i2 : IR :=
 .seq (.reg [o 11 (.bin .lss (.t 10) (.t 9))] false)
 (.seq (.cond (.t 11) (.skip)
 (.exit 0))
 (.seq (.block 1 (.seq (.reg [oI 12 5 8 10,
 oL 13 5 12,
 o 7 (.zero [zB, zB, .ns 3, zS, zI]),
 oS 5 7 13] false)
 (.reg [oM 14 5,
 oM 15 1,
 oL 16 5 7,
 o 17 (.call false (.t 15) [.t 16]),
 o 18 (.lit 5 1 zL0 [(0, .t 17)]),
 oJ 19 5 80 14 18,
 oM 5 19] false)))
 (.reg [oA 20 10,
 oM 10 20] false)))
def Q1nz : IR :=
 .seq (.reg [o 4 (.zero zL0)] false)
 (.seq (.reg [o 5 (.mov (.c (.ns 5)))] false)
 (.seq (.seq (.reg [oM 8 0,
 oN 9 8,
 o 10 (.mov (.c zI))] false)
 (.block 0 (.loop Q104 Q1i2)))
 (.seq (.reg [oM 21 5,
 oC 22 137 ([.t 21]),
 oS 5 4 22] false)
 (.ret))))
def K1w : IFn := ⟨2, 23, [.cell 4 5 true], false, Q1nz⟩
def Q1q0 : IR :=
 .seq (.reg [o 1 (.box 5 (.t 0)),
 o 2 (.zero zL0)] false)
 (.seq (.reg [oF 3 1 1,
 oE 4 1 3 [0],
 oD 5 64 ([.t 4]) [0, 1],
 oD 6 62 ([sA57, .t 5]) [0, 1, 2],
 oF 7 0 1,
 oE 8 1 7 [4],
 oD 9 64 ([.t 8]) (rg 0 6),
 oD 10 62 ([sA31, .t 9]) (rg 0 7),
 oF 11 2 1,
 oE 12 1 11 [8],
 oD 13 110 ([.t 12, .f 111]) (rg 0 10),
 oD 14 62 ([sA37, .t 13]) (rg 0 11),
 oF 15 3 1,
 oE 16 1 15 [12],
 oD 17 109 ([.t 16]) (rg 0 14),
 oD 18 62 ([sA48, .t 17]) (rg 0 15),
 oF 19 4 1,
 oE 20 1 19 [16],
 oD 21 65 ([.t 20]) (rg 0 18),
 oD 22 62 ([sA53, .t 21]) (rg 0 19),
 ob 23 (.lit 6 5 zL4 [(0, .t 6), (1, .t 10), (2, .t 14), (3, .t 18), (4, .t 22)]) (rg 0 20),
 oD 24 61 ([.t 23]) (rg 0 21),
 ⟨none, none, .store 5 (.t 2) (.t 24), (rg 0 22)⟩] true)
 (.ret))
def K1i : IFn := ⟨1, 25, [.cell 2 5 true], false, Q1q0⟩
def Q102 : List Nat := [100049, 1, 4, 5, 8, 9, 10]
def Q1lv : IR :=
 .seq (.reg [o 11 (.bin .lss (.t 10) (.t 9))] false)
 (.seq (.cond (.t 11) (.skip)
 (.exit 0))
 (.seq (.block 1 (.seq (.reg [oI 12 4 8 10,
 oL 13 4 12,
 o 7 (.zero [zI, zS, .ns 3, zB]),
 oS 4 7 13] false)
 (.reg [oM 14 5,
 oM 15 1,
 oL 16 4 7,
 o 17 (.call false (.t 15) [.t 16]),
 o 18 (.lit 5 1 zL0 [(0, .t 17)]),
 oJ 19 5 80 14 18,
 oM 5 19] false)))
 (.reg [oA 20 10,
 oM 10 20] false)))
def Q1pk : IR :=
 .seq (.reg [o 4 (.zero zL0)] false)
 (.seq (.reg [o 5 (.mov (.c (.ns 5)))] false)
 (.seq (.seq (.reg [oM 8 0,
 oN 9 8,
 o 10 (.mov (.c zI))] false)
 (.block 0 (.loop Q102 Q1lv)))
 (.seq (.reg [oM 21 5,
 oC 22 137 ([.t 21]),
 oS 5 4 22] false)
 (.ret))))
def K1x : IFn := ⟨2, 23, [.cell 4 5 true], false, Q1pk⟩
def Q1nu : IR :=
 .seq (.reg [o 1 (.box 4 (.t 0)),
 o 2 (.zero zL0)] false)
 (.seq (.reg [oF 3 0 1,
 oE 4 1 3 [0],
 oD 5 65 ([.t 4]) [0, 1],
 oD 6 62 ([sA18, .t 5]) [0, 1, 2],
 oF 7 3 1,
 oE 8 1 7 [4],
 oD 9 64 ([.t 8]) (rg 0 6),
 oD 10 62 ([sA31, .t 9]) (rg 0 7),
 oF 11 2 1,
 oE 12 1 11 [8],
 oD 13 110 ([.t 12, .f 111]) (rg 0 10),
 oD 14 62 ([sA37, .t 13]) (rg 0 11),
 oF 15 1 1,
 oE 16 1 15 [12],
 oD 17 109 ([.t 16]) (rg 0 14),
 oD 18 62 ([sA48, .t 17]) (rg 0 15),
 ob 19 (.lit 6 4 zL4 [(0, .t 6), (1, .t 10), (2, .t 14), (3, .t 18)]) (rg 0 16),
 oD 20 61 ([.t 19]) (rg 0 17),
 ⟨none, none, .store 5 (.t 2) (.t 20), (rg 0 18)⟩] true)
 (.ret))
def K1n : IFn := ⟨1, 21, [.cell 2 5 true], false, Q1nu⟩
def Q100 : List Nat := [100050, 1, 4, 5, 8, 9, 10]
def Q1lg : IR :=
 .seq (.reg [o 11 (.bin .lss (.t 10) (.t 9))] false)
 (.seq (.cond (.t 11) (.skip)
 (.exit 0))
 (.seq (.block 1 (.seq (.reg [oI 12 5 8 10,
 oL 13 5 12,
 o 7 (.zero [zS, zS, zB, zI, zI]),
 oS 5 7 13] false)
 (.reg [oM 14 5,
 oM 15 1,
 oL 16 5 7,
 o 17 (.call false (.t 15) [.t 16]),
 o 18 (.lit 5 1 zL0 [(0, .t 17)]),
 oJ 19 5 80 14 18,
 oM 5 19] false)))
 (.reg [oA 20 10,
 oM 10 20] false)))
def Q1n1 : IR :=
 .seq (.reg [o 4 (.zero zL0)] false)
 (.seq (.reg [o 5 (.mov (.c (.ns 5)))] false)
 (.seq (.seq (.reg [oM 8 0,
 oN 9 8,
 o 10 (.mov (.c zI))] false)
 (.block 0 (.loop Q100 Q1lg)))
 (.seq (.reg [oM 21 5,
 oC 22 137 ([.t 21]),
 oS 5 4 22] false)
 (.ret))))
def K1y : IFn := ⟨2, 23, [.cell 4 5 true], false, Q1n1⟩
def Q1rh : IR :=
 .seq (.reg [o 1 (.box 5 (.t 0)),
 o 2 (.zero zL0)] false)
 (.seq (.reg [oF 3 3 1,
 oE 4 1 3 [0],
 oD 5 65 ([.t 4]) [0, 1],
 oD 6 62 ([sA2, .t 5]) [0, 1, 2],
 oF 7 2 1,
 oE 8 1 7 [4],
 oD 9 64 ([.t 8]) (rg 0 6),
 oD 10 62 ([sA3, .t 9]) (rg 0 7),
 oF 11 0 1,
 oE 12 1 11 [8],
 oD 13 109 ([.t 12]) (rg 0 10),
 oD 14 62 ([sA10, .t 13]) (rg 0 11),
 oF 15 4 1,
 oE 16 1 15 [12],
 oD 17 65 ([.t 16]) (rg 0 14),
 oD 18 62 ([sA38, .t 17]) (rg 0 15),
 oF 19 1 1,
 oE 20 1 19 [16],
 oD 21 109 ([.t 20]) (rg 0 18),
 oD 22 62 ([sA52, .t 21]) (rg 0 19),
 ob 23 (.lit 6 5 zL4 [(0, .t 6), (1, .t 10), (2, .t 14), (3, .t 18), (4, .t 22)]) (rg 0 20),
 oD 24 61 ([.t 23]) (rg 0 21),
 ⟨none, none, .store 5 (.t 2) (.t 24), (rg 0 22)⟩] true)
 (.ret))
def K1q : IFn := ⟨1, 25, [.cell 2 5 true], false, Q1rh⟩
def Qmc : List Nat := [100052, 0, 1, 5]
def Q1do : IR :=
 .seq (.seq (.reg [oM 11 5,
 oM 12 0,
 oN 13 12,
 o 14 (.bin .lss (.t 11) (.t 13))] false)
 (.cond (.t 14) (.skip)
 (.exit 0)))
 (.seq (.block 1 (.seq (.reg [oM 17 0,
 oM 18 5,
 ob 19 (.iaddr 2 (.t 17) (.t 18)) [0, 1],
 ob 20 (.load 2 true (.t 19)) [0, 1, 2],
 oM 21 1,
 oM 22 5,
 ob 23 (.iaddr 2 (.t 21) (.t 22)) [4, 5],
 ob 24 (.load 2 true (.t 23)) [4, 5, 6],
 ob 25 (.eqs (.st [(0, 1, .str), (1, 1, .str)]) true (.t 20) (.t 24)) (rg 0 8)] true)
 (.cond (.t 25) (.seq (.reg [o 4 (.mov (.c zB))] false)
 (.ret))
 (.skip))))
 (.reg [oM 15 5,
 oA 16 15,
 oM 5 16] false))
def Q1mo : IR :=
 .seq (.reg [o 4 (.mov (.c zB))] false)
 (.seq (.seq (.reg [oM 6 0,
 oN 7 6,
 oM 8 1,
 oN 9 8,
 o 10 (.bin .neq (.t 7) (.t 9))] false)
 (.cond (.t 10) (.seq (.reg [o 4 (.mov (.c zB))] false)
 (.ret))
 (.skip)))
 (.seq (.seq (.reg [o 5 (.mov (.c zI))] false)
 (.block 0 (.loop Qmc Q1do)))
 (.seq (.reg [o 4 (.mov (.c (.bool true)))] false)
 (.ret))))
def K24 : IFn := ⟨2, 26, [.tmp 4], false, Q1mo⟩
def Qj5 : List Nat := [100053, 0, 1, 5]
def Q1em : IR :=
 .seq (.seq (.reg [oM 11 5,
 oM 12 0,
 oN 13 12,
 o 14 (.bin .lss (.t 11) (.t 13))] false)
 (.cond (.t 14) (.skip)
 (.exit 0)))
 (.seq (.block 1 (.seq (.reg [oM 17 0,
 oM 18 5,
 ob 19 (.iaddr 1 (.t 17) (.t 18)) [0, 1],
 oE 20 1 19 [0, 1, 2],
 oM 21 1,
 oM 22 5,
 ob 23 (.iaddr 1 (.t 21) (.t 22)) [4, 5],
 oE 24 1 23 [4, 5, 6],
 ob 25 (.bin .neq (.t 20) (.t 24)) (rg 0 8)] true)
 (.cond (.t 25) (.seq (.reg [o 4 (.mov (.c zB))] false)
 (.ret))
 (.skip))))
 (.reg [oM 15 5,
 oA 16 15,
 oM 5 16] false))
def Q1mw : IR :=
 .seq (.reg [o 4 (.mov (.c zB))] false)
 (.seq (.seq (.reg [oM 6 0,
 oN 7 6,
 oM 8 1,
 oN 9 8,
 o 10 (.bin .neq (.t 7) (.t 9))] false)
 (.cond (.t 10) (.seq (.reg [o 4 (.mov (.c zB))] false)
 (.ret))
 (.skip)))
 (.seq (.seq (.reg [o 5 (.mov (.c zI))] false)
 (.block 0 (.loop Qj5 Q1em)))
 (.seq (.reg [o 4 (.mov (.c (.bool true)))] false)
 (.ret))))
def K25 : IFn := ⟨2, 26, [.tmp 4], false, Q1mw⟩
def Qlc : List Nat := [100054, 0, 2, 3, 4]
def Q1e7 : IR :=
 .seq (.seq (.reg [oM 6 4,
 oM 7 0,
 oN 8 7,
 o 9 (.bin .lss (.t 6) (.t 8))] false)
 (.cond (.t 9) (.skip)
 (.exit 0)))
 (.seq (.block 1 (.seq (.reg [oM 12 0,
 oM 13 4,
 oI 14 11 12 13,
 oL 15 11 14,
 o 5 (.zero zL5),
 oS 11 5 15] false)
 (.reg [oM 16 3,
 oF 17 1 5,
 oE 18 1 17 [1],
 oD 19 125 ([.t 18]) [1, 2],
 oD 20 71 ([sA9, .t 19]) [1, 2, 3],
 oF 21 5 5,
 ob 22 (.load 3 true (.t 21)) [5],
 oD 23 72 ([.t 22]) (rg 1 7),
 oD 24 71 ([sA11, .t 23]) (rg 1 8),
 oF 25 8 5,
 oE 26 1 25 [9],
 oD 27 149 ([.t 26]) (rg 1 11),
 oD 28 71 ([sA12, .t 27]) (rg 1 12),
 oF 29 0 5,
 oE 30 1 29 [13],
 oD 31 125 ([.t 30]) (rg 1 15),
 oD 32 71 ([sA23, .t 31]) (rg 1 16),
 oF 33 9 5,
 oE 34 1 33 [17],
 oD 35 149 ([.t 34]) (rg 1 19),
 oD 36 71 ([sA35, .t 35]) (rg 1 20),
 oF 37 2 5,
 ob 38 (.load 3 true (.t 37)) [21],
 oD 39 72 ([.t 38]) (rg 1 23),
 oD 40 71 ([sA30, .t 39]) (rg 1 24),
 oF 41 10 5,
 oE 42 1 41 [25],
 oD 43 149 ([.t 42]) (rg 1 27),
 oD 44 71 ([sA44, .t 43]) (rg 1 28),
 ob 45 (.lit 6 7 zL4 [(0, .t 20), (1, .t 24), (2, .t 28), (3, .t 32), (4, .t 36), (5, .t 40), (6, .t 44)]) (rg 1 29),
 oD 46 70 ([.t 45]) (rg 1 30),
 ob 47 (.lit 5 1 zL0 [(0, .t 46)]) (rg 1 31),
 ob 48 (.append 5 80 (.t 16) (.t 47)) (rg 0 32),
 ob 3 (.mov (.t 48)) (rg 0 33)] true)))
 (.reg [oM 10 4,
 oA 11 10,
 oM 4 11] false))
def Q1t7 : IR :=
 .seq (.reg [o 2 (.zero zL0)] false)
 (.seq (.reg [o 3 (.mov (.c (.ns 5)))] false)
 (.seq (.seq (.reg [o 4 (.mov (.c zI))] false)
 (.block 0 (.loop Qlc Q1e7)))
 (.seq (.reg [oM 49 3,
 oC 50 138 ([.t 49]),
 oS 5 2 50] false)
 (.ret))))
def K2x : IFn := ⟨1, 51, [.cell 2 5 true], false, Q1t7⟩
def Q1o2 : IR :=
 .seq (.reg [o 2 (.zero zL0)] false)
 (.seq (.reg [oM 3 0,
 o 4 (.build zL0 [(0, 1, .c (.int .i64 3)), (2, 1, .t 3)]),
 oS 5 2 4] false)
 (.ret))
def K3c : IFn := ⟨1, 5, [.cell 2 5 true], false, Q1o2⟩
def Ql4 : List Nat := [100055, 0, 2, 3, 4]
def Q1eq : IR :=
 .seq (.seq (.reg [oM 5 4,
 oM 6 0,
 oN 7 6,
 o 8 (.bin .lss (.t 5) (.t 7))] false)
 (.cond (.t 8) (.skip)
 (.exit 0)))
 (.seq (.block 1 (.reg [oM 11 3,
 oM 12 0,
 oM 13 4,
 ob 14 (.iaddr 3 (.t 12) (.t 13)) [1, 2],
 ob 15 (.faddr 0 (.t 14)) [1, 2, 3],
 oE 16 1 15 [1, 2, 3, 4],
 oD 17 125 ([.t 16]) (rg 1 6),
 oD 18 71 ([sA10, .t 17]) (rg 1 7),
 oM 19 0,
 oM 20 4,
 ob 21 (.iaddr 3 (.t 19) (.t 20)) [8, 9],
 ob 22 (.faddr 1 (.t 21)) [8, 9, 10],
 oE 23 1 22 [8, 9, 10, 11],
 oD 24 74 ([.t 23]) (rg 1 13),
 oD 25 71 ([sA24, .t 24]) (rg 1 14),
 oM 26 0,
 oM 27 4,
 ob 28 (.iaddr 3 (.t 26) (.t 27)) [15, 16],
 ob 29 (.faddr 2 (.t 28)) [15, 16, 17],
 oE 30 1 29 [15, 16, 17, 18],
 oD 31 150 ([.t 30]) (rg 1 20),
 oD 32 71 ([sA51, .t 31]) (rg 1 21),
 ob 33 (.lit 6 3 zL4 [(0, .t 18), (1, .t 25), (2, .t 32)]) (rg 1 22),
 oD 34 70 ([.t 33]) (rg 1 23),
 ob 35 (.lit 5 1 zL0 [(0, .t 34)]) (rg 1 24),
 ob 36 (.append 5 80 (.t 11) (.t 35)) (rg 0 25),
 ob 3 (.mov (.t 36)) (rg 0 26)] true))
 (.reg [oM 9 4,
 oA 10 9,
 oM 4 10] false))
def Q1mm : IR :=
 .seq (.reg [o 2 (.zero zL0)] false)
 (.seq (.reg [o 3 (.mov (.c (.ns 5)))] false)
 (.seq (.seq (.reg [o 4 (.mov (.c zI))] false)
 (.block 0 (.loop Ql4 Q1eq)))
 (.seq (.reg [oM 37 3,
 oC 38 138 ([.t 37]),
 oS 5 2 38] false)
 (.ret))))
def K2c : IFn := ⟨1, 39, [.cell 2 5 true], false, Q1mm⟩
def Qie : List Nat := [100056, 0, 2, 3, 4]
def Q1ee : IR :=
 .seq (.seq (.reg [oM 5 4,
 oM 6 0,
 oN 7 6,
 o 8 (.bin .lss (.t 5) (.t 7))] false)
 (.cond (.t 8) (.skip)
 (.exit 0)))
 (.seq (.block 1 (.reg [oM 11 3,
 oM 12 0,
 oM 13 4,
 ob 14 (.iaddr 3 (.t 12) (.t 13)) [1, 2],
 ob 15 (.faddr 0 (.t 14)) [1, 2, 3],
 oE 16 1 15 [1, 2, 3, 4],
 oD 17 73 ([.t 16]) (rg 1 6),
 oD 18 71 ([sA31, .t 17]) (rg 1 7),
 oM 19 0,
 oM 20 4,
 ob 21 (.iaddr 3 (.t 19) (.t 20)) [8, 9],
 ob 22 (.faddr 1 (.t 21)) [8, 9, 10],
 oE 23 1 22 [8, 9, 10, 11],
 oD 24 126 ([.t 23]) (rg 1 13),
 oD 25 71 ([sA37, .t 24]) (rg 1 14),
 oM 26 0,
 oM 27 4,
 ob 28 (.iaddr 3 (.t 26) (.t 27)) [15, 16],
 ob 29 (.faddr 2 (.t 28)) [15, 16, 17],
 oE 30 1 29 [15, 16, 17, 18],
 oD 31 74 ([.t 30]) (rg 1 20),
 oD 32 71 ([sA53, .t 31]) (rg 1 21),
 ob 33 (.lit 6 3 zL4 [(0, .t 18), (1, .t 25), (2, .t 32)]) (rg 1 22),
 oD 34 70 ([.t 33]) (rg 1 23),
 ob 35 (.lit 5 1 zL0 [(0, .t 34)]) (rg 1 24),
 ob 36 (.append 5 80 (.t 11) (.t 35)) (rg 0 25),
 ob 3 (.mov (.t 36)) (rg 0 26)] true))
 (.reg [oM 9 4,
 oA 10 9,
 oM 4 10] false))
def Q1mn : IR :=
 .seq (.reg [o 2 (.zero zL0)] false)
 (.seq (.reg [o 3 (.mov (.c (.ns 5)))] false)
 (.seq (.seq (.reg [o 4 (.mov (.c zI))] false)
 (.block 0 (.loop Qie Q1ee)))
 (.seq (.reg [oM 37 3,
 oC 38 138 ([.t 37]),
 oS 5 2 38] false)
 (.ret))))
def K30 : IFn := ⟨1, 39, [.cell 2 5 true], false, Q1mn⟩
def Qho : List Nat := [100057, 0, 2, 3, 4]
def Q1eg : IR :=
 .seq (.seq (.reg [oM 5 4,
 oM 6 0,
 oN 7 6,
 o 8 (.bin .lss (.t 5) (.t 7))] false)
 (.cond (.t 8) (.skip)
 (.exit 0)))
 (.seq (.block 1 (.reg [oM 11 3,
 oM 12 0,
 oM 13 4,
 ob 14 (.iaddr 5 (.t 12) (.t 13)) [1, 2],
 ob 15 (.faddr 1 (.t 14)) [1, 2, 3],
 oE 16 1 15 [1, 2, 3, 4],
 oD 17 73 ([.t 16]) (rg 1 6),
 oD 18 71 ([sA57, .t 17]) (rg 1 7),
 oM 19 0,
 oM 20 4,
 ob 21 (.iaddr 5 (.t 19) (.t 20)) [8, 9],
 ob 22 (.faddr 0 (.t 21)) [8, 9, 10],
 oE 23 1 22 [8, 9, 10, 11],
 oD 24 73 ([.t 23]) (rg 1 13),
 oD 25 71 ([sA31, .t 24]) (rg 1 14),
 oM 26 0,
 oM 27 4,
 ob 28 (.iaddr 5 (.t 26) (.t 27)) [15, 16],
 ob 29 (.faddr 2 (.t 28)) [15, 16, 17],
 oE 30 1 29 [15, 16, 17, 18],
 oD 31 126 ([.t 30]) (rg 1 20),
 oD 32 71 ([sA37, .t 31]) (rg 1 21),
 oM 33 0,
 oM 34 4,
 ob 35 (.iaddr 5 (.t 33) (.t 34)) [22, 23],
 ob 36 (.faddr 3 (.t 35)) [22, 23, 24],
 oE 37 1 36 [22, 23, 24, 25],
 oD 38 125 ([.t 37]) (rg 1 27),
 oD 39 71 ([sA48, .t 38]) (rg 1 28),
 oM 40 0,
 oM 41 4,
 ob 42 (.iaddr 5 (.t 40) (.t 41)) [29, 30],
 ob 43 (.faddr 4 (.t 42)) [29, 30, 31],
 oE 44 1 43 [29, 30, 31, 32],
 oD 45 74 ([.t 44]) (rg 1 34),
 oD 46 71 ([sA53, .t 45]) (rg 1 35),
 ob 47 (.lit 6 5 zL4 [(0, .t 18), (1, .t 25), (2, .t 32), (3, .t 39), (4, .t 46)]) (rg 1 36),
 oD 48 70 ([.t 47]) (rg 1 37),
 ob 49 (.lit 5 1 zL0 [(0, .t 48)]) (rg 1 38),
 ob 50 (.append 5 80 (.t 11) (.t 49)) (rg 0 39),
 ob 3 (.mov (.t 50)) (rg 0 40)] true))
 (.reg [oM 9 4,
 oA 10 9,
 oM 4 10] false))
def Q1sf : IR :=
 .seq (.reg [o 2 (.zero zL0)] false)
 (.seq (.reg [o 3 (.mov (.c (.ns 5)))] false)
 (.seq (.seq (.reg [o 4 (.mov (.c zI))] false)
 (.block 0 (.loop Qho Q1eg)))
 (.seq (.reg [oM 51 3,
 oC 52 138 ([.t 51]),
 oS 5 2 52] false)
 (.ret))))
def K31 : IFn := ⟨1, 53, [.cell 2 5 true], false, Q1sf⟩
def Qii : List Nat := [100058, 0, 2, 3, 4]
def Q1ey : IR :=
 .seq (.seq (.reg [oM 5 4,
 oM 6 0,
 oN 7 6,
 o 8 (.bin .lss (.t 5) (.t 7))] false)
 (.cond (.t 8) (.skip)
 (.exit 0)))
 (.seq (.block 1 (.reg [oM 11 3,
 oM 12 0,
 oM 13 4,
 ob 14 (.iaddr 4 (.t 12) (.t 13)) [1, 2],
 ob 15 (.faddr 0 (.t 14)) [1, 2, 3],
 oE 16 1 15 [1, 2, 3, 4],
 oD 17 74 ([.t 16]) (rg 1 6),
 oD 18 71 ([sA18, .t 17]) (rg 1 7),
 oM 19 0,
 oM 20 4,
 ob 21 (.iaddr 4 (.t 19) (.t 20)) [8, 9],
 ob 22 (.faddr 3 (.t 21)) [8, 9, 10],
 oE 23 1 22 [8, 9, 10, 11],
 oD 24 73 ([.t 23]) (rg 1 13),
 oD 25 71 ([sA31, .t 24]) (rg 1 14),
 oM 26 0,
 oM 27 4,
 ob 28 (.iaddr 4 (.t 26) (.t 27)) [15, 16],
 ob 29 (.faddr 2 (.t 28)) [15, 16, 17],
 oE 30 1 29 [15, 16, 17, 18],
 oD 31 126 ([.t 30]) (rg 1 20),
 oD 32 71 ([sA37, .t 31]) (rg 1 21),
 oM 33 0,
 oM 34 4,
 ob 35 (.iaddr 4 (.t 33) (.t 34)) [22, 23],
 ob 36 (.faddr 1 (.t 35)) [22, 23, 24],
 oE 37 1 36 [22, 23, 24, 25],
 oD 38 125 ([.t 37]) (rg 1 27),
 oD 39 71 ([sA48, .t 38]) (rg 1 28),
 ob 40 (.lit 6 4 zL4 [(0, .t 18), (1, .t 25), (2, .t 32), (3, .t 39)]) (rg 1 29),
 oD 41 70 ([.t 40]) (rg 1 30),
 ob 42 (.lit 5 1 zL0 [(0, .t 41)]) (rg 1 31),
 ob 43 (.append 5 80 (.t 11) (.t 42)) (rg 0 32),
 ob 3 (.mov (.t 43)) (rg 0 33)] true))
 (.reg [oM 9 4,
 oA 10 9,
 oM 4 10] false))
def Q1ro : IR :=
 .seq (.reg [o 2 (.zero zL0)] false)
 (.seq (.reg [o 3 (.mov (.c (.ns 5)))] false)
 (.seq (.seq (.reg [o 4 (.mov (.c zI))] false)
 (.block 0 (.loop Qii Q1ey)))
 (.seq (.reg [oM 44 3,
 oC 45 138 ([.t 44]),
 oS 5 2 45] false)
 (.ret))))
def K34 : IFn := ⟨1, 46, [.cell 2 5 true], false, Q1ro⟩
def Qk4 : List Nat := [100059, 0, 2, 3, 4]
def Q1dp : IR :=
 .seq (.seq (.reg [oM 5 4,
 oM 6 0,
 oN 7 6,
 o 8 (.bin .lss (.t 5) (.t 7))] false)
 (.cond (.t 8) (.skip)
 (.exit 0)))
 (.seq (.block 1 (.reg [oM 11 3,
 oM 12 0,
 oM 13 4,
 ob 14 (.iaddr 5 (.t 12) (.t 13)) [1, 2],
 ob 15 (.faddr 3 (.t 14)) [1, 2, 3],
 oE 16 1 15 [1, 2, 3, 4],
 oD 17 74 ([.t 16]) (rg 1 6),
 oD 18 71 ([sA2, .t 17]) (rg 1 7),
 oM 19 0,
 oM 20 4,
 ob 21 (.iaddr 5 (.t 19) (.t 20)) [8, 9],
 ob 22 (.faddr 2 (.t 21)) [8, 9, 10],
 oE 23 1 22 [8, 9, 10, 11],
 oD 24 73 ([.t 23]) (rg 1 13),
 oD 25 71 ([sA3, .t 24]) (rg 1 14),
 oM 26 0,
 oM 27 4,
 ob 28 (.iaddr 5 (.t 26) (.t 27)) [15, 16],
 ob 29 (.faddr 0 (.t 28)) [15, 16, 17],
 oE 30 1 29 [15, 16, 17, 18],
 oD 31 125 ([.t 30]) (rg 1 20),
 oD 32 71 ([sA10, .t 31]) (rg 1 21),
 oM 33 0,
 oM 34 4,
 ob 35 (.iaddr 5 (.t 33) (.t 34)) [22, 23],
 ob 36 (.faddr 4 (.t 35)) [22, 23, 24],
 oE 37 1 36 [22, 23, 24, 25],
 oD 38 74 ([.t 37]) (rg 1 27),
 oD 39 71 ([sA38, .t 38]) (rg 1 28),
 oM 40 0,
 oM 41 4,
 ob 42 (.iaddr 5 (.t 40) (.t 41)) [29, 30],
 ob 43 (.faddr 1 (.t 42)) [29, 30, 31],
 oE 44 1 43 [29, 30, 31, 32],
 oD 45 125 ([.t 44]) (rg 1 34),
 oD 46 71 ([sA52, .t 45]) (rg 1 35),
 ob 47 (.lit 6 5 zL4 [(0, .t 18), (1, .t 25), (2, .t 32), (3, .t 39), (4, .t 46)]) (rg 1 36),
 oD 48 70 ([.t 47]) (rg 1 37),
 ob 49 (.lit 5 1 zL0 [(0, .t 48)]) (rg 1 38),
 ob 50 (.append 5 80 (.t 11) (.t 49)) (rg 0 39),
 ob 3 (.mov (.t 50)) (rg 0 40)] true))
 (.reg [oM 9 4,
 oA 10 9,
 oM 4 10] false))
def Q1tj : IR :=
 .seq (.reg [o 2 (.zero zL0)] false)
 (.seq (.reg [o 3 (.mov (.c (.ns 5)))] false)
 (.seq (.seq (.reg [o 4 (.mov (.c zI))] false)
 (.block 0 (.loop Qk4 Q1dp)))
 (.seq (.reg [oM 51 3,
 oC 52 138 ([.t 51]),
 oS 5 2 52] false)
 (.ret))))
def K38 : IFn := ⟨1, 53, [.cell 2 5 true], false, Q1tj⟩
def Qj6 : List Nat := [100060, 0, 2, 3, 4]
def Q1e5 : IR :=
 .seq (.seq (.reg [oM 6 4,
 oM 7 0,
 oN 8 7,
 o 9 (.bin .lss (.t 6) (.t 8))] false)
 (.cond (.t 9) (.skip)
 (.exit 0)))
 (.seq (.block 1 (.seq (.reg [oM 12 0,
 oM 13 4,
 oI 14 7 12 13,
 oL 15 7 14,
 o 5 (.zero zL9),
 oS 7 5 15] false)
 (.reg [oM 16 3,
 oF 17 3 5,
 oE 18 1 17 [1],
 oD 19 74 ([.t 18]) [1, 2],
 oD 20 71 ([sA4, .t 19]) [1, 2, 3],
 oF 21 0 5,
 oE 22 1 21 [5],
 oD 23 125 ([.t 22]) (rg 1 7),
 oD 24 71 ([sA23, .t 23]) (rg 1 8),
 oF 25 5 5,
 oE 26 1 25 [9],
 oD 27 73 ([.t 26]) (rg 1 11),
 oD 28 71 ([sA35, .t 27]) (rg 1 12),
 oF 29 2 5,
 oE 30 1 29 [13],
 oD 31 74 ([.t 30]) (rg 1 15),
 oD 32 71 ([sA32, .t 31]) (rg 1 16),
 oF 33 4 5,
 oE 34 1 33 [17],
 oD 35 74 ([.t 34]) (rg 1 19),
 oD 36 71 ([sA39, .t 35]) (rg 1 20),
 oF 37 6 5,
 oE 38 1 37 [21],
 oD 39 73 ([.t 38]) (rg 1 23),
 oD 40 71 ([sA43, .t 39]) (rg 1 24),
 oF 41 1 5,
 oE 42 1 41 [25],
 oD 43 74 ([.t 42]) (rg 1 27),
 oD 44 71 ([sA45, .t 43]) (rg 1 28),
 ob 45 (.lit 6 7 zL4 [(0, .t 20), (1, .t 24), (2, .t 28), (3, .t 32), (4, .t 36), (5, .t 40), (6, .t 44)]) (rg 1 29),
 oD 46 70 ([.t 45]) (rg 1 30),
 ob 47 (.lit 5 1 zL0 [(0, .t 46)]) (rg 1 31),
 ob 48 (.append 5 80 (.t 16) (.t 47)) (rg 0 32),
 ob 3 (.mov (.t 48)) (rg 0 33)] true)))
 (.reg [oM 10 4,
 oA 11 10,
 oM 4 11] false))
def Q1qo : IR :=
 .seq (.reg [o 2 (.zero zL0)] false)
 (.seq (.reg [o 3 (.mov (.c (.ns 5)))] false)
 (.seq (.seq (.reg [o 4 (.mov (.c zI))] false)
 (.block 0 (.loop Qj6 Q1e5)))
 (.seq (.reg [oM 49 3,
 oC 50 138 ([.t 49]),
 oS 5 2 50] false)
 (.ret))))
def K36 : IFn := ⟨1, 51, [.cell 2 5 true], false, Q1qo⟩
def Q1su : IR :=
 .reg [oM 4 0,
 oM 5 0,
 oN 6 5,
 oM 7 1,
 o 8 (.call true (.f 151) [.t 4, .t 6, .t 7])] false
def K3r : IFn := ⟨2, 9, [], false, Q1su⟩
def Q1sq : IR :=
 .seq (.reg [o 2 (.box 6 (.t 0)),
 o 3 (.box 6 (.t 1)),
 o 4 (.mov (.c zI))] false)
 (.seq (.reg [oF 5 0 2,
 oK 6 1 5,
 oF 7 0 3,
 oK 8 1 7,
 oC 9 135 ([.t 6, .t 8]),
 oM 4 9] false)
 (.ret))
def K40 : IFn := ⟨2, 10, [.tmp 4], false, Q1sq⟩
def Q1mj : IR :=
 .seq (.reg [o 4 (.mov (.c zI))] false)
 (.seq (.reg [oM 5 0,
 oM 6 1,
 oC 7 152 ([.t 5, .t 6]),
 oM 4 7] false)
 (.ret))
def K3u : IFn := ⟨2, 8, [.tmp 4], false, Q1mj⟩
def Qmo : List Nat := [100062, 1, 2, 31, 32, 33]
def Q1ei : IR :=
 .seq (.reg [o 34 (.bin .lss (.t 33) (.t 32))] false)
 (.seq (.cond (.t 34) (.skip)
 (.exit 2))
 (.seq (.block 3 (.seq (.reg [oM 35 33,
 oI 36 6 31 33,
 oL 37 6 36,
 o 6 (.zero zL4),
 oM 5 35,
 oS 6 6 37] false)
 (.reg [oF 38 4 1,
 oE 39 1 38 [0],
 oM 40 5,
 oF 41 1 6,
 ob 42 (.load 5 true (.t 41)) [3],
 oD 43 136 ([.t 42]) [3, 4],
 ob 44 (.iaddr 6 (.t 39) (.t 40)) (rg 0 6),
 ob 45 (.faddr 1 (.t 44)) (rg 0 7),
 ⟨none, none, .store 5 (.t 45) (.t 43), (rg 0 8)⟩] true)))
 (.reg [oA 46 33,
 oM 33 46] false)))
def Qi8 : List Nat := [100061, 1, 2, 12, 13, 14]
def Q1ef : IR :=
 .seq (.reg [o 15 (.bin .lss (.t 14) (.t 13))] false)
 (.seq (.cond (.t 15) (.skip)
 (.exit 0))
 (.seq (.block 1 (.seq (.reg [oM 16 14,
 oI 17 5 12 14,
 oL 18 5 17,
 o 4 (.zero zL0),
 oM 3 16,
 oS 5 4 18] false)
 (.reg [oF 19 3 1,
 oE 20 1 19 [0],
 oM 21 3,
 oL 22 5 4,
 oD 23 136 ([.t 22]) [3],
 ob 24 (.iaddr 5 (.t 20) (.t 21)) (rg 0 5),
 ⟨none, none, .store 5 (.t 24) (.t 23), (rg 0 6)⟩] true)))
 (.reg [oA 25 14,
 oM 14 25] false)))
def Q1sw : IR :=
 .seq (.reg [o 1 (.box 5 (.t 0)),
 o 2 (.zero zL0)] false)
 (.seq (.reg [oF 7 3 1,
 oK 8 1 7,
 oC 9 153 ([.t 8]),
 oF 10 3 1,
 oS 1 10 9] false)
 (.seq (.seq (.reg [oF 11 3 1,
 oK 12 1 11,
 oN 13 12,
 o 14 (.mov (.c zI))] false)
 (.block 0 (.loop Qi8 Q1ef)))
 (.seq (.reg [oF 26 4 1,
 oK 27 1 26,
 oC 28 132 ([.t 27]),
 oF 29 4 1,
 oS 1 29 28] false)
 (.seq (.seq (.reg [oF 30 4 1,
 oK 31 1 30,
 oN 32 31,
 o 33 (.mov (.c zI))] false)
 (.block 2 (.loop Qmo Q1ei)))
 (.seq (.reg [oL 47 5 1,
 oS 5 2 47] false)
 (.ret))))))
def K42 : IFn := ⟨1, 48, [.cell 2 5 true], false, Q1sw⟩
def Q1o8 : IR :=
 .seq (.reg [o 2 (.zero zL0)] false)
 (.seq (.reg [oM 3 0,
 o 4 (.build zL0 [(0, 1, .c (.int .i64 4)), (3, 1, .t 3)]),
 oC 5 136 ([.t 4]),
 oS 5 2 5] false)
 (.ret))
def K3y : IFn := ⟨1, 6, [.cell 2 5 true], false, Q1o8⟩
def Q1qy : IR :=
 .seq (.reg [o 2 (.zero zL0)] false)
 (.seq (.reg [oM 3 0,
 o 4 (.build zL0 [(0, 1, .c (.int .i64 4)), (3, 1, .t 3)]),
 oS 5 2 4] false)
 (.ret))
def K39 : IFn := ⟨1, 5, [.cell 2 5 true], false, Q1qy⟩
def Qk7 : List Nat := [100063, 3, 9, 16, 17, 18]
def Q1f3 : IR :=
 .seq (.reg [o 19 (.bin .lss (.t 18) (.t 17))] false)
 (.seq (.cond (.t 19) (.skip)
 (.exit 0))
 (.seq (.block 1 (.seq (.reg [oI 20 5 16 18,
 oL 21 5 20,
 o 11 (.zero zL0),
 oS 5 11 21] false)
 (.reg [oM 22 9,
 oM 23 3,
 oL 24 5 11,
 o 25 (.call false (.t 23) [.t 24]),
 o 26 (.lit 4 1 [zI, zI, zI, zI] [(0, .t 25)]),
 oJ 27 4 32 22 26,
 oM 9 27] false)))
 (.reg [oA 28 18,
 oM 18 28] false)))
def Q1rb : IR :=
 .seq (.reg [o 5 (.box 5 (.t 1)),
 o 8 (.mov (.c (.ns 4)))] false)
 (.seq (.reg [o 9 (.mov (.c (.ns 4)))] false)
 (.seq (.seq (.reg [oM 12 0,
 oL 13 5 5,
 oM 14 2,
 oC 15 106 ([.t 12, .t 13, .t 14, .c (.int .i64 4)]),
 o 16 (.field 3 1 false (.t 15)),
 oN 17 16,
 o 18 (.mov (.c zI))] false)
 (.block 0 (.loop Qk7 Q1f3)))
 (.seq (.reg [oM 29 9,
 oM 8 29] false)
 (.ret))))
def K12 : IFn := ⟨4, 30, [.tmp 8], false, Q1rb⟩
def Kp_c : IR :=
 .seq (.reg [o 3 (.box 5 (.t 1)),
 o 4 (.zero [zI, zI, zI, zI])] false)
 (.seq (.reg [oM 5 0,
 oL 6 5 3,
 oC 7 36 ([.t 5, .t 6])] false)
 (.seq (.reg [oM 8 0,
 oL 9 5 3,
 oD 10 39 ([.t 8, .t 9, sA0]) [0, 1],
 oM 11 0,
 oL 12 5 3,
 oD 13 39 ([.t 11, .t 12, sA25]) (rg 0 5),
 oM 14 0,
 oL 15 5 3,
 oD 16 39 ([.t 14, .t 15, sA46]) (rg 0 8),
 oM 17 0,
 oL 18 5 3,
 oD 19 39 ([.t 17, .t 18, sA6]) (rg 0 11),
 ob 20 (.build [zI, zI, zI, zI] [(0, 1, .t 10), (1, 1, .t 13), (2, 1, .t 16), (3, 1, .t 19)]) (rg 0 12),
 ⟨none, none, .store 4 (.t 4) (.t 20), (rg 0 13)⟩] true)
 (.ret)))
def Kp : IFn := ⟨2, 21, [.cell 4 4 true], false, Kp_c⟩
def Qmp : List Nat := [100064, 3, 9, 16, 17, 18]
def Q1eu : IR :=
 .seq (.reg [o 19 (.bin .lss (.t 18) (.t 17))] false)
 (.seq (.cond (.t 19) (.skip)
 (.exit 0))
 (.seq (.block 1 (.seq (.reg [oI 20 5 16 18,
 oL 21 5 20,
 o 11 (.zero zL0),
 oS 5 11 21] false)
 (.reg [oM 22 9,
 oM 23 3,
 oL 24 5 11,
 o 25 (.call false (.t 23) [.t 24]),
 o 26 (.lit 1 1 [zS] [(0, .t 25)]),
 oJ 27 1 16 22 26,
 oM 9 27] false)))
 (.reg [oA 28 18,
 oM 18 28] false)))
def Q1th : IR :=
 .seq (.reg [o 5 (.box 5 (.t 1)),
 o 8 (.mov (.c (.ns 1)))] false)
 (.seq (.reg [o 9 (.mov (.c (.ns 1)))] false)
 (.seq (.seq (.reg [oM 12 0,
 oL 13 5 5,
 oM 14 2,
 oC 15 106 ([.t 12, .t 13, .t 14, .c (.int .i64 4)]),
 o 16 (.field 3 1 false (.t 15)),
 oN 17 16,
 o 18 (.mov (.c zI))] false)
 (.block 0 (.loop Qmp Q1eu)))
 (.seq (.reg [oM 29 9,
 oM 8 29] false)
 (.ret))))
def K13 : IFn := ⟨4, 30, [.tmp 8], false, Q1th⟩
def Kz_c : IR :=
 .seq (.reg [o 3 (.box 5 (.t 1)),
 o 4 (.mov (.c (zS)))] false)
 (.seq (.reg [oM 5 0,
 oM 6 0,
 o 7 (.nilck (.t 6)),
 oF 8 0 7,
 oK 9 1 8,
 oM 10 9,
 gF 11 10 (.faddr 0 (.t 3)),
 gF 12 10 (.load 1 false (.t 11)),
 gF 13 10 (.bin .neq (.t 12) (.c (.int .i64 3))),
 gF 14 10 (.mov (.t 13)),
 gT 15 14 (.faddr 0 (.t 3)),
 gT 16 14 (.load 1 false (.t 15)),
 gT 17 14 (.bin .neq (.t 16) (.c zI)),
 gF 18 10 (.pick (.t 14) (.t 17) (.c zB)),
 oQ 19 10 18,
 o 20 (.nilck (.t 5)),
 oF 21 0 20,
 oS 1 21 19] false)
 (.seq (.seq (.reg [oF 22 0 3,
 oK 23 1 22,
 o 24 (.bin .neq (.t 23) (.c (.int .i64 3)))] false)
 (.cond (.t 24) (.seq (.reg [o 4 (.mov (.c (zS)))] false)
 (.ret))
 (.skip)))
 (.seq (.reg [oF 25 2 3,
 oK 26 1 25,
 oM 4 26] false)
 (.ret))))
def Kz : IFn := ⟨2, 27, [.tmp 4], false, Kz_c⟩
def Q1tk : IR :=
 .seq (.reg [o 1 (.box 5 (.t 0)),
 o 2 (.zero zL5),
 o 3 (.mov (.c zB))] false)
 (.seq (.reg [o 20 (.build zL5 []),
 o 4 (.zero zL5),
 oS 11 4 20] false)
 (.seq (.reg [o 21 (.bzero zL11),
 o 5 (.zero zL11),
 oS 7 5 21] false)
 (.seq (.reg [oL 23 5 1,
 oC 24 54 ([.t 23, sA9]),
 oM 22 24,
 oX 25 22 0,
 oX 26 22 1,
 oM 6 25,
 oM 7 26] false)
 (.seq (.reg [oM 27 6,
 oF 28 1 4,
 oS 1 28 27] false)
 (.seq (.reg [oM 29 7,
 o 30 (.aaddr 7 1 (.t 5) (.c zI)),
 oS 1 30 29] false)
 (.seq (.reg [oL 32 5 1,
 oC 33 45 ([.t 32, sA11]),
 oM 31 33,
 oX 34 31 0,
 oX 35 31 1,
 o 8 (.zero [zI, zI, zI]),
 oS 3 8 34,
 oM 9 35] false)
 (.seq (.reg [oL 36 3 8,
 oF 37 5 4,
 oS 3 37 36] false)
 (.seq (.reg [oM 38 9,
 o 39 (.aaddr 7 1 (.t 5) (.c (.int .i64 1))),
 oS 1 39 38] false)
 (.seq (.reg [oL 41 5 1,
 oC 42 154 ([.t 41, sA12]),
 oM 40 42,
 oX 43 40 0,
 oX 44 40 1,
 oM 10 43,
 oM 11 44] false)
 (.seq (.reg [oM 45 10,
 oF 46 8 4,
 oS 1 46 45] false)
 (.seq (.reg [oM 47 11,
 o 48 (.aaddr 7 1 (.t 5) (.c (.int .i64 2))),
 oS 1 48 47] false)
 (.seq (.reg [oL 50 5 1,
 oC 51 54 ([.t 50, sA23]),
 oM 49 51,
 oX 52 49 0,
 oX 53 49 1,
 oM 12 52,
 oM 13 53] false)
 (.seq (.reg [oM 54 12,
 oF 55 0 4,
 oS 1 55 54] false)
 (.seq (.reg [oM 56 13,
 o 57 (.aaddr 7 1 (.t 5) (.c (.int .i64 3))),
 oS 1 57 56] false)
 (.seq (.reg [oL 59 5 1,
 oC 60 154 ([.t 59, sA35]),
 oM 58 60,
 oX 61 58 0,
 oX 62 58 1,
 oM 14 61,
 oM 15 62] false)
 (.seq (.reg [oM 63 14,
 oF 64 9 4,
 oS 1 64 63] false)
 (.seq (.reg [oM 65 15,
 o 66 (.aaddr 7 1 (.t 5) (.c (.int .i64 4))),
 oS 1 66 65] false)
 (.seq (.reg [oL 68 5 1,
 oC 69 45 ([.t 68, sA30]),
 oM 67 69,
 oX 70 67 0,
 oX 71 67 1,
 o 16 (.zero [zI, zI, zI]),
 oS 3 16 70,
 oM 17 71] false)
 (.seq (.reg [oL 72 3 16,
 oF 73 2 4,
 oS 3 73 72] false)
 (.seq (.reg [oM 74 17,
 o 75 (.aaddr 7 1 (.t 5) (.c (.int .i64 5))),
 oS 1 75 74] false)
 (.seq (.reg [oL 77 5 1,
 oC 78 154 ([.t 77, sA44]),
 oM 76 78,
 oX 79 76 0,
 oX 80 76 1,
 oM 18 79,
 oM 19 80] false)
 (.seq (.reg [oM 81 18,
 oF 82 10 4,
 oS 1 82 81] false)
 (.seq (.reg [oM 83 19,
 o 84 (.aaddr 7 1 (.t 5) (.c (.int .i64 6))),
 oS 1 84 83] false)
 (.seq (.reg [oL 85 11 4,
 oL 86 5 1,
 oD 87 50 ([.t 86]) [1],
 ob 88 (.mov (.t 87)) [1, 2],
 ⟨(some 89), (some (88, true)), .aaddr 7 1 (.t 5) (.c zI), [1, 2, 3]⟩,
 ⟨(some 90), (some (88, true)), .load 1 false (.t 89), [1, 2, 3, 4]⟩,
 ob 91 (.pick (.t 88) (.t 90) (.c zB)) (rg 1 6),
 ob 92 (.mov (.t 91)) (rg 1 7),
 ⟨(some 93), (some (92, true)), .aaddr 7 1 (.t 5) (.c (.int .i64 1)), (rg 1 8)⟩,
 ⟨(some 94), (some (92, true)), .load 1 false (.t 93), (rg 1 9)⟩,
 ob 95 (.pick (.t 92) (.t 94) (.c zB)) (rg 1 10),
 ob 96 (.mov (.t 95)) (rg 1 11),
 ⟨(some 97), (some (96, true)), .aaddr 7 1 (.t 5) (.c (.int .i64 2)), (rg 1 12)⟩,
 ⟨(some 98), (some (96, true)), .load 1 false (.t 97), (rg 1 13)⟩,
 ob 99 (.pick (.t 96) (.t 98) (.c zB)) (rg 1 14),
 ob 100 (.mov (.t 99)) (rg 1 15),
 ⟨(some 101), (some (100, true)), .aaddr 7 1 (.t 5) (.c (.int .i64 3)), (rg 1 16)⟩,
 ⟨(some 102), (some (100, true)), .load 1 false (.t 101), (rg 1 17)⟩,
 ob 103 (.pick (.t 100) (.t 102) (.c zB)) (rg 1 18),
 ob 104 (.mov (.t 103)) (rg 1 19),
 ⟨(some 105), (some (104, true)), .aaddr 7 1 (.t 5) (.c (.int .i64 4)), (rg 1 20)⟩,
 ⟨(some 106), (some (104, true)), .load 1 false (.t 105), (rg 1 21)⟩,
 ob 107 (.pick (.t 104) (.t 106) (.c zB)) (rg 1 22),
 ob 108 (.mov (.t 107)) (rg 1 23),
 ⟨(some 109), (some (108, true)), .aaddr 7 1 (.t 5) (.c (.int .i64 5)), (rg 1 24)⟩,
 ⟨(some 110), (some (108, true)), .load 1 false (.t 109), (rg 1 25)⟩,
 ob 111 (.pick (.t 108) (.t 110) (.c zB)) (rg 1 26),
 ob 112 (.mov (.t 111)) (rg 1 27),
 ⟨(some 113), (some (112, true)), .aaddr 7 1 (.t 5) (.c (.int .i64 6)), (rg 1 28)⟩,
 ⟨(some 114), (some (112, true)), .load 1 false (.t 113), (rg 1 29)⟩,
 ob 115 (.pick (.t 112) (.t 114) (.c zB)) (rg 1 30),
 ⟨none, none, .store 11 (.t 2) (.t 85), (rg 0 28)⟩,
 ob 3 (.mov (.t 115)) (rg 0 32)] true)
 (.ret)))))))))))))))))))))))))
def K3d : IFn := ⟨1, 116, [.cell 2 11 true, .tmp 3], false, Q1tk⟩
def Qly : List Nat := [100065, 6, 7, 8, 9]
def Q1f9 : IR :=
 .seq (.seq (.reg [oM 16 9,
 oM 17 6,
 oN 18 17,
 o 19 (.bin .lss (.t 16) (.t 18))] false)
 (.cond (.t 19) (.skip)
 (.exit 0)))
 (.seq (.block 1 (.seq (.reg [oM 22 8,
 oM 23 6,
 oM 24 9,
 oI 25 5 23 24,
 oF 26 2 25,
 oK 27 1 26,
 o 28 (.lit 1 1 [zS] [(0, .t 27)]),
 oJ 29 1 16 22 28,
 oM 8 29] false)
 (.seq (.reg [oM 30 7,
 oM 31 30,
 gT 32 31 (.mov (.t 6)),
 gT 33 31 (.mov (.t 9)),
 gT 34 31 (.iaddr 5 (.t 32) (.t 33)),
 gT 35 31 (.faddr 0 (.t 34)),
 gT 36 31 (.load 1 false (.t 35)),
 gT 37 31 (.bin .eql (.t 36) (.c (.int .i64 3))),
 gT 38 31 (.mov (.t 37)),
 gF 39 38 (.mov (.t 6)),
 gF 40 38 (.mov (.t 9)),
 gF 41 38 (.iaddr 5 (.t 39) (.t 40)),
 gF 42 38 (.faddr 0 (.t 41)),
 gF 43 38 (.load 1 false (.t 42)),
 gF 44 38 (.bin .eql (.t 43) (.c zI)),
 gT 45 31 (.pick (.t 38) (.c (.bool true)) (.t 44)),
 oP 46 31 45,
 oM 7 46] false)
 (.seq (.reg [oM 47 6,
 oM 48 9,
 oI 49 5 47 48,
 oF 50 0 49,
 oK 51 1 50,
 o 52 (.bin .eql (.t 51) (.c zI))] false)
 (.cond (.t 52) (.reg [oM 53 8,
 oM 54 9,
 oI 55 1 53 54,
 ⟨none, none, .store 1 (.t 55) (.c (zS)), []⟩] false)
 (.skip))))))
 (.reg [oM 20 9,
 oA 21 20,
 oM 9 21] false))
def Q1rs : IR :=
 .seq (.reg [o 2 (.box 5 (.t 0)),
 o 4 (.mov (.c (.ns 1))),
 o 5 (.mov (.c zB))] false)
 (.seq (.reg [oL 11 5 2,
 oM 12 1,
 oC 13 53 ([.t 11, .t 12]),
 oM 10 13,
 oX 14 10 0,
 oX 15 10 1,
 oM 6 14,
 oM 7 15] false)
 (.seq (.reg [o 8 (.mov (.c (.ns 1)))] false)
 (.seq (.seq (.reg [o 9 (.mov (.c zI))] false)
 (.block 0 (.loop Qly Q1f9)))
 (.seq (.reg [oM 56 8,
 oM 57 7,
 oM 4 56,
 oM 5 57] false)
 (.ret)))))
def K2q : IFn := ⟨2, 58, [.tmp 4, .tmp 5], false, Q1rs⟩
def Qkl : List Nat := [100066, 1, 4, 12, 13, 14]
def Q1f5 : IR :=
 .seq (.reg [o 15 (.bin .lss (.t 14) (.t 13))] false)
 (.seq (.cond (.t 15) (.skip)
 (.exit 0))
 (.seq (.block 1 (.seq (.reg [oI 16 6 12 14,
 oL 17 6 16,
 o 7 (.zero zL4),
 oS 6 7 17] false)
 (.seq (.reg [oF 18 0 7,
 oK 19 1 18,
 oM 20 1,
 o 21 (.bin .eql (.t 19) (.t 20))] false)
 (.cond (.t 21) (.seq (.reg [oF 22 1 7,
 oL 23 5 22,
 oC 24 136 ([.t 23]),
 oS 5 4 24,
 o 5 (.mov (.c (.bool true)))] false)
 (.ret))
 (.skip)))))
 (.reg [oA 25 14,
 oM 14 25] false)))
def Q1t6 : IR :=
 .seq (.reg [o 2 (.box 5 (.t 0)),
 o 4 (.zero zL0),
 o 5 (.mov (.c zB))] false)
 (.seq (.seq (.reg [oF 8 0 2,
 oK 9 1 8,
 o 10 (.bin .eql (.t 9) (.c (.int .i64 5)))] false)
 (.cond (.t 10) (.seq (.reg [oF 11 4 2,
 oK 12 1 11,
 oN 13 12,
 o 14 (.mov (.c zI))] false)
 (.block 0 (.loop Qkl Q1f5)))
 (.skip)))
 (.seq (.reg [o 26 (.build zL0 []),
 oS 5 4 26,
 o 5 (.mov (.c zB))] false)
 (.ret)))
def K3w : IFn := ⟨2, 27, [.cell 4 5 true, .tmp 5], false, Q1t6⟩
def Qzb : List Nat := [100067, 1, 4, 5, 8, 9, 10]
def Q1kv : IR :=
 .seq (.reg [o 11 (.bin .lss (.t 10) (.t 9))] false)
 (.seq (.cond (.t 11) (.skip)
 (.exit 0))
 (.seq (.block 1 (.seq (.reg [oI 12 4 8 10,
 oL 13 4 12,
 o 7 (.zero [zI, zI, zI, zI]),
 oS 4 7 13] false)
 (.reg [oM 14 5,
 oM 15 1,
 oL 16 4 7,
 o 17 (.call false (.t 15) [.t 16]),
 o 18 (.lit 5 1 zL0 [(0, .t 17)]),
 oJ 19 5 80 14 18,
 oM 5 19] false)))
 (.reg [oA 20 10,
 oM 10 20] false)))
def Q1sp : IR :=
 .seq (.reg [o 4 (.zero zL0)] false)
 (.seq (.reg [o 5 (.mov (.c (.ns 5)))] false)
 (.seq (.seq (.reg [oM 8 0,
 oN 9 8,
 o 10 (.mov (.c zI))] false)
 (.block 0 (.loop Qzb Q1kv)))
 (.seq (.reg [oM 21 5,
 oC 22 137 ([.t 21]),
 oS 5 4 22] false)
 (.ret))))
def K20 : IFn := ⟨2, 23, [.cell 4 5 true], false, Q1sp⟩
def Q1mi : IR :=
 .seq (.reg [o 1 (.box 4 (.t 0)),
 o 2 (.zero zL0)] false)
 (.seq (.reg [oF 3 0 1,
 oE 4 1 3 [0],
 oD 5 65 ([.t 4]) [0, 1],
 oD 6 62 ([sA0, .t 5]) [0, 1, 2],
 oF 7 3 1,
 oE 8 1 7 [4],
 oD 9 65 ([.t 8]) (rg 0 6),
 oD 10 62 ([sA6, .t 9]) (rg 0 7),
 oF 11 1 1,
 oE 12 1 11 [8],
 oD 13 65 ([.t 12]) (rg 0 10),
 oD 14 62 ([sA25, .t 13]) (rg 0 11),
 oF 15 2 1,
 oE 16 1 15 [12],
 oD 17 65 ([.t 16]) (rg 0 14),
 oD 18 62 ([sA46, .t 17]) (rg 0 15),
 ob 19 (.lit 6 4 zL4 [(0, .t 6), (1, .t 10), (2, .t 14), (3, .t 18)]) (rg 0 16),
 oD 20 61 ([.t 19]) (rg 0 17),
 ⟨none, none, .store 5 (.t 2) (.t 20), (rg 0 18)⟩] true)
 (.ret))
def K1j : IFn := ⟨1, 21, [.cell 2 5 true], false, Q1mi⟩
def Qzm : List Nat := [100068, 1, 4, 5, 8, 9, 10]
def Q1kc : IR :=
 .seq (.reg [o 11 (.bin .lss (.t 10) (.t 9))] false)
 (.seq (.cond (.t 11) (.skip)
 (.exit 0))
 (.seq (.block 1 (.seq (.reg [oI 12 1 8 10,
 oK 13 1 12,
 oM 7 13] false)
 (.reg [oM 14 5,
 oM 15 1,
 oM 16 7,
 o 17 (.call false (.t 15) [.t 16]),
 o 18 (.lit 5 1 zL0 [(0, .t 17)]),
 oJ 19 5 80 14 18,
 oM 5 19] false)))
 (.reg [oA 20 10,
 oM 10 20] false)))
def Q1qx : IR :=
 .seq (.reg [o 4 (.zero zL0)] false)
 (.seq (.reg [o 5 (.mov (.c (.ns 5)))] false)
 (.seq (.seq (.reg [oM 8 0,
 oN 9 8,
 o 10 (.mov (.c zI))] false)
 (.block 0 (.loop Qzm Q1kc)))
 (.seq (.reg [oM 21 5,
 oC 22 137 ([.t 21]),
 oS 5 4 22] false)
 (.ret))))
def K21 : IFn := ⟨2, 23, [.cell 4 5 true], false, Q1qx⟩
def Qmg : List Nat := [100069, 0, 2, 3, 4]
def Q1ds : IR :=
 .seq (.seq (.reg [oM 5 4,
 oM 6 0,
 oN 7 6,
 o 8 (.bin .lss (.t 5) (.t 7))] false)
 (.cond (.t 8) (.skip)
 (.exit 0)))
 (.seq (.block 1 (.reg [oM 11 3,
 oM 12 0,
 oM 13 4,
 ob 14 (.iaddr 4 (.t 12) (.t 13)) [1, 2],
 ob 15 (.faddr 0 (.t 14)) [1, 2, 3],
 oE 16 1 15 [1, 2, 3, 4],
 oD 17 74 ([.t 16]) (rg 1 6),
 oD 18 71 ([sA0, .t 17]) (rg 1 7),
 oM 19 0,
 oM 20 4,
 ob 21 (.iaddr 4 (.t 19) (.t 20)) [8, 9],
 ob 22 (.faddr 3 (.t 21)) [8, 9, 10],
 oE 23 1 22 [8, 9, 10, 11],
 oD 24 74 ([.t 23]) (rg 1 13),
 oD 25 71 ([sA6, .t 24]) (rg 1 14),
 oM 26 0,
 oM 27 4,
 ob 28 (.iaddr 4 (.t 26) (.t 27)) [15, 16],
 ob 29 (.faddr 1 (.t 28)) [15, 16, 17],
 oE 30 1 29 [15, 16, 17, 18],
 oD 31 74 ([.t 30]) (rg 1 20),
 oD 32 71 ([sA25, .t 31]) (rg 1 21),
 oM 33 0,
 oM 34 4,
 ob 35 (.iaddr 4 (.t 33) (.t 34)) [22, 23],
 ob 36 (.faddr 2 (.t 35)) [22, 23, 24],
 oE 37 1 36 [22, 23, 24, 25],
 oD 38 74 ([.t 37]) (rg 1 27),
 oD 39 71 ([sA46, .t 38]) (rg 1 28),
 ob 40 (.lit 6 4 zL4 [(0, .t 18), (1, .t 25), (2, .t 32), (3, .t 39)]) (rg 1 29),
 oD 41 70 ([.t 40]) (rg 1 30),
 ob 42 (.lit 5 1 zL0 [(0, .t 41)]) (rg 1 31),
 ob 43 (.append 5 80 (.t 11) (.t 42)) (rg 0 32),
 ob 3 (.mov (.t 43)) (rg 0 33)] true))
 (.reg [oM 9 4,
 oA 10 9,
 oM 4 10] false))
def Q1n0 : IR :=
 .seq (.reg [o 2 (.zero zL0)] false)
 (.seq (.reg [o 3 (.mov (.c (.ns 5)))] false)
 (.seq (.seq (.reg [o 4 (.mov (.c zI))] false)
 (.block 0 (.loop Qmg Q1ds)))
 (.seq (.reg [oM 44 3,
 oC 45 138 ([.t 44]),
 oS 5 2 45] false)
 (.ret))))
def K32 : IFn := ⟨1, 46, [.cell 2 5 true], false, Q1n0⟩
def Qik : List Nat := [100070, 0, 2, 3, 4]
def Q1es : IR :=
 .seq (.seq (.reg [oM 5 4,
 oM 6 0,
 oN 7 6,
 o 8 (.bin .lss (.t 5) (.t 7))] false)
 (.cond (.t 8) (.skip)
 (.exit 0)))
 (.seq (.block 1 (.reg [oM 11 3,
 oM 12 0,
 oM 13 4,
 oI 14 1 12 13,
 oK 15 1 14,
 oC 16 125 ([.t 15]),
 o 17 (.lit 5 1 zL0 [(0, .t 16)]),
 oJ 18 5 80 11 17,
 oM 3 18] false))
 (.reg [oM 9 4,
 oA 10 9,
 oM 4 10] false))
def Q1ob : IR :=
 .seq (.reg [o 2 (.zero zL0)] false)
 (.seq (.reg [o 3 (.mov (.c (.ns 5)))] false)
 (.seq (.seq (.reg [o 4 (.mov (.c zI))] false)
 (.block 0 (.loop Qik Q1es)))
 (.seq (.reg [oM 19 3,
 oC 20 138 ([.t 19]),
 oS 5 2 20] false)
 (.ret))))
def K2e : IFn := ⟨1, 21, [.cell 2 5 true], false, Q1ob⟩
def Qzp : List Nat := [100073, 0, 1, 2, 6, 7, 8]
def Q1k1 : IR :=
 .seq (.seq (.reg [oM 33 8,
 oM 34 1,
 o 35 (.bin .leq (.t 33) (.t 34))] false)
 (.cond (.t 35) (.skip)
 (.exit 4)))
 (.block 5 (.seq (.reg [oM 36 0,
 oM 37 7,
 oM 38 7,
 oM 39 6,
 o 40 (.bin .add (.t 38) (.t 39)),
 oM 41 8,
 oM 42 2,
 oC 43 156 ([.t 36, .t 37, .t 40, .t 41, .t 42])] false)
 (.seq (.reg [oM 44 8,
 oM 7 44] false)
 (.reg [oM 45 8,
 oM 46 6,
 o 47 (.bin .mul (.c (.int .i64 2)) (.t 46)),
 o 48 (.bin .add (.t 45) (.t 47)),
 oM 8 48] false))))
def Qzy : List Nat := [100072, 0, 1, 2, 6]
def Q1im : IR :=
 .seq (.seq (.reg [oM 28 6,
 oM 29 1,
 o 30 (.bin .lss (.t 28) (.t 29))] false)
 (.cond (.t 30) (.skip)
 (.exit 2)))
 (.block 3 (.seq (.reg [oM 31 6,
 o 32 (.bin .mul (.c (.int .i64 2)) (.t 31)),
 o 7 (.mov (.c zI)),
 oM 8 32] false)
 (.seq (.block 4 (.loop Qzp Q1k1))
 (.seq (.seq (.reg [oM 49 7,
 oM 50 6,
 o 51 (.bin .add (.t 49) (.t 50)),
 oM 9 51] false)
 (.seq (.reg [oM 52 9,
 oM 53 1,
 o 54 (.bin .lss (.t 52) (.t 53))] false)
 (.cond (.t 54) (.reg [oM 55 0,
 oM 56 7,
 oM 57 9,
 oM 58 1,
 oM 59 2,
 oC 60 156 ([.t 55, .t 56, .t 57, .t 58, .t 59])] false)
 (.skip))))
 (.reg [oM 61 6,
 o 62 (.bin .mul (.t 61) (.c (.int .i64 2))),
 oM 6 62] false)))))
def Q103 : List Nat := [100071, 0, 1, 2, 6, 7, 8]
def Q1lo : IR :=
 .seq (.seq (.reg [oM 11 8,
 oM 12 1,
 o 13 (.bin .leq (.t 11) (.t 12))] false)
 (.cond (.t 13) (.skip)
 (.exit 0)))
 (.block 1 (.seq (.reg [oM 14 0,
 oM 15 7,
 oM 16 8,
 oM 17 2,
 o 18 (.call true (.f 155) [.t 14, .t 15, .t 16, .t 17])] false)
 (.seq (.reg [oM 19 8,
 oM 7 19] false)
 (.reg [oM 20 8,
 oM 21 6,
 o 22 (.bin .add (.t 20) (.t 21)),
 oM 8 22] false))))
def Q1sm : IR :=
 .seq (.reg [o 6 (.mov (.c (.int .i64 20)))] false)
 (.seq (.reg [oM 10 6,
 o 7 (.mov (.c zI)),
 oM 8 10] false)
 (.seq (.block 0 (.loop Q103 Q1lo))
 (.seq (.reg [oM 23 0,
 oM 24 7,
 oM 25 1,
 oM 26 2,
 o 27 (.call true (.f 155) [.t 23, .t 24, .t 25, .t 26])] false)
 (.block 2 (.loop Qzy Q1im)))))
def K3t : IFn := ⟨3, 63, [], false, Q1sm⟩
def Qlm : List Nat := [100074, 6, 7, 8, 9]
def Q1ed : IR :=
 .seq (.seq (.reg [oM 18 9,
 oM 19 6,
 oN 20 19,
 o 21 (.bin .lss (.t 18) (.t 20))] false)
 (.cond (.t 21) (.skip)
 (.exit 0)))
 (.seq (.block 1 (.seq (.reg [oM 25 6,
 oM 26 9,
 oI 27 5 25 26,
 oL 28 5 27,
 oC 29 158 ([.t 28]),
 oM 24 29,
 oX 30 24 0,
 oX 31 24 1,
 o 10 (.zero [zI, zI, zI, zI]),
 oS 4 10 30,
 oM 11 31] false)
 (.seq (.reg [oM 32 8,
 oL 33 4 10,
 o 34 (.lit 4 1 [zI, zI, zI, zI] [(0, .t 33)]),
 oJ 35 4 32 32 34,
 oM 8 35] false)
 (.reg [oM 36 7,
 oM 37 36,
 gT 38 37 (.mov (.t 11)),
 oP 39 37 38,
 oM 7 39] false))))
 (.reg [oM 22 9,
 oA 23 22,
 oM 9 23] false))
def Q1n6 : IR :=
 .seq (.reg [o 2 (.box 5 (.t 0)),
 o 4 (.mov (.c (.ns 4))),
 o 5 (.mov (.c zB))] false)
 (.seq (.reg [oL 13 5 2,
 oM 14 1,
 oC 15 53 ([.t 13, .t 14]),
 oM 12 15,
 oX 16 12 0,
 oX 17 12 1,
 oM 6 16,
 oM 7 17] false)
 (.seq (.reg [o 8 (.mov (.c (.ns 4)))] false)
 (.seq (.seq (.reg [o 9 (.mov (.c zI))] false)
 (.block 0 (.loop Qlm Q1ed)))
 (.seq (.reg [oM 40 8,
 oM 41 7,
 oM 4 40,
 oM 5 41] false)
 (.ret)))))
def K3j : IFn := ⟨2, 42, [.tmp 4, .tmp 5], false, Q1n6⟩
def Q105 : List Nat := [100076, 0, 1, 2, 3, 8, 9]
def Q1ig : IR :=
 .seq (.seq (.reg [oM 18 9,
 oM 19 1,
 ob 20 (.bin .gtr (.t 18) (.t 19)) [0, 1],
 ob 21 (.mov (.t 20)) [0, 1, 2],
 ⟨(some 22), (some (21, true)), .mov (.t 3), [0, 1, 2, 3]⟩,
 ⟨(some 23), (some (21, true)), .mov (.t 0), [0, 1, 2, 3]⟩,
 ⟨(some 24), (some (21, true)), .mov (.t 9), [0, 1, 2, 3]⟩,
 ⟨(some 25), (some (21, true)), .iaddr 6 (.t 23) (.t 24), (rg 0 4 ++ [5, 6])⟩,
 ⟨(some 26), (some (21, true)), .load 6 true (.t 25), (rg 0 4 ++ [5, 6, 7])⟩,
 ⟨(some 27), (some (21, true)), .mov (.t 0), [0, 1, 2, 3]⟩,
 ⟨(some 28), (some (21, true)), .mov (.t 9), [0, 1, 2, 3]⟩,
 ⟨(some 29), (some (21, true)), .bin .sub (.t 28) (.c (.int .i64 1)), (rg 0 4 ++ [10])⟩,
 ⟨(some 30), (some (21, true)), .iaddr 6 (.t 27) (.t 29), (rg 0 4 ++ [9, 10, 11])⟩,
 ⟨(some 31), (some (21, true)), .load 6 true (.t 30), (rg 0 4 ++ rg 9 13)⟩,
 ⟨(some 32), (some (21, true)), .call false (.t 22) [.t 26, .t 31], (rg 0 14)⟩,
 ⟨(some 33), (some (21, true)), .bin .lss (.t 32) (.c zI), (rg 0 15)⟩,
 ob 34 (.pick (.t 21) (.t 33) (.c zB)) (rg 0 16)] true)
 (.cond (.t 34) (.skip)
 (.exit 2)))
 (.seq (.block 3 (.reg [oM 37 0,
 oM 38 9,
 oM 39 0,
 oM 40 9,
 ob 41 (.bin .sub (.t 40) (.c (.int .i64 1))) [3],
 oM 42 0,
 oM 43 9,
 ob 44 (.bin .sub (.t 43) (.c (.int .i64 1))) [6],
 ob 45 (.iaddr 6 (.t 42) (.t 44)) [5, 6, 7],
 ob 46 (.load 6 true (.t 45)) [5, 6, 7, 8],
 oM 47 0,
 oM 48 9,
 ob 49 (.iaddr 6 (.t 47) (.t 48)) [10, 11],
 ob 50 (.load 6 true (.t 49)) [10, 11, 12],
 ob 51 (.iaddr 6 (.t 37) (.t 38)) ([0, 1] ++ rg 5 14),
 ⟨none, none, .store 6 (.t 51) (.t 46), ([0, 1] ++ rg 5 15)⟩,
 ob 52 (.iaddr 6 (.t 39) (.t 41)) (rg 0 16),
 ⟨none, none, .store 6 (.t 52) (.t 50), (rg 0 17)⟩] true))
 (.reg [oM 35 9,
 o 36 (.bin .sub (.t 35) (.c (.int .i64 1))),
 oM 9 36] false))
def Qzx : List Nat := [100075, 0, 1, 2, 3, 8]
def Q1ij : IR :=
 .seq (.seq (.reg [oM 12 8,
 oM 13 2,
 o 14 (.bin .lss (.t 12) (.t 13))] false)
 (.cond (.t 14) (.skip)
 (.exit 0)))
 (.seq (.block 1 (.seq (.reg [oM 17 8,
 oM 9 17] false)
 (.block 2 (.loop Q105 Q1ig))))
 (.reg [oM 15 8,
 oA 16 15,
 oM 8 16] false))
def Q1t8 : IR :=
 .seq (.reg [oM 10 1,
 oA 11 10,
 oM 8 11] false)
 (.block 0 (.loop Qzx Q1ij))
def K3s : IFn := ⟨4, 53, [], false, Q1t8⟩
def Q1oo : IR :=
 .seq (.reg [o 1 (.box 5 (.t 0)),
 o 2 (.zero [zI, zI, zI, zI]),
 o 3 (.mov (.c zB))] false)
 (.seq (.reg [oL 13 5 1,
 oC 14 47 ([.t 13, sA0]),
 oM 12 14,
 oX 15 12 0,
 oX 16 12 1,
 oM 4 15,
 oM 5 16] false)
 (.seq (.reg [oL 18 5 1,
 oC 19 47 ([.t 18, sA6]),
 oM 17 19,
 oX 20 17 0,
 oX 21 17 1,
 oM 6 20,
 oM 7 21] false)
 (.seq (.reg [oL 23 5 1,
 oC 24 47 ([.t 23, sA25]),
 oM 22 24,
 oX 25 22 0,
 oX 26 22 1,
 oM 8 25,
 oM 9 26] false)
 (.seq (.reg [oL 28 5 1,
 oC 29 47 ([.t 28, sA46]),
 oM 27 29,
 oX 30 27 0,
 oX 31 27 1,
 oM 10 30,
 oM 11 31] false)
 (.seq (.reg [oM 32 4,
 oM 33 8,
 oM 34 10,
 oM 35 6,
 o 36 (.build [zI, zI, zI, zI] [(0, 1, .t 32), (1, 1, .t 33), (2, 1, .t 34), (3, 1, .t 35)]),
 oL 37 5 1,
 oC 38 50 ([.t 37]),
 oM 39 38,
 gT 40 39 (.mov (.t 5)),
 oP 41 39 40,
 oM 42 41,
 gT 43 42 (.mov (.t 7)),
 oP 44 42 43,
 oM 45 44,
 gT 46 45 (.mov (.t 9)),
 oP 47 45 46,
 oM 48 47,
 gT 49 48 (.mov (.t 11)),
 oP 50 48 49,
 oS 4 2 36,
 oM 3 50] false)
 (.ret))))))
def K3i : IFn := ⟨1, 51, [.cell 2 4 true, .tmp 3], false, Q1oo⟩
def table : List (Nat × Fun) :=
  [(3, .ir K1),
   (8, .ir K5),
   (9, .ir K27),
   (10, .ir K7),
   (11, .ir Kd),
   (12, .ir K2s),
   (13, .ir Kc),
   (14, .ir K2r),
   (15, .ir Ke),
   (16, .ir K2u),
   (17, .ir K2m),
   (18, .ir K2k),
   (19, .ir K2n),
   (23, .ir K26),
   (24, .ir K2l),
   (25, .ir K2b),
   (27, .ir K2a),
   (28, .ir Kb),
   (29, .ir K2f),
   (30, .ir K28),
   (31, .ir Kf),
   (32, .ir Ks),
   (33, .ir Ku),
   (34, .ir K2t),
   (35, .ir K3m),
   (36, .ir Kw),
   (37, .ir Kr),
   (38, .ir Kx),
   (39, .ir Kn),
   (40, .ir Ki),
   (41, .ir K11),
   (42, .ir Ky),
   (43, .ir K14),
   (44, .ir Kk),
   (45, .ir K3k),
   (46, .ir K2v),
   (47, .ir K2g),
   (48, .ir K3o),
   (49, .ir K3f),
   (50, .ir K2h),
   (51, .ir K15),
   (52, .ir Kl),
   (53, .ir K29),
   (54, .ir K2p),
   (55, .ir K2i),
   (56, .ir K1m),
   (58, .ir K2j),
   (59, .ir K2d),
   (60, .ir K35),
   (61, .ir K3z),
   (62, .ir K1r),
   (63, .ir K1l),
   (64, .ir K3v),
   (65, .ir K3x),
   (70, .ir K3b),
   (71, .ir K2w),
   (72, .ir K33),
   (73, .ir K3q),
   (74, .ir K3a),
   (75, .ir K37),
   (76, .ir K2y),
   (77, .ir K23),
   (78, .ir K1g),
   (79, .ir K2z),
   (80, .ax (Qn3 2 32)),
   (81, .ax (Qn3 5 48)),
   (82, .ax (Qn3 1 16)),
   (83, .ax (Qjc 2 40)),
   (84, .ir Kv),
   (85, .ir K16),
   (86, .ir Kg),
   (87, .ir K17),
   (88, .ir Kq),
   (89, .ir K18),
   (90, .ir Km),
   (91, .ir K19),
   (92, .ir Ko),
   (93, .ir K1a),
   (94, .ir Kt),
   (95, .ir K1b),
   (96, .ir K10),
   (97, .ir K1c),
   (98, .ir Kh),
   (99, .ir K3e),
   (100, .ir K2o),
   (101, .ir K3g),
   (102, .ir K3h),
   (103, .ir K3l),
   (104, .ir K3p),
   (105, .ir K3n),
   (106, .ir Kj),
   (107, .ir K1t),
   (108, .ir K1d),
   (109, .ir K41),
   (110, .ir K1u),
   (111, .ir K1k),
   (112, .ir K1v),
   (113, .ir K1h),
   (114, .ir K1w),
   (115, .ir K1i),
   (116, .ir K1x),
   (117, .ir K1n),
   (118, .ir K1y),
   (119, .ir K1q),
   (122, .ir K24),
   (123, .ir K25),
   (124, .ir K2x),
   (125, .ir K3c),
   (126, .ir K2c),
   (127, .ir K30),
   (128, .ir K31),
   (129, .ir K34),
   (130, .ir K38),
   (131, .ir K36),
   (132, .ax (Qjc 6 96)),
   (133, .ir K3r),
   (134, .ir K40),
   (135, .ir K3u),
   (136, .ir K42),
   (137, .ir K3y),
   (138, .ir K39),
   (139, .ir K12),
   (140, .ir Kp),
   (141, .ir K13),
   (142, .ir Kz),
   (143, .ir K3d),
   (144, .ir K2q),
   (145, .ir K3w),
   (146, .ir K20),
   (147, .ir K1j),
   (148, .ir K21),
   (149, .ir K32),
   (150, .ir K2e),
   (151, .ir K3t),
   (152, .cmpstr),
   (153, .ax (Qjc 5 80)),
   (154, .ir K3j),
   (155, .ir K3s),
   (158, .ir K3i)]
end Go.Proofs.YtiflaadeikaghaaGreat.Ir
end

section
/- The printed functions are the given ones. -/
namespace Go.Proofs.YtiflaadeikaghaaGreat
open Go.Pv
theorem c3 : Q1y Tryz.prog Tryz.f3 Ir.K1 = true := by kernel_rfl
theorem c4 : Q1y Tryz.prog Tryz.f4 Ir.K3 = true := by kernel_rfl
theorem c5 : Q1y Tryz.prog Tryz.f5 Ir.K4 = true := by kernel_rfl
theorem c8 : Q1y Tryz.prog Tryz.f8 Ir.K5 = true := by kernel_rfl
theorem c9 : Q1y Tryz.prog Tryz.f9 Ir.K27 = true := by kernel_rfl
theorem c10 : Q1y Tryz.prog Tryz.f10 Ir.K7 = true := by kernel_rfl
theorem c11 : Q1y Tryz.prog Tryz.f11 Ir.Kd = true := by kernel_rfl
theorem c12 : Q1y Tryz.prog Tryz.f12 Ir.K2s = true := by kernel_rfl
theorem c13 : Q1y Tryz.prog Tryz.f13 Ir.Kc = true := by kernel_rfl
theorem c14 : Q1y Tryz.prog Tryz.f14 Ir.K2r = true := by kernel_rfl
theorem c15 : Q1y Tryz.prog Tryz.f15 Ir.Ke = true := by kernel_rfl
theorem c16 : Q1y Tryz.prog Tryz.f16 Ir.K2u = true := by kernel_rfl
theorem c17 : Q1y Tryz.prog Tryz.f17 Ir.K2m = true := by kernel_rfl
theorem c18 : Q1y Tryz.prog Tryz.f18 Ir.K2k = true := by kernel_rfl
theorem c19 : Q1y Tryz.prog Tryz.f19 Ir.K2n = true := by kernel_rfl
theorem c23 : Q1y Tryz.prog Tryz.f23 Ir.K26 = true := by kernel_rfl
theorem c24 : Q1y Tryz.prog Tryz.f24 Ir.K2l = true := by kernel_rfl
theorem c25 : Q1y Tryz.prog Tryz.f25 Ir.K2b = true := by kernel_rfl
theorem c27 : Q1y Tryz.prog Tryz.f27 Ir.K2a = true := by kernel_rfl
theorem c28 : Q1y Tryz.prog Tryz.f28 Ir.Kb = true := by kernel_rfl
theorem c29 : Q1y Tryz.prog Tryz.f29 Ir.K2f = true := by kernel_rfl
theorem c30 : Q1y Tryz.prog Tryz.f30 Ir.K28 = true := by kernel_rfl
theorem c31 : Q1y Tryz.prog Tryz.f31 Ir.Kf = true := by kernel_rfl
theorem c32 : Q1y Tryz.prog Tryz.f32 Ir.Ks = true := by kernel_rfl
theorem c33 : Q1y Tryz.prog Tryz.f33 Ir.Ku = true := by kernel_rfl
theorem c34 : Q1y Tryz.prog Tryz.f34 Ir.K2t = true := by kernel_rfl
theorem c35 : Q1y Tryz.prog Tryz.f35 Ir.K3m = true := by kernel_rfl
theorem c36 : Q1y Tryz.prog Tryz.f36 Ir.Kw = true := by kernel_rfl
theorem c37 : Q1y Tryz.prog Tryz.f37 Ir.Kr = true := by kernel_rfl
theorem c38 : Q1y Tryz.prog Tryz.f38 Ir.Kx = true := by kernel_rfl
theorem c39 : Q1y Tryz.prog Tryz.f39 Ir.Kn = true := by kernel_rfl
theorem c40 : Q1y Tryz.prog Tryz.f40 Ir.Ki = true := by kernel_rfl
theorem c41 : Q1y Tryz.prog Tryz.f41 Ir.K11 = true := by kernel_rfl
theorem c42 : Q1y Tryz.prog Tryz.f42 Ir.Ky = true := by kernel_rfl
theorem c43 : Q1y Tryz.prog Tryz.f43 Ir.K14 = true := by kernel_rfl
theorem c44 : Q1y Tryz.prog Tryz.f44 Ir.Kk = true := by kernel_rfl
theorem c45 : Q1y Tryz.prog Tryz.f45 Ir.K3k = true := by kernel_rfl
theorem c46 : Q1y Tryz.prog Tryz.f46 Ir.K2v = true := by kernel_rfl
theorem c47 : Q1y Tryz.prog Tryz.f47 Ir.K2g = true := by kernel_rfl
theorem c48 : Q1y Tryz.prog Tryz.f48 Ir.K3o = true := by kernel_rfl
theorem c49 : Q1y Tryz.prog Tryz.f49 Ir.K3f = true := by kernel_rfl
theorem c50 : Q1y Tryz.prog Tryz.f50 Ir.K2h = true := by kernel_rfl
theorem c51 : Q1y Tryz.prog Tryz.f51 Ir.K15 = true := by kernel_rfl
theorem c52 : Q1y Tryz.prog Tryz.f52 Ir.Kl = true := by kernel_rfl
theorem c53 : Q1y Tryz.prog Tryz.f53 Ir.K29 = true := by kernel_rfl
theorem c54 : Q1y Tryz.prog Tryz.f54 Ir.K2p = true := by kernel_rfl
theorem c55 : Q1y Tryz.prog Tryz.f55 Ir.K2i = true := by kernel_rfl
theorem c56 : Q1y Tryz.prog Tryz.f56 Ir.K1m = true := by kernel_rfl
theorem c58 : Q1y Tryz.prog Tryz.f58 Ir.K2j = true := by kernel_rfl
theorem c59 : Q1y Tryz.prog Tryz.f59 Ir.K2d = true := by kernel_rfl
theorem c60 : Q1y Tryz.prog Tryz.f60 Ir.K35 = true := by kernel_rfl
theorem c61 : Q1y Tryz.prog Tryz.f61 Ir.K3z = true := by kernel_rfl
theorem c62 : Q1y Tryz.prog Tryz.f62 Ir.K1r = true := by kernel_rfl
theorem c63 : Q1y Tryz.prog Tryz.f63 Ir.K1l = true := by kernel_rfl
theorem c64 : Q1y Tryz.prog Tryz.f64 Ir.K3v = true := by kernel_rfl
theorem c65 : Q1y Tryz.prog Tryz.f65 Ir.K3x = true := by kernel_rfl
theorem c70 : Q1y Tryz.prog Tryz.f70 Ir.K3b = true := by kernel_rfl
theorem c71 : Q1y Tryz.prog Tryz.f71 Ir.K2w = true := by kernel_rfl
theorem c72 : Q1y Tryz.prog Tryz.f72 Ir.K33 = true := by kernel_rfl
theorem c73 : Q1y Tryz.prog Tryz.f73 Ir.K3q = true := by kernel_rfl
theorem c74 : Q1y Tryz.prog Tryz.f74 Ir.K3a = true := by kernel_rfl
theorem c75 : Q1y Tryz.prog Tryz.f75 Ir.K37 = true := by kernel_rfl
theorem c76 : Q1y Tryz.prog Tryz.f76 Ir.K2y = true := by kernel_rfl
theorem c77 : Q1y Tryz.prog Tryz.f77 Ir.K23 = true := by kernel_rfl
theorem c78 : Q1y Tryz.prog Tryz.f78 Ir.K1g = true := by kernel_rfl
theorem c79 : Q1y Tryz.prog Tryz.f79 Ir.K2z = true := by kernel_rfl
theorem c84 : Q1y Tryz.prog Tryz.f84 Ir.Kv = true := by kernel_rfl
theorem c85 : Q1y Tryz.prog Tryz.f85 Ir.K16 = true := by kernel_rfl
theorem c86 : Q1y Tryz.prog Tryz.f86 Ir.Kg = true := by kernel_rfl
theorem c87 : Q1y Tryz.prog Tryz.f87 Ir.K17 = true := by kernel_rfl
theorem c88 : Q1y Tryz.prog Tryz.f88 Ir.Kq = true := by kernel_rfl
theorem c89 : Q1y Tryz.prog Tryz.f89 Ir.K18 = true := by kernel_rfl
theorem c90 : Q1y Tryz.prog Tryz.f90 Ir.Km = true := by kernel_rfl
theorem c91 : Q1y Tryz.prog Tryz.f91 Ir.K19 = true := by kernel_rfl
theorem c92 : Q1y Tryz.prog Tryz.f92 Ir.Ko = true := by kernel_rfl
theorem c93 : Q1y Tryz.prog Tryz.f93 Ir.K1a = true := by kernel_rfl
theorem c94 : Q1y Tryz.prog Tryz.f94 Ir.Kt = true := by kernel_rfl
theorem c95 : Q1y Tryz.prog Tryz.f95 Ir.K1b = true := by kernel_rfl
theorem c96 : Q1y Tryz.prog Tryz.f96 Ir.K10 = true := by kernel_rfl
theorem c97 : Q1y Tryz.prog Tryz.f97 Ir.K1c = true := by kernel_rfl
theorem c98 : Q1y Tryz.prog Tryz.f98 Ir.Kh = true := by kernel_rfl
theorem c99 : Q1y Tryz.prog Tryz.f99 Ir.K3e = true := by kernel_rfl
theorem c100 : Q1y Tryz.prog Tryz.f100 Ir.K2o = true := by kernel_rfl
theorem c101 : Q1y Tryz.prog Tryz.f101 Ir.K3g = true := by kernel_rfl
theorem c102 : Q1y Tryz.prog Tryz.f102 Ir.K3h = true := by kernel_rfl
theorem c103 : Q1y Tryz.prog Tryz.f103 Ir.K3l = true := by kernel_rfl
theorem c104 : Q1y Tryz.prog Tryz.f104 Ir.K3p = true := by kernel_rfl
theorem c105 : Q1y Tryz.prog Tryz.f105 Ir.K3n = true := by kernel_rfl
theorem c106 : Q1y Tryz.prog Tryz.f106 Ir.Kj = true := by kernel_rfl
theorem c107 : Q1y Tryz.prog Tryz.f107 Ir.K1t = true := by kernel_rfl
theorem c108 : Q1y Tryz.prog Tryz.f108 Ir.K1d = true := by kernel_rfl
theorem c109 : Q1y Tryz.prog Tryz.f109 Ir.K41 = true := by kernel_rfl
theorem c110 : Q1y Tryz.prog Tryz.f110 Ir.K1u = true := by kernel_rfl
theorem c111 : Q1y Tryz.prog Tryz.f111 Ir.K1k = true := by kernel_rfl
theorem c112 : Q1y Tryz.prog Tryz.f112 Ir.K1v = true := by kernel_rfl
theorem c113 : Q1y Tryz.prog Tryz.f113 Ir.K1h = true := by kernel_rfl
theorem c114 : Q1y Tryz.prog Tryz.f114 Ir.K1w = true := by kernel_rfl
theorem c115 : Q1y Tryz.prog Tryz.f115 Ir.K1i = true := by kernel_rfl
theorem c116 : Q1y Tryz.prog Tryz.f116 Ir.K1x = true := by kernel_rfl
theorem c117 : Q1y Tryz.prog Tryz.f117 Ir.K1n = true := by kernel_rfl
theorem c118 : Q1y Tryz.prog Tryz.f118 Ir.K1y = true := by kernel_rfl
theorem c119 : Q1y Tryz.prog Tryz.f119 Ir.K1q = true := by kernel_rfl
theorem c122 : Q1y Tryz.prog Tryz.f122 Ir.K24 = true := by kernel_rfl
theorem c123 : Q1y Tryz.prog Tryz.f123 Ir.K25 = true := by kernel_rfl
theorem c124 : Q1y Tryz.prog Tryz.f124 Ir.K2x = true := by kernel_rfl
theorem c125 : Q1y Tryz.prog Tryz.f125 Ir.K3c = true := by kernel_rfl
theorem c126 : Q1y Tryz.prog Tryz.f126 Ir.K2c = true := by kernel_rfl
theorem c127 : Q1y Tryz.prog Tryz.f127 Ir.K30 = true := by kernel_rfl
theorem c128 : Q1y Tryz.prog Tryz.f128 Ir.K31 = true := by kernel_rfl
theorem c129 : Q1y Tryz.prog Tryz.f129 Ir.K34 = true := by kernel_rfl
theorem c130 : Q1y Tryz.prog Tryz.f130 Ir.K38 = true := by kernel_rfl
theorem c131 : Q1y Tryz.prog Tryz.f131 Ir.K36 = true := by kernel_rfl
theorem c133 : Q1y Tryz.prog Tryz.f133 Ir.K3r = true := by kernel_rfl
theorem c134 : Q1y Tryz.prog Tryz.f134 Ir.K40 = true := by kernel_rfl
theorem c135 : Q1y Tryz.prog Tryz.f135 Ir.K3u = true := by kernel_rfl
theorem c136 : Q1y Tryz.prog Tryz.f136 Ir.K42 = true := by kernel_rfl
theorem c137 : Q1y Tryz.prog Tryz.f137 Ir.K3y = true := by kernel_rfl
theorem c138 : Q1y Tryz.prog Tryz.f138 Ir.K39 = true := by kernel_rfl
theorem c139 : Q1y Tryz.prog Tryz.f139 Ir.K12 = true := by kernel_rfl
theorem c140 : Q1y Tryz.prog Tryz.f140 Ir.Kp = true := by kernel_rfl
theorem c141 : Q1y Tryz.prog Tryz.f141 Ir.K13 = true := by kernel_rfl
theorem c142 : Q1y Tryz.prog Tryz.f142 Ir.Kz = true := by kernel_rfl
theorem c143 : Q1y Tryz.prog Tryz.f143 Ir.K3d = true := by kernel_rfl
theorem c144 : Q1y Tryz.prog Tryz.f144 Ir.K2q = true := by kernel_rfl
theorem c145 : Q1y Tryz.prog Tryz.f145 Ir.K3w = true := by kernel_rfl
theorem c146 : Q1y Tryz.prog Tryz.f146 Ir.K20 = true := by kernel_rfl
theorem c147 : Q1y Tryz.prog Tryz.f147 Ir.K1j = true := by kernel_rfl
theorem c148 : Q1y Tryz.prog Tryz.f148 Ir.K21 = true := by kernel_rfl
theorem c149 : Q1y Tryz.prog Tryz.f149 Ir.K32 = true := by kernel_rfl
theorem c150 : Q1y Tryz.prog Tryz.f150 Ir.K2e = true := by kernel_rfl
theorem c151 : Q1y Tryz.prog Tryz.f151 Ir.K3t = true := by kernel_rfl
theorem c154 : Q1y Tryz.prog Tryz.f154 Ir.K3j = true := by kernel_rfl
theorem c155 : Q1y Tryz.prog Tryz.f155 Ir.K3s = true := by kernel_rfl
theorem c158 : Q1y Tryz.prog Tryz.f158 Ir.K3i = true := by kernel_rfl
theorem k80 : Q66 Tryz.prog Tryz.f80 2 32 [.str ⟨#[]⟩, .str ⟨#[]⟩] = true := by kernel_rfl
theorem k81 : Q66 Tryz.prog Tryz.f81 5 48 [.str ⟨#[]⟩, .str ⟨#[]⟩, .int .i64 0, .bool false, .bool false] = true := by kernel_rfl
theorem k82 : Q66 Tryz.prog Tryz.f82 1 16 [.str ⟨#[]⟩] = true := by kernel_rfl
theorem k83 : Q66 Tryz.prog Tryz.f83 2 40 [.str ⟨#[]⟩, .ns 1] = true := by kernel_rfl
theorem k132 : Q66 Tryz.prog Tryz.f132 6 96 [.str ⟨#[]⟩, .int .i64 0, .int .i64 0, .str ⟨#[]⟩, .ns 5, .ns 6] = true := by kernel_rfl
theorem k153 : Q66 Tryz.prog Tryz.f153 5 80 [.int .i64 0, .int .i64 0, .str ⟨#[]⟩, .ns 5, .ns 6] = true := by kernel_rfl
theorem mixed : Tryz.prog.follows .mixedOrders = true := by kernel_rfl
theorem own : ownKnob Tryz.prog.godebug = none := by kernel_rfl
theorem laidOut : laidOutB Tryz.prog = true := by kernel_rfl
theorem tie (cmp : Q1cq Tryz.prog 152) : Tie Tryz.prog (tabG Ir.table) :=
  Q1i Tryz.func3 c3 <| Q1i Tryz.func8 c8 <| Q1i Tryz.func9 c9 <| Q1i Tryz.func10 c10 <| Q1i Tryz.func11 c11 <| Q1i Tryz.func12 c12 <| Q1i Tryz.func13 c13 <| Q1i Tryz.func14 c14 <| Q1i Tryz.func15 c15 <| Q1i Tryz.func16 c16 <| Q1i Tryz.func17 c17 <| Q1i Tryz.func18 c18 <| Q1i Tryz.func19 c19 <| Q1i Tryz.func23 c23 <| Q1i Tryz.func24 c24 <| Q1i Tryz.func25 c25 <| Q1i Tryz.func27 c27 <| Q1i Tryz.func28 c28 <| Q1i Tryz.func29 c29 <| Q1i Tryz.func30 c30 <| Q1i Tryz.func31 c31 <| Q1i Tryz.func32 c32 <| Q1i Tryz.func33 c33 <| Q1i Tryz.func34 c34 <| Q1i Tryz.func35 c35 <| Q1i Tryz.func36 c36 <| Q1i Tryz.func37 c37 <| Q1i Tryz.func38 c38 <| Q1i Tryz.func39 c39 <| Q1i Tryz.func40 c40 <| Q1i Tryz.func41 c41 <| Q1i Tryz.func42 c42 <| Q1i Tryz.func43 c43 <| Q1i Tryz.func44 c44 <| Q1i Tryz.func45 c45 <| Q1i Tryz.func46 c46 <| Q1i Tryz.func47 c47 <| Q1i Tryz.func48 c48 <| Q1i Tryz.func49 c49 <| Q1i Tryz.func50 c50 <| Q1i Tryz.func51 c51 <| Q1i Tryz.func52 c52 <| Q1i Tryz.func53 c53 <| Q1i Tryz.func54 c54 <| Q1i Tryz.func55 c55 <| Q1i Tryz.func56 c56 <| Q1i Tryz.func58 c58 <| Q1i Tryz.func59 c59 <| Q1i Tryz.func60 c60 <| Q1i Tryz.func61 c61 <| Q1i Tryz.func62 c62 <| Q1i Tryz.func63 c63 <| Q1i Tryz.func64 c64 <| Q1i Tryz.func65 c65 <| Q1i Tryz.func70 c70 <| Q1i Tryz.func71 c71 <| Q1i Tryz.func72 c72 <| Q1i Tryz.func73 c73 <| Q1i Tryz.func74 c74 <| Q1i Tryz.func75 c75 <| Q1i Tryz.func76 c76 <| Q1i Tryz.func77 c77 <| Q1i Tryz.func78 c78 <| Q1i Tryz.func79 c79 <| (fun h => Q8y h (Qn2 mixed Tryz.func80 k80)) <| (fun h => Q8y h (Qn2 mixed Tryz.func81 k81)) <| (fun h => Q8y h (Qn2 mixed Tryz.func82 k82)) <| (fun h => Q8y h (Qtj mixed Tryz.func83 k83)) <| Q1i Tryz.func84 c84 <| Q1i Tryz.func85 c85 <| Q1i Tryz.func86 c86 <| Q1i Tryz.func87 c87 <| Q1i Tryz.func88 c88 <| Q1i Tryz.func89 c89 <| Q1i Tryz.func90 c90 <| Q1i Tryz.func91 c91 <| Q1i Tryz.func92 c92 <| Q1i Tryz.func93 c93 <| Q1i Tryz.func94 c94 <| Q1i Tryz.func95 c95 <| Q1i Tryz.func96 c96 <| Q1i Tryz.func97 c97 <| Q1i Tryz.func98 c98 <| Q1i Tryz.func99 c99 <| Q1i Tryz.func100 c100 <| Q1i Tryz.func101 c101 <| Q1i Tryz.func102 c102 <| Q1i Tryz.func103 c103 <| Q1i Tryz.func104 c104 <| Q1i Tryz.func105 c105 <| Q1i Tryz.func106 c106 <| Q1i Tryz.func107 c107 <| Q1i Tryz.func108 c108 <| Q1i Tryz.func109 c109 <| Q1i Tryz.func110 c110 <| Q1i Tryz.func111 c111 <| Q1i Tryz.func112 c112 <| Q1i Tryz.func113 c113 <| Q1i Tryz.func114 c114 <| Q1i Tryz.func115 c115 <| Q1i Tryz.func116 c116 <| Q1i Tryz.func117 c117 <| Q1i Tryz.func118 c118 <| Q1i Tryz.func119 c119 <| Q1i Tryz.func122 c122 <| Q1i Tryz.func123 c123 <| Q1i Tryz.func124 c124 <| Q1i Tryz.func125 c125 <| Q1i Tryz.func126 c126 <| Q1i Tryz.func127 c127 <| Q1i Tryz.func128 c128 <| Q1i Tryz.func129 c129 <| Q1i Tryz.func130 c130 <| Q1i Tryz.func131 c131 <| (fun h => Q8y h (Qtj mixed Tryz.func132 k132)) <| Q1i Tryz.func133 c133 <| Q1i Tryz.func134 c134 <| Q1i Tryz.func135 c135 <| Q1i Tryz.func136 c136 <| Q1i Tryz.func137 c137 <| Q1i Tryz.func138 c138 <| Q1i Tryz.func139 c139 <| Q1i Tryz.func140 c140 <| Q1i Tryz.func141 c141 <| Q1i Tryz.func142 c142 <| Q1i Tryz.func143 c143 <| Q1i Tryz.func144 c144 <| Q1i Tryz.func145 c145 <| Q1i Tryz.func146 c146 <| Q1i Tryz.func147 c147 <| Q1i Tryz.func148 c148 <| Q1i Tryz.func149 c149 <| Q1i Tryz.func150 c150 <| Q1i Tryz.func151 c151 <| (fun h => Q8y h cmp) <| (fun h => Q8y h (Qtj mixed Tryz.func153 k153)) <| Q1i Tryz.func154 c154 <| Q1i Tryz.func155 c155 <| Q1i Tryz.func158 c158 <| Q1fc
end Go.Proofs.YtiflaadeikaghaaGreat
end

section
/-
  Runs along a trace, over views: operations, regions, code, calls, loops' rounds.
-/
namespace Go.Pv
def Seen (o : Option Ob) (rows : List (List PV)) : Prop := ∃ ob, o = some ob ∧ ViewOK ob.sz ob.cells rows
theorem Q42 {ob : Ob} {rows : List (List PV)} (h : ViewOK ob.sz ob.cells rows) : Seen (some ob) rows := ⟨ob, rfl, h⟩
def putV (vw : Views) (cut : List Nat) (new : Views) : Views := new ++ vw.filter fun x => !(has cut x.1)
theorem Q106 {vw : Views} {cut : List Nat} {id : Nat} {rows : List (List PV)} (h : look (vw.filter fun x => !(has cut x.1)) id = some rows) : look vw id = some rows ∧ has cut id = false := by
 induction vw with
 | nil => cases h
 | cons x r ih =>
  obtain ⟨k, rs⟩ := x
  simp only [List.filter_cons] at h
  cases hc : has cut k with
  | true =>
   rw [hc] at h
   simp only [Bool.not_true, Bool.false_eq_true, if_false] at h
   obtain ⟨h1, h2⟩ := ih h
   refine ⟨?_, h2⟩
   simp only [look]
   cases c : Nat.beq k id with
   | true =>
    have := Nat.eq_of_beq_eq_true c
    subst this
    rw [hc] at h2
    cases h2
   | false => exact h1
  | false =>
   rw [hc] at h
   simp only [Bool.not_false, if_true, look] at h ⊢
   cases c : Nat.beq k id with
   | true =>
    rw [c] at h
    have := Nat.eq_of_beq_eq_true c
    subst this
    exact ⟨h, hc⟩
   | false =>
    rw [c] at h
    exact ih h
theorem Qvi {l : List Nat} {id : Nat} (h : has l id = false) : id ∉ l := by
  induction l with
  | nil => exact List.not_mem_nil
  | cons k r ih =>
    simp only [has] at h
    cases c : Nat.beq k id with
    | true => rw [c] at h; cases h
    | false =>
      rw [c] at h
      simp only [cond_false] at h
      intro hm
      rcases List.mem_cons.1 hm with rfl | hm
      · simp at c
      · exact ih h hm
theorem Qhi {vw new : Views} {cut : List Nat} {id : Nat} {rows : List (List PV)} (h : look (putV vw cut new) id = some rows) : look new id = some rows ∨ (look vw id = some rows ∧ id ∉ cut) := by
 unfold putV at h
 rw [Qtc] at h
 cases hn : look new id with
 | some r => rw [hn] at h; exact .inl h
 | none =>
  rw [hn] at h
  obtain ⟨h1, h2⟩ := Q106 h
  exact .inr ⟨h1, Qvi h2⟩
theorem Q107 {α : Type} {l : List (Nat × α)} {id : Nat} {x : α} (h : look l id = some x) : (id, x) ∈ l := by
 induction l with
 | nil => cases h
 | cons y r ih =>
  obtain ⟨k, z⟩ := y
  simp only [look] at h
  cases c : Nat.beq k id with
  | true =>
   rw [c] at h
   have := Nat.eq_of_beq_eq_true c
   subst this
   simp only [cond_true, Option.some.injEq] at h
   subst h
   exact List.mem_cons_self
  | false =>
   rw [c] at h
   exact List.mem_cons_of_mem _ (ih h)
def Turned (H : Nat → Option Ob) (vw : Views) (e : EV) : Prop := VOK (upH H e.eff.hw) (putV vw e.cut e.new)
theorem Q10w {ws : List (Nat × Option Ob)} {H : Nat → Option Ob} {id : Nat} {o : Option Ob} (hn : (ws.map (·.1)).Nodup) (h : (id, o) ∈ ws) : upH H ws id = o := by
  induction ws generalizing H with
  | nil => cases h
  | cons x r ih =>
    obtain ⟨k, z⟩ := x
    simp only [List.map_cons, List.nodup_cons] at hn
    rw [upH]
    rcases List.mem_cons.1 h with e | h
    · injection e with e1 e2
      subst e1 e2
      rw [Q7b (fun y hy e => hn.1 (by rw [← e]; exact List.mem_map_of_mem hy))]
      simp
    · exact ih hn.2 h
def nodupB : List Nat → Bool
 | [] => true
 | k :: r => !(has r k) && nodupB r
theorem Qvt : ∀ {l : List Nat}, nodupB l = true → l.Nodup
 | [], _ => List.nodup_nil
 | k :: r, h => by
  simp only [nodupB, Bool.and_eq_true, Bool.not_eq_true'] at h
  exact List.nodup_cons.2 ⟨Qvi h.1, Qvt h.2⟩
theorem Qve {H : Nat → Option Ob} : ∀ (l : List Nat) (cl : List (Nat × Option Ob)), shut H l = some cl → ∀ id o, (id, o) ∈ cl → ∃ ob ob', H id = some ob ∧ o = some ob' ∧ ob'.sz = ob.sz ∧ ob'.cells = ob.cells
  | [], cl, h, id, o, hm => by
    simp only [shut, Option.some.injEq] at h
    subst h
    cases hm
  | k :: r, cl, h, id, o, hm => by
    simp only [shut] at h
    obtain ⟨ob, hob, h⟩ := Q1c h
    obtain ⟨m, hm', h⟩ := Q1c h
    simp only [Option.some.injEq] at h
    subst h
    rcases List.mem_cons.1 hm with e | hm
    · injection e with e1 e2
      subst e1 e2
      exact ⟨ob, _, hob, rfl, rfl, rfl⟩
    · exact Qve r m hm' id o hm
def Q1ax (H : Nat → Option Ob) (vw : Views) (fr : Nat) (byRef : Bool) (f : Nat) (args : List PV) (az : List Ans) : Option EV :=
  (Q1dv H vw fr byRef f args az).bind fun e => bif nodupB (e.eff.hw.map (·.1)) then some e else none
theorem Qxa {G : Nat → Option Fun} {H : Nat → Option Ob} {vw : Views} (hv : VOK H vw) {fr : Nat} {byRef : Bool} {f : Nat} {args : List PV} {az : List Ans} {e : EV} (h : Q1ax H vw fr byRef f args az = some e) (hm : Met e.owed) (hq : Told G e.asked) : Qem (lim G) H fr byRef f args = some e.eff ∧ Turned H vw e := by
  unfold Q1ax at h
  obtain ⟨e', h0, h'⟩ := Q1c h
  clear h
  cases hnd : nodupB (e'.eff.hw.map (·.1)) with
  | false => rw [hnd] at h'; cases h'
  | true =>
  rw [hnd] at h'
  simp only [cond_true, Option.some.injEq] at h'
  subst h'
  have hnd := Qvt hnd
  unfold Q1dv at h0
  unfold Qem
  obtain ⟨y, hy, h⟩ := Q1c h0
  clear h0
  obtain ⟨z, hz, h⟩ := Q1c h
  simp only at h
  cases hd : disj (y.1.2.2 ++ z.1.2.2) z.1.2.1 with
  | false => rw [hd] at h; cases h
  | true =>
    rw [hd] at h
    simp only [cond_true] at h
    cases az with
    | nil => cases h
    | cons a az' =>
      obtain ⟨r, avw⟩ := a
      cases r with
      | st _ _ => cases h
      | ret v hh =>
        simp only at h
        cases hb : (Nat.ble z.1.2.1.length hh.length && Nat.ble (hh.length - z.1.2.1.length) 64) with
        | false => rw [hb] at h; cases h
        | true =>
          rw [hb] at h
          simp only [cond_true] at h
          obtain ⟨v', hv', h⟩ := Q1c h
          obtain ⟨ws, hws, h⟩ := Q1c h
          have key : ∀ (hy' : Met y.2) (hz' : Met z.2) (hw' : Met ws.2.1) (ht : Qi G (.call f y.1.1 z.1.1) (.ret v hh)) (E : Eff),
              (bif flat 8 v && hh.all (fun ob => ob.cells.all (flat 8)) then some ⟨v', ws.1, z.1.2.1 ++ (y.1.2.2 ++ z.1.2.2)⟩ else (shut H (y.1.2.2 ++ z.1.2.2)).bind fun cl => some ⟨v', ws.1 ++ cl, z.1.2.1 ++ (y.1.2.2 ++ z.1.2.2)⟩) = some E →
              ((Q5w (pass H byRef 8) args []).bind fun y => (Q3b H false false 16 0 y.2.1).bind fun z =>
                let ids := z.2.1
                let lent := y.2.2 ++ z.2.2
                bif disj lent ids then
                  (lim G (.call f y.1 z.1)).bind fun r =>
                    match r with
                    | .ret v h =>
                      bif Nat.ble ids.length h.length && Nat.ble (h.length - ids.length) 64 then
                        (back (ren ids fr) 8 v).bind fun v' => (Q8m (ren ids fr) 0 h).bind fun ws =>
                          bif flat 8 v && h.all (fun ob => ob.cells.all (flat 8)) then some ⟨v', ws, ids ++ lent⟩
                          else (shut H lent).bind fun cl => some ⟨v', ws ++ cl, ids ++ lent⟩
                      else none
                    | _ => none
                else none) = some E := by
            intro hy' hz' hw' ht E hE
            rw [Q3u (Q70 hv 8) _ _ y hy hy', Option.bind_some, Q52 hv 16 _ _ z hz hz', Option.bind_some]
            simp only
            rw [hd]
            simp only [cond_true]
            rw [Q1f0 ht, Option.bind_some]
            simp only
            rw [hb]
            simp only [cond_true]
            rw [hv', Option.bind_some, Q7w hh 0 ws hws hw', Option.bind_some]
            exact hE
          have turn : ∀ (cl : List (Nat × Option Ob)) (hcl : ∀ id o, (id, o) ∈ cl → ∃ ob ob', H id = some ob ∧ o = some ob' ∧ ob'.sz = ob.sz ∧ ob'.cells = ob.cells) (hn : ((ws.1 ++ cl).map (·.1)).Nodup) (hw' : Met ws.2.1) , VOK (upH H (ws.1 ++ cl)) (putV vw (ws.1.map (·.1)) ws.2.2) := by
            intro cl hcl hn hw' id rows hl
            rcases Qhi hl with hl | ⟨hl, hc⟩
            · obtain ⟨ob, hob, hok⟩ := Q81 hh 0 ws hws hw' id rows (Q107 hl)
              exact ⟨ob, Q10w hn (List.mem_append_left _ hob), hok⟩
            · obtain ⟨ob, hob, hok⟩ := hv id rows hl
              by_cases hx : ∃ o, (id, o) ∈ cl
              · obtain ⟨o, ho⟩ := hx
                obtain ⟨ob1, ob', h1, rfl, h2, h3⟩ := hcl id o ho
                rw [hob] at h1
                injection h1 with h1
                subst h1
                refine ⟨ob', Q10w hn (List.mem_append_right _ ho), ?_⟩
                rw [h2, h3]
                exact hok
              · refine ⟨ob, ?_, hok⟩
                rw [Q7b (fun y hy e => ?_)]
                · exact hob
                · rcases List.mem_append.1 hy with hy | hy
                  · exact hc (by rw [← e]; exact List.mem_map_of_mem hy)
                  · exact hx ⟨y.2, by rw [← e]; exact hy⟩
          cases hlent : y.1.2.2 ++ z.1.2.2 with
          | nil =>
            rw [hlent] at h
            simp only [Option.some.injEq] at h
            subst h
            simp only at hm hq hnd
            refine ⟨key hm.left hm.right.left hm.right.right (hq _ List.mem_cons_self) _ ?_, ?_⟩
            · rw [hlent]
              cases (flat 8 v && hh.all (fun ob => ob.cells.all (flat 8))) <;> simp [shut]
            · have := turn [] (fun _ _ h => by cases h) (by simpa using hnd) hm.right.right
              rw [List.append_nil] at this
              exact this
          | cons l0 lr =>
            rw [hlent] at h
            simp only at h
            cases hf : (flat 8 v && hh.all (fun ob => ob.cells.all (flat 8))) with
            | true =>
              rw [hf] at h
              simp only [cond_true, Option.some.injEq] at h
              subst h
              simp only at hm hq hnd
              refine ⟨key hm.left hm.right.left hm.right.right (hq _ List.mem_cons_self) _ ?_, ?_⟩
              · rw [hlent, hf]
                rfl
              · have := turn [] (fun _ _ h => by cases h) (by simpa using hnd) hm.right.right
                rw [List.append_nil] at this
                exact this
            | false =>
              rw [hf] at h
              simp only [cond_false] at h
              obtain ⟨cl, hcl, h⟩ := Q1c h
              simp only [Option.some.injEq] at h
              subst h
              simp only at hm hq hnd
              refine ⟨key hm.left hm.right.left hm.right.right (hq _ List.mem_cons_self) _ ?_, ?_⟩
              · rw [hlent, hf]
                simp only [cond_false]
                rw [hcl, Option.bind_some]
              · exact turn cl (Qve _ _ hcl) hnd hm.right.right
def mute : Orc := fun _ => none
theorem Q10i {X : Orc} {e : Nat → PV} {H : Nat → Option Ob} {fr : Nat} {o : IOp} {x : Eff} (h : iop mute e H fr o = some x) : iop X e H fr o = some x := by
 cases o with
 | call b f xs =>
  simp only [iop] at h
  obtain ⟨t, _, h⟩ := Q1c h
  unfold Qem at h
  obtain ⟨y, _, h⟩ := Q1c h
  obtain ⟨z, _, h⟩ := Q1c h
  simp only at h
  cases hd : disj (y.2.2 ++ z.2.2) z.2.1 with
  | false => rw [hd] at h; cases h
  | true =>
   rw [hd] at h
   simp only [cond_true] at h
   obtain ⟨_, h, _⟩ := Q1c h
   cases h
 | _ => exact h
theorem Q16s {X : Orc} {e : Nat → PV} {H : Nat → Option Ob} {fr : Nat} {o : IOper} {x : Eff} (h : Q7t mute e H fr o = some x) : Q7t X e H fr o = some x := by
 unfold Q7t at h ⊢
 obtain ⟨w, hw, h⟩ := Q1c h
 rw [hw, Option.bind_some]
 cases w with
 | true => exact Q10i h
 | false => exact h
def iopV (e : Nat → PV) (H : Nat → Option Ob) (vw : Views) (fr : Nat) (az : List Ans) : IOp → Option EV
  | .call byRef f args => (target (f.ev e) (evs e args)).bind fun t => Q1ax H vw fr byRef t.1 t.2 az
  | o => (iop mute e H fr o).bind fun x => some ⟨x, x.hw.map (·.1), [], az, [], []⟩
def Q112 (e : Nat → PV) (H : Nat → Option Ob) (vw : Views) (fr : Nat) (az : List Ans) (o : IOper) : Option EV :=
 (o.wanted e).bind fun w => bif w then iopV e H vw fr az o.op else some ⟨⟨.tup [], [], []⟩, [], [], az, [], []⟩
theorem Qeb {H : Nat → Option Ob} {vw : Views} (hv : VOK H vw) {x : Eff} {az : List Ans} : Turned H vw ⟨x, x.hw.map (·.1), [], az, [], []⟩ := by
  intro id rows hl
  rcases Qhi hl with hl | ⟨hl, hc⟩
  · cases hl
  · obtain ⟨ob, hob, hok⟩ := hv id rows hl
    refine ⟨ob, ?_, hok⟩
    rw [Q7b (fun y hy e => hc (by rw [← e]; exact List.mem_map_of_mem hy))]
    exact hob
theorem Qee {G : Nat → Option Fun} {e : Nat → PV} {H : Nat → Option Ob} {vw : Views} (hv : VOK H vw) {fr : Nat} {az : List Ans} {o : IOper} {y : EV} (h : Q112 e H vw fr az o = some y) (hm : Met y.owed) (hq : Told G y.asked) : Q7t (lim G) e H fr o = some y.eff ∧ Turned H vw y := by
  unfold Q112 at h
  obtain ⟨w, hw, h⟩ := Q1c h
  unfold Q7t
  rw [hw, Option.bind_some]
  cases w with
  | false =>
    simp only [cond_false, Option.some.injEq] at h
    subst h
    exact ⟨rfl, Qeb hv (x := ⟨.tup [], [], []⟩)⟩
  | true =>
    simp only [cond_true] at h ⊢
    have gen : ((iop mute e H fr o.op).bind fun x => some (⟨x, x.hw.map (·.1), [], az, [], []⟩ : EV)) = some y → iop (lim G) e H fr o.op = some y.eff ∧ Turned H vw y := by
      intro h
      obtain ⟨x, hx, h⟩ := Q1c h
      simp only [Option.some.injEq] at h
      subst h
      exact ⟨Q10i hx, Qeb hv⟩
    cases ho : o.op with
    | call b f xs =>
      rw [ho] at h
      simp only [iopV] at h
      obtain ⟨t, ht, h⟩ := Q1c h
      simp only [iop]
      rw [ht, Option.bind_some]
      exact Qxa hv h hm hq
    | _ =>
      rw [ho] at h gen
      exact gen h
abbrev Q7s := List (Nat × (Eff × Views))
structure TV where
  env : List PV
  heap : List (Nat × Ob)
  vw : Views
  effs : List Eff
  hs : Q7s
  az : List Ans
  owed : List Prop
  asked : Qb1
def nobody : Nat → Option Ob := fun _ => none
def Qwt (nx : Nat) : Nat → List IOper → Q7s → List Ans → List PV → List (Nat × Ob) → Views → Option TV
  | _, [], hs, az, env, h, vw => some ⟨env, h, vw, [], hs, az, [], []⟩
  | i, o :: r, hs, az, env, h, vw =>
    match hs with
    | [] => (Q112 (envF env) (look h) vw (nx + 64 * i) az o).bind fun x => (Qwt nx (i + 1) r [] x.az (put env o.dst x.eff.v) (hput h x.eff.hw) (putV vw x.cut x.new)).bind fun y => some ⟨y.env, y.heap, y.vw, x.eff :: y.effs, y.hs, y.az, x.owed ++ y.owed, x.asked ++ y.asked⟩
    | (k + 1, z) :: hs' => (Q112 (envF env) (look h) vw (nx + 64 * i) az o).bind fun x => (Qwt nx (i + 1) r ((k, z) :: hs') x.az (put env o.dst x.eff.v) (hput h x.eff.hw) (putV vw x.cut x.new)).bind fun y => some ⟨y.env, y.heap, y.vw, x.eff :: y.effs, y.hs, y.az, x.owed ++ y.owed, x.asked ++ y.asked⟩
    | (0, x) :: hs' => (Qwt nx (i + 1) r hs' az (put env o.dst x.1.v) (hput h x.1.hw) (putV vw (x.1.hw.map (·.1)) x.2)).bind fun y => some ⟨y.env, y.heap, y.vw, x.1 :: y.effs, y.hs, y.az, (Q7t mute (envF env) (look h) (nx + 64 * i) o = some x.1) :: ((x.2.map fun p => Seen (upH nobody x.1.hw p.1) p.2) ++ y.owed), y.asked⟩
theorem VOK.turned {h : List (Nat × Ob)} {vw : Views} {y : EV} (ht : Turned (look h) vw y) : VOK (look (hput h y.eff.hw)) (putV vw y.cut y.new) := by
 rw [Q73]
 exact ht
theorem Q160 {ws : List (Nat × Option Ob)} {H : Nat → Option Ob} {id : Nat} {ob : Ob} (h : upH nobody ws id = some ob) : upH H ws id = some ob := by
  by_cases c : ∃ x ∈ ws, x.1 = id
  · rw [Qme (H' := nobody) c]
    exact h
  · rw [Q7b (fun y hy e => c ⟨y, hy, e⟩)] at h
    cases h
theorem Qmv {G : Nat → Option Fun} {nx : Nat} : ∀ (ops : List IOper) (i : Nat) (hs : Q7s) (az : List Ans) (env : List PV) (h : List (Nat × Ob)) (vw : Views) (t : TV), Qwt nx i ops hs az env h vw = some t → VOK (look h) vw → Met t.owed → Told G t.asked → Q64 (lim G) nx i ops env h = some (t.env, t.heap, t.effs) ∧ VOK (look t.heap) t.vw
  | [], i, hs, az, env, h, vw, t, ht, hv, _, _ => by
    simp only [Qwt, Option.some.injEq] at ht
    subst ht
    exact ⟨rfl, hv⟩
  | o :: r, i, hs, az, env, h, vw, t, ht, hv, hm, hq => by
    have go : ∀ (x : EV) (hs' : Q7s) (vw' : Views), Q7t (lim G) (envF env) (look h) (nx + 64 * i) o = some x.eff → VOK (look (hput h x.eff.hw)) vw' → ∀ (y : TV), Qwt nx (i + 1) r hs' x.az (put env o.dst x.eff.v) (hput h x.eff.hw) vw' = some y → Met y.owed → Told G y.asked → y.env = t.env → y.heap = t.heap → y.vw = t.vw → x.eff :: y.effs = t.effs → Q64 (lim G) nx i (o :: r) env h = some (t.env, t.heap, t.effs) ∧ VOK (look t.heap) t.vw := by
      intro x hs' vw' hx hvx y hy hmy hqy e1 e2 e3 e4
      obtain ⟨r1, r2⟩ := Qmv r (i + 1) hs' _ _ _ _ y hy hvx hmy hqy
      simp only [Q64]
      rw [hx, Option.bind_some, r1, Option.bind_some, ← e1, ← e2, ← e3, ← e4]
      exact ⟨rfl, r2⟩
    unfold Qwt at ht
    split at ht
    · obtain ⟨x, hx, ht⟩ := Q1c ht
      obtain ⟨y, hy, ht⟩ := Q1c ht
      simp only [Option.some.injEq] at ht
      subst ht
      obtain ⟨s1, s2⟩ := Qee hv hx hm.left hq.left
      exact go x _ _ s1 (VOK.turned s2) y hy hm.right hq.right rfl rfl rfl rfl
    · obtain ⟨x, hx, ht⟩ := Q1c ht
      obtain ⟨y, hy, ht⟩ := Q1c ht
      simp only [Option.some.injEq] at ht
      subst ht
      obtain ⟨s1, s2⟩ := Qee hv hx hm.left hq.left
      exact go x _ _ s1 (VOK.turned s2) y hy hm.right hq.right rfl rfl rfl rfl
    · rename_i x hs'
      obtain ⟨y, hy, ht⟩ := Q1c ht
      simp only [Option.some.injEq] at ht
      subst ht
      have hx : Q7t (lim G) (envF env) (look h) (nx + 64 * i) o = some x.1 := Q16s hm.head
      have hseen : Met (x.2.map fun p => Seen (upH nobody x.1.hw p.1) p.2) := hm.tail.left
      have hvx : VOK (look (hput h x.1.hw)) (putV vw (x.1.hw.map (·.1)) x.2) := by
        rw [Q73]
        intro id rows hl
        rcases Qhi hl with hl | ⟨hl, hc⟩
        · obtain ⟨ob, hob, hok⟩ := hseen _ (List.mem_map_of_mem (f := fun p : Nat × List (List PV) => Seen (upH nobody x.1.hw p.1) p.2) (Q107 hl))
          exact ⟨ob, Q160 hob, hok⟩
        · obtain ⟨ob, hob, hok⟩ := hv id rows hl
          refine ⟨ob, ?_, hok⟩
          rw [Q7b (fun y hy e => hc (by rw [← e]; exact List.mem_map_of_mem hy))]
          exact hob
      exact go ⟨x.1, x.1.hw.map (·.1), x.2, az, [], []⟩ hs' _ hx hvx y hy hm.tail.right hq rfl rfl rfl rfl
structure CV where
  ex : Ex
  st : St
  vw : Views
  hs : Q7s
  az : List Ans
  owed : List Prop
  asked : Qb1
def Q6e (m : Nat) : IR → Q7s → List Ans → Views → St → Option CV
 | .skip, hs, az, vw, s => some ⟨.normal, s, vw, hs, az, [], []⟩
 | .reg ops draw, hs, az, vw, s => (Qwt s.nx 0 ops hs az s.env s.heap vw).bind fun y => bif !draw || calm (ops.zip y.effs) 0 (ops.zip y.effs) then some ⟨.normal, ⟨y.env, y.heap, s.nx + 64 * ops.length⟩, y.vw, y.hs, y.az, y.owed, y.asked⟩ else none
 | .seq a b, hs, az, vw, s => (Q6e m a hs az vw s).bind fun x => (match x.ex with | .normal => (Q6e m b x.hs x.az x.vw x.st).bind fun y => some ⟨y.ex, y.st, y.vw, y.hs, y.az, x.owed ++ y.owed, x.asked ++ y.asked⟩ | _ => some x)
 | .cond c a b, hs, az, vw, s => (match c.ev (envF s.env) with | .bool t => (bif t then Q6e m a hs az vw s else Q6e m b hs az vw s) | _ => none)
 | .block id b, hs, az, vw, s => (Q6e m b hs az vw s).bind fun x => (match x.ex with | .exit j => (bif Nat.beq j id then some ⟨.normal, x.st, x.vw, x.hs, x.az, x.owed, x.asked⟩ else some x) | _ => some x)
 | .loop live b, hs, az, vw, s => (gcV vw m live s).bind fun y => (match az with
  | [] => none
  | a :: az' => (match a.r with | .st e s' => some ⟨e, s', a.vw, hs, az', y.2 ++ (a.vw.map fun p => Seen (look s'.heap p.1) p.2), [(.loop m live b y.1.1 y.1.2, a.r)]⟩ | _ => none))
 | .exit id, hs, az, vw, s => some ⟨.exit id, s, vw, hs, az, [], []⟩
 | .ret, hs, az, vw, s => some ⟨.ret, s, vw, hs, az, [], []⟩
theorem Q2u {G : Nat → Option Fun} {m : Nat} : ∀ (c : IR) (hs : Q7s) (az : List Ans) (vw : Views) (s : St) (t : CV), Q6e m c hs az vw s = some t → VOK (look s.heap) vw → Met t.owed → Told G t.asked → Q4x (lim G) m c s = some (t.ex, t.st) ∧ VOK (look t.st.heap) t.vw
  | .skip, hs, az, vw, s, t, ht, hv, _, _ => by
    simp only [Q6e, Option.some.injEq] at ht
    subst ht
    exact ⟨rfl, hv⟩
  | .reg ops draw, hs, az, vw, s, t, ht, hv, hm, hq => by
    simp only [Q6e] at ht
    obtain ⟨y, hy, ht⟩ := Q1c ht
    cases hc : (!draw || calm (ops.zip y.effs) 0 (ops.zip y.effs)) with
    | false => rw [hc] at ht; cases ht
    | true =>
      rw [hc] at ht
      simp only [cond_true, Option.some.injEq] at ht
      subst ht
      obtain ⟨r1, r2⟩ := Qmv ops 0 hs az s.env s.heap vw y hy hv hm hq
      have h1 : ireg (lim G) ops draw s = some ⟨y.env, y.heap, s.nx + 64 * ops.length⟩ := by
        unfold ireg
        rw [r1, Option.bind_some]
        simp only
        rw [hc]
        rfl
      simp only [Q4x]
      rw [h1]
      exact ⟨rfl, r2⟩
  | .seq a b, hs, az, vw, s, t, ht, hv, hm, hq => by
    simp only [Q6e] at ht
    obtain ⟨x, hx, ht⟩ := Q1c ht
    obtain ⟨ex, st, vw1, hs1, as1, ow1, ak1⟩ := x
    simp only [Q4x]
    cases ex with
    | normal =>
      simp only at ht
      obtain ⟨y, hy, ht⟩ := Q1c ht
      simp only [Option.some.injEq] at ht
      subst ht
      obtain ⟨r1, r2⟩ := Q2u a hs az vw s _ hx hv hm.left hq.left
      rw [r1, Option.bind_some]
      exact Q2u b _ _ _ _ y hy r2 hm.right hq.right
    | exit j =>
      simp only [Option.some.injEq] at ht
      subst ht
      obtain ⟨r1, r2⟩ := Q2u a hs az vw s _ hx hv hm hq
      rw [r1, Option.bind_some]
      exact ⟨rfl, r2⟩
    | ret =>
      simp only [Option.some.injEq] at ht
      subst ht
      obtain ⟨r1, r2⟩ := Q2u a hs az vw s _ hx hv hm hq
      rw [r1, Option.bind_some]
      exact ⟨rfl, r2⟩
  | .cond c a b, hs, az, vw, s, t, ht, hv, hm, hq => by
    simp only [Q6e] at ht
    simp only [Q4x]
    split at ht
    · rename_i q hq'
      rw [hq']
      simp only
      cases q with
      | true => exact Q2u a hs az vw s t ht hv hm hq
      | false => exact Q2u b hs az vw s t ht hv hm hq
    · cases ht
  | .block id b, hs, az, vw, s, t, ht, hv, hm, hq => by
    simp only [Q6e] at ht
    obtain ⟨x, hx, ht⟩ := Q1c ht
    obtain ⟨ex, st, vw1, hs1, as1, ow1, ak1⟩ := x
    simp only [Q4x]
    cases ex with
    | normal =>
      simp only [Option.some.injEq] at ht
      subst ht
      obtain ⟨r1, r2⟩ := Q2u b hs az vw s _ hx hv hm hq
      rw [r1, Option.bind_some]
      exact ⟨rfl, r2⟩
    | ret =>
      simp only [Option.some.injEq] at ht
      subst ht
      obtain ⟨r1, r2⟩ := Q2u b hs az vw s _ hx hv hm hq
      rw [r1, Option.bind_some]
      exact ⟨rfl, r2⟩
    | exit j =>
      simp only at ht
      cases hj : Nat.beq j id with
      | true =>
        rw [hj] at ht
        simp only [cond_true, Option.some.injEq] at ht
        subst ht
        obtain ⟨r1, r2⟩ := Q2u b hs az vw s _ hx hv hm hq
        rw [r1, Option.bind_some]
        simp only
        rw [hj]
        exact ⟨rfl, r2⟩
      | false =>
        rw [hj] at ht
        simp only [cond_false, Option.some.injEq] at ht
        subst ht
        obtain ⟨r1, r2⟩ := Q2u b hs az vw s _ hx hv hm hq
        rw [r1, Option.bind_some]
        simp only
        rw [hj]
        exact ⟨rfl, r2⟩
  | .loop live b, hs, az, vw, s, t, ht, hv, hm, hq => by
    simp only [Q6e] at ht
    obtain ⟨y, hy, ht⟩ := Q1c ht
    simp only [Q4x]
    cases az with
    | nil => cases ht
    | cons a az' =>
      obtain ⟨r, avw⟩ := a
      cases r with
      | ret _ _ => cases ht
      | st e s' =>
        simp only [Option.some.injEq] at ht
        subst ht
        rw [Qyq hv hy hm.left, Option.bind_some, Q1f0 (hq _ List.mem_cons_self), Option.bind_some]
        refine ⟨rfl, fun id rows hl => ?_⟩
        exact hm.right _ (List.mem_map_of_mem (f := fun p : Nat × List (List PV) => Seen (look s'.heap p.1) p.2) (Q107 hl))
  | .exit id, hs, az, vw, s, t, ht, hv, _, _ => by
    simp only [Q6e, Option.some.injEq] at ht
    subst ht
    exact ⟨rfl, hv⟩
  | .ret, hs, az, vw, s, t, ht, hv, _, _ => by
    simp only [Q6e, Option.some.injEq] at ht
    subst ht
    exact ⟨rfl, hv⟩
def finV (fn : IFn) (m : Nat) (vw : Views) (s : St) : Option (Rs × List Prop) :=
 (mapO (rv s) fn.res).bind fun vs =>
  let a := bif fn.keep then Q4y s.nx vs else (vs, s.nx, [])
  let H := look (s.heap ++ a.2.2)
  (Q8q (Qaw H vw fn.keep 8) a.1 (upTo m)).bind fun y =>
   (Q8o H vw false true 32 0 y.1.2.1).bind fun z =>
    bif disj (y.1.2.2 ++ z.1.2.2) z.1.2.1 then some (.ret (match y.1.1 with | [v] => v | l => .tup l) (regr m z.1.1), y.2 ++ z.2) else none
theorem Qqx {fn : IFn} {m : Nat} {vw : Views} {s : St} (hv : VOK (look s.heap) vw) {y : Rs × List Prop} (h : finV fn m vw s = some y) (hm : Met y.2) : fin fn m s = some y.1 := by
 unfold finV at h
 unfold fin
 obtain ⟨vs, hvs, h⟩ := Q1c h
 rw [hvs, Option.bind_some]
 simp only at h ⊢
 have hv' : VOK (look (s.heap ++ (bif fn.keep then Q4y s.nx vs else (vs, s.nx, [])).2.2)) vw := by
  intro id rows hl
  obtain ⟨ob, hob, hok⟩ := hv id rows hl
  refine ⟨ob, ?_, hok⟩
  rw [Qtc, hob]
 obtain ⟨x, hx, h⟩ := Q1c h
 obtain ⟨z, hz, h⟩ := Q1c h
 cases hd : disj (x.1.2.2 ++ z.1.2.2) z.1.2.1 with
 | false => rw [hd] at h; cases h
 | true =>
  rw [hd] at h
  simp only [cond_true, Option.some.injEq] at h
  subst h
  rw [Q3u (Q70 hv' 8) _ _ x hx hm.left, Option.bind_some, Q52 hv' 32 _ _ z hz hm.right, Option.bind_some, hd]
  rfl
def Q1h6 (fn : IFn) (args : List PV) (h : List Ob) (vw : Views) (hs : Q7s) (az : List Ans) : Option (Rs × List Prop × Qb1) :=
 bif Nat.beq args.length fn.np then
  (Q6e h.length fn.body hs az vw ⟨args ++ nuns (fn.nt - fn.np), number 0 h, h.length⟩).bind fun x =>
   (match x.ex with
    | .exit _ => none
    | _ => (finV fn h.length x.vw x.st).bind fun r => some (r.1, x.owed ++ r.2, x.asked))
 else none
theorem Q1hf {G : Nat → Option Fun} {f : Nat} {fn : IFn} (hG : G f = some (.ir fn)) {args : List PV} {h : List Ob} {vw : Views} (hv : VOK (look (number 0 h)) vw) {hs : Q7s} {az : List Ans} {r : Rs} {ow : List Prop} {ak : Qb1} (hp : Met ow) (hq : Told G ak) (ht : Q1h6 fn args h vw hs az = some (r, ow, ak)) : Qi G (.call f args h) r := by
 refine Q1be Qgn ?_
 unfold Q1h6 at ht
 simp only [phi, hG]
 cases hl : Nat.beq args.length fn.np with
 | false => rw [hl] at ht; cases ht
 | true =>
  rw [hl] at ht
  simp only [cond_true] at ht ⊢
  obtain ⟨x, hx, ht⟩ := Q1c ht
  obtain ⟨ex, st, vw1, hs1, as1, ow1, ak1⟩ := x
  cases ex with
  | exit j => cases ht
  | normal =>
   simp only at ht
   obtain ⟨r', hr, ht⟩ := Q1c ht
   simp only [Option.some.injEq, Prod.mk.injEq] at ht
   obtain ⟨rfl, rfl, rfl⟩ := ht
   obtain ⟨r1, r2⟩ := Q2u _ hs az vw _ _ hx hv hp.left hq
   rw [r1, Option.bind_some]
   exact Qqx r2 hr hp.right
  | ret =>
   simp only at ht
   obtain ⟨r', hr, ht⟩ := Q1c ht
   simp only [Option.some.injEq, Prod.mk.injEq] at ht
   obtain ⟨rfl, rfl, rfl⟩ := ht
   obtain ⟨r1, r2⟩ := Q2u _ hs az vw _ _ hx hv hp.left hq
   rw [r1, Option.bind_some]
   exact Qqx r2 hr hp.right
theorem VOK.nil {H : Nat → Option Ob} : VOK H [] := fun _ _ h => by cases h
def Q1fj (m : Nat) (live : List Nat) (b : IR) (env : List PV) (h : List Ob) (vw : Views) (hs : Q7s) (az : List Ans) : Option ((List PV × List Ob) × List Prop × Qb1) :=
 (Q6e m b hs az vw ⟨env, number 0 h, h.length⟩).bind fun x => (match x.ex with | .normal => (gcV x.vw m live x.st).bind fun y => some (y.1, x.owed ++ y.2, x.asked) | _ => none)
theorem Qzr {G : Nat → Option Fun} {m : Nat} {live : List Nat} {b : IR} {env : List PV} {h : List Ob} {vw : Views} (hv : VOK (look (number 0 h)) vw) {hs : Q7s} {az : List Ans} {y : List PV × List Ob} {ow : List Prop} {ak : Qb1} {r : Rs} (hp : Met ow) (hq : Told G ak) (ht : Q1fj m live b env h vw hs az = some (y, ow, ak)) (hr : Qi G (.loop m live b y.1 y.2) r) : Qi G (.loop m live b env h) r := by
 unfold Q1fj at ht
 obtain ⟨x, hx, ht⟩ := Q1c ht
 obtain ⟨ex, st, vw1, hs1, as1, ow1, ak1⟩ := x
 cases ex with
 | normal =>
  simp only at ht
  obtain ⟨y', hg, ht⟩ := Q1c ht
  simp only [Option.some.injEq, Prod.mk.injEq] at ht
  obtain ⟨rfl, rfl, rfl⟩ := ht
  obtain ⟨r1, r2⟩ := Q2u _ hs az vw _ _ hx hv hp.left hq
  exact Q198 Qgn r1 (Qyq r2 hg hp.right) hr
 | exit j => cases ht
 | ret => cases ht
def Q1bh (m : Nat) (b : IR) (env : List PV) (h : List Ob) (vw : Views) (hs : Q7s) (az : List Ans) : Option ((Ex × St) × List Prop × Qb1) :=
 (Q6e m b hs az vw ⟨env, number 0 h, h.length⟩).bind fun x => (match x.ex with | .normal => none | e => some ((e, x.st), x.owed, x.asked))
theorem Q14o {G : Nat → Option Fun} {m : Nat} {live : List Nat} {b : IR} {env : List PV} {h : List Ob} {vw : Views} (hv : VOK (look (number 0 h)) vw) {hs : Q7s} {az : List Ans} {x : Ex × St} {ow : List Prop} {ak : Qb1} (hp : Met ow) (hq : Told G ak) (ht : Q1bh m b env h vw hs az = some (x, ow, ak)) : Qi G (.loop m live b env h) (.st x.1 x.2) := by
 unfold Q1bh at ht
 obtain ⟨y, hy, ht⟩ := Q1c ht
 obtain ⟨ex, st, vw1, hs1, as1, ow1, ak1⟩ := y
 cases ex with
 | normal => cases ht
 | exit j =>
  simp only [Option.some.injEq, Prod.mk.injEq] at ht
  obtain ⟨rfl, rfl, rfl⟩ := ht
  exact Qjk Qgn (by intro h; cases h) (Q2u _ hs az vw _ _ hy hv hp hq).1
 | ret =>
  simp only [Option.some.injEq, Prod.mk.injEq] at ht
  obtain ⟨rfl, rfl, rfl⟩ := ht
  exact Qjk Qgn (by intro h; cases h) (Q2u _ hs az vw _ _ hy hv hp hq).1
end Go.Pv
end

section
/-
  Small words and hints' lemmas for walks that a program prints.
-/
namespace Go.Pv
def bE (b : Bool) : Eff := ⟨.bool b, [], []⟩
def vE (v : PV) : Eff := ⟨v, [], []⟩
def w64 (n : Int) : Int := IntKind.i64.wrap n
def mx (x y : Int) : Int := if y > x then y else x
def sEq (a b : ByteArray) : Bool := a.toList == b.toList
theorem dec (c v : Bool) (h : c = v) : some (bE c) = some (bE v) := by rw [h]
theorem Qe {α : Type} {f : α → List PV} {l : List α} {i : Nat} {x : α} (h : l[i]? = some x) : (l.map f)[i]? = some (f x) := by
 rw [List.getElem?_map, h]
 rfl
def ixE (sz : Nat) (l : List (List PV)) (i : Int) : Option Eff := (opP (fun _ => .un) (.iaddr sz (.c (.sl l)) (.c (.int .i64 i)))).bind fun v => some ⟨v, [], []⟩
theorem Q15 (sz : Nat) (l : List (List PV)) (i : Nat) (r : List PV) (h : l[i]? = some r) (hs : r.length = sz) : ixE sz l (i : Int) = some (vE (.rf r)) := by
 unfold ixE
 simp only [opP, Opd.ev, asNat]
 have h0 : decide (0 ≤ (i : Int)) = true := by simp
 rw [h0]
 simp only [cond_true, Option.bind_some, Int.toNat_natCast]
 rw [h]
 subst hs
 simp [vE]
def lenE (l : List (List PV)) : Option Eff := some ⟨.int .i64 (l.length : Int), [], []⟩
theorem Qz (l : List (List PV)) (n : Nat) (h : l.length = n) : lenE l = some (vE (.int .i64 (n : Int))) := by
 unfold lenE
 rw [h]
 rfl
theorem Q148 {n : Int} (h : -9223372036854775808 ≤ n ∧ n ≤ 9223372036854775807) : w64 n = n := by
 unfold w64 IntKind.wrap
 simp [IntKind.signed, IntKind.bits]
 omega
def addE (a b : Int) : Option Eff := some ⟨.int .i64 (IntKind.i64.wrap (a + b)), [], []⟩
theorem Q25 (i : Nat) (h : i < 9223372036854775807) : addE (i : Int) 1 = some (vE (.int .i64 ((i + 1 : Nat) : Int))) := by
 unfold addE
 have : IntKind.i64.wrap ((i : Int) + 1) = ((i + 1 : Nat) : Int) := by
  have := Q148 (n := (i : Int) + 1) (by omega)
  unfold w64 at this
  rw [this]
  rfl
 rw [this]
 rfl
theorem Q1ls {ob : Ob} {k : Nat} (h : ob.cells.length = k) : apC ob k = some ob.cells := by
 unfold apC
 rw [h, Nat.beq_refl]
 rfl
def apE (id lid fr sz bytes ro lro : Nat) (lgr : Bool) (rows : List (List PV)) (r : List PV) (n : Nat) : Option Eff :=
 Q68 (look [(id, ⟨sz, ro, true, rows.flatten⟩), (lid, ⟨sz, lro, lgr, r⟩)]) fr sz bytes (.ms id sz 0 n) (.ms lid sz 0 1)
theorem Q3g (id lid fr sz bytes ro lro : Nat) (lgr : Bool) (rows rows' : List (List PV)) (r : List PV) (n n' : Nat) (hne : Nat.beq id lid = false) (hn : n = rows.length) (hn' : n' = rows'.length) (hr' : rows' = rows ++ [r])
  (hs : ∀ r ∈ rows, r.length = sz) (hr : r.length = sz) (hb : (n + 1) * bytes ≤ 140737488355328) :
  apE id lid fr sz bytes ro lro lgr rows r n = some ⟨.ms fr sz 0 n', [(id, none), (fr, some ⟨sz, ro, true, rows'.flatten⟩)], [id, lid]⟩ := by
 subst hn hn' hr'
 unfold apE Q68
 have h1 : look [(id, (⟨sz, ro, true, rows.flatten⟩ : Ob)), (lid, ⟨sz, lro, lgr, r⟩)] lid = some ⟨sz, lro, lgr, r⟩ := by simp [look, hne]
 have h2 : look [(id, (⟨sz, ro, true, rows.flatten⟩ : Ob)), (lid, ⟨sz, lro, lgr, r⟩)] id = some ⟨sz, ro, true, rows.flatten⟩ := by simp [look]
 have hsrc : source (look [(id, (⟨sz, ro, true, rows.flatten⟩ : Ob)), (lid, ⟨sz, lro, lgr, r⟩)]) sz (.ms lid sz 0 1) = some (1, r, [lid]) := by
  simp only [source, h1, Option.bind_some]
  subst hr
  have : Nat.ble r.length r.length = true := Nat.ble_eq_true_of_le (Nat.le_refl _)
  simp [this]
 rw [hsrc, Option.bind_some]
 simp only [h2, Option.bind_some]
 have hc : (true && Nat.beq sz sz && Nat.beq sz sz && Nat.beq 0 0 && Nat.ble ((rows.length + 1) * bytes) 140737488355328) = true := by
  simp only [Nat.beq_refl, Bool.and_true, Bool.true_and]
  exact Nat.ble_eq_true_of_le hb
 rw [hc, Q1ls (ob := ⟨sz, ro, true, rows.flatten⟩) (Q77 sz rows hs)]
 simp
end Go.Pv
namespace Go.Pv
theorem VOK.cons {H : Nat → Option Ob} {vw : Views} {id : Nat} {rows : List (List PV)} (h : Seen (H id) rows) (hv : VOK H vw) : VOK H ((id, rows) :: vw) := by
 intro k rs hl
 simp only [look] at hl
 cases c : Nat.beq id k with
 | true =>
  have := Nat.eq_of_beq_eq_true c
  subst this
  rw [c] at hl
  simp only [cond_true, Option.some.injEq] at hl
  subst hl
  exact h
 | false =>
  rw [c] at hl
  exact hv k rs hl
theorem Q1s {α : Type} {l : List α} {i : Nat} {x : α} {r : List α} (h : l.drop i = x :: r) : l[i]? = some x ∧ i < l.length ∧ l.drop (i + 1) = r := by
 have h1 : l[i]? = some x := by
  have := congrArg (fun q => q[0]?) h
  simpa [List.getElem?_drop] using this
 have h2 : i < l.length := (List.getElem?_eq_some_iff.1 h1).1
 refine ⟨h1, h2, ?_⟩
 rw [← List.tail_drop, h]
 rfl
theorem Q1v {α : Type} {l : List α} {i : Nat} (h : l.drop i = []) : l.length ≤ i := by
 simpa using h
theorem Q13 {α : Type} {l : List α} {i : Nat} {x : α} (h : l[i]? = some x) : x ∈ l := List.mem_of_getElem? h
def Qv (l : List ByteArray) : List (List PV) := l.map fun n => [.str n]
theorem Q1q (l : List ByteArray) : (Qv l).length = l.length := by simp [Qv]
theorem Q3s {l : List ByteArray} {i : Nat} {x : ByteArray} (h : l[i]? = some x) : (Qv l)[i]? = some [.str x] := Qe (f := fun n => [.str n]) h
theorem Q60 (l : List ByteArray) (x : ByteArray) : Qv (l ++ [x]) = Qv l ++ [[.str x]] := by simp [Qv]
theorem Q3h {α : Type} {f : α → List PV} {n : Nat} (h : ∀ x, (f x).length = n) (l : List α) : ∀ r ∈ l.map f, r.length = n := fun r hr => by
 obtain ⟨x, _, rfl⟩ := List.mem_map.1 hr
 exact h x
theorem Q2z {α : Type} {f : α → List PV} (h : ∀ x, (f x).all plain = true) (l : List α) : ∀ r ∈ l.map f, ∀ p ∈ r, plain p = true := fun r hr p hp => by
 obtain ⟨x, _, rfl⟩ := List.mem_map.1 hr
 exact List.all_eq_true.1 (h x) p hp
theorem Q3o (l : List ByteArray) : ∀ r ∈ Qv l, r.length = 1 := Q3h (f := fun n => [.str n]) (fun _ => rfl) l
theorem Q2w (l : List ByteArray) (sz : Nat) (h : sz = 1) : ViewOK sz (Qv l).flatten (Qv l) := by subst h; exact ⟨rfl, Q3o l, Q2z (f := fun n => [.str n]) (fun _ => rfl) l⟩
end Go.Pv
namespace Go.Pv
def zoF (l : List (Nat × List PV)) (j : Nat) : List PV := (look l j).getD []
end Go.Pv
namespace Go.Pv
theorem Qy1 {l : List (List PV)} {sz : Nat} (hs : ∀ r ∈ l, r.length = sz) : Q6z l sz = true := by
 unfold Q6z
 rw [List.all_eq_true]
 intro r hr
 rw [hs r hr]
 exact Nat.beq_refl sz
theorem Q65 (l : List ByteArray) (n : Nat) : Qv (l.take n) = (Qv l).take n := by simp [Qv, List.map_take]
end Go.Pv
namespace Go.Pv
def ixmE (id sz off len : Nat) (i : Int) : Option Eff := (opP (fun _ => .un) (.iaddr sz (.c (.ms id sz off len)) (.c (.int .i64 i)))).bind fun v => some ⟨v, [], []⟩
theorem Q1jr (id sz off len : Nat) (i : Int) (k at_ : Nat) (h : i = (k : Int)) (hk : k < len) (ha : at_ = (off + k) * sz) : ixmE id sz off len i = some (vE (.bx id at_)) := by
 subst h ha
 unfold ixmE
 simp only [opP, Opd.ev, asNat]
 have h0 : decide (0 ≤ (k : Int)) = true := by simp
 rw [h0]
 simp only [cond_true, Option.bind_some, Int.toNat_natCast]
 have h1 : (Nat.beq sz sz && Nat.blt k len) = true := by
  rw [Nat.beq_refl, Bool.true_and]
  exact Nat.ble_eq_true_of_le hk
 rw [h1]
 rfl
end Go.Pv
namespace Go.Pv
theorem Qcv (id sz len : Nat) (i : Int) (k : Nat) (hk : k = i.toNat) (h0 : 0 ≤ i) (h1 : i < (len : Int)) : ixmE id sz 0 len i = some (vE (.bx id (k * sz))) :=
 Q1jr id sz 0 len i k (k * sz) (by omega) (by omega) (by rw [Nat.zero_add])
theorem Qef (sz : Nat) : ∀ (rows : List (List PV)) (k : Nat), (∀ r ∈ rows, r.length = sz) → rows.flatten.drop (k * sz) = (rows.drop k).flatten
 | [], k, _ => by simp
 | r :: rs, 0, _ => by simp
 | r :: rs, k + 1, h => by
  have h0 := h r List.mem_cons_self
  rw [List.flatten_cons, List.drop_succ_cons, ← Qef sz rs k (fun q hq => h q (List.mem_cons_of_mem _ hq)), Nat.add_mul, Nat.one_mul, Nat.add_comm, ← List.drop_drop, List.drop_left' h0]
theorem Q18b {sz : Nat} {rows : List (List PV)} {k : Nat} {r : List PV} {off n : Nat} (hr : rows[k]? = some r) (hs : ∀ r ∈ rows, r.length = sz) (hn : off + n ≤ sz) : (rows.flatten.drop (k * sz + off)).take n = (r.drop off).take n ∧ k * sz + off + n ≤ rows.flatten.length := by
  have hk : k < rows.length := (List.getElem?_eq_some_iff.1 hr).1
  have hd : rows.drop k = r :: rows.drop (k + 1) := by
    rw [List.drop_eq_getElem_cons hk]
    congr 1
    exact (List.getElem?_eq_some_iff.1 hr).2
  have hl := hs r (List.mem_of_getElem? hr)
  refine ⟨?_, ?_⟩
  · rw [← List.drop_drop, Qef sz rows k hs, hd, List.flatten_cons]
    rw [List.drop_append_of_le_length (by omega), List.take_append_of_le_length (by rw [List.length_drop]; omega)]
  · rw [Q77 sz rows hs]
    have : (k + 1) * sz ≤ rows.length * sz := Nat.mul_le_mul_right _ hk
    rw [Nat.add_mul] at this
    omega
def ldE (id sz ro : Nat) (gr : Bool) (cells : List PV) (n : Nat) (ag : Bool) (at_ : Nat) : Option Eff := Qb7 (look [(id, ⟨sz, ro, gr, cells⟩)]) n ag (.bx id at_)
theorem Q1fw (id sz ro : Nat) (gr : Bool) (cells : List PV) (rows : List (List PV)) (n : Nat) (ag : Bool) (k off at_ : Nat) (r : List PV) (v : PV) (hc : cells = rows.flatten) (ha : at_ = k * sz + off) (hr : rows[k]? = some r) (hs : ∀ r ∈ rows, r.length = sz) (hn : off + n ≤ sz) (hv : shape ag ((r.drop off).take n) = some v) :
  ldE id sz ro gr cells n ag at_ = some ⟨v, [], [id]⟩ := by
 subst hc ha
 obtain ⟨h1, h2⟩ := Q18b hr hs hn
 unfold ldE Qb7 reads
 simp only [look, Nat.beq_refl, cond_true, Option.bind_some]
 rw [Nat.ble_eq_true_of_le h2]
 simp only [cond_true, Option.bind_some]
 rw [h1, hv, Option.bind_some]
theorem Q3q {α : Type} (l : List α) (k : Nat) (d : α) (h : k < l.length) : l[k]? = some (l.getD k d) := by
 rw [List.getD_eq_getElem?_getD, List.getElem?_eq_getElem h]
 rfl
end Go.Pv
namespace Go.Pv
theorem decR (c v : Bool) (hr : List Nat) (h : c = v) : some (⟨.bool c, [], hr⟩ : Eff) = some ⟨.bool v, [], hr⟩ := by rw [h]
end Go.Pv
namespace Go.Pv
end Go.Pv
end

section
/- More of single operations: sums that don't run over; shifts of indexes; stores into a slice of one's own that is known by its rows. -/
namespace Go.Pv
theorem beqT {x v : Bool} (h : (x == true) = v) : x = v := by cases x <;> cases v <;> simp_all
def sCmp (a b : ByteArray) : Int := cmpL a.toList b.toList
theorem Qk0 {sz : Nat} : ∀ (rows : List (List PV)) (k : Nat) (r vals : List PV) (off n : Nat), rows[k]? = some r → (∀ q ∈ rows, q.length = sz) → off + n ≤ sz → vals.length = n →
  rows.flatten.take (k * sz + off) ++ (vals ++ rows.flatten.drop (k * sz + off + n)) = (rows.set k (r.take off ++ (vals ++ r.drop (off + n)))).flatten ∧ k * sz + off + n ≤ rows.flatten.length
 | [], _, _, _, _, _, h, _, _, _ => by simp at h
 | q :: rs, 0, r, vals, off, n, h, hs, hn, hv => by
  have hq := hs q List.mem_cons_self
  simp only [List.getElem?_cons_zero, Option.some.injEq] at h
  subst h
  simp only [Nat.zero_mul, Nat.zero_add, List.flatten_cons, List.set_cons_zero, List.length_append]
  refine ⟨?_, by omega⟩
  rw [List.take_append_of_le_length (by omega), List.drop_append_of_le_length (by omega)]
  simp only [List.append_assoc]
 | q :: rs, k + 1, r, vals, off, n, h, hs, hn, hv => by
  have hq := hs q List.mem_cons_self
  simp only [List.getElem?_cons_succ] at h
  obtain ⟨h1, h2⟩ := Qk0 rs k r vals off n h (fun q hq => hs q (List.mem_cons_of_mem _ hq)) hn hv
  have e1 : (k + 1) * sz + off = q.length + (k * sz + off) := by rw [hq, Nat.add_mul]; omega
  have e2 : (k + 1) * sz + off + n = q.length + (k * sz + off + n) := by rw [hq, Nat.add_mul]; omega
  simp only [List.flatten_cons, List.set_cons_succ, List.length_append]
  refine ⟨?_, by omega⟩
  rw [e2, e1, List.take_length_add_append, List.drop_length_add_append, ← h1]
  simp only [List.append_assoc]
def stE (id sz ro : Nat) (gr : Bool) (cells : List PV) (n : Nat) (at_ : Nat) (x : PV) : Option Eff := Qb0 (look [(id, ⟨sz, ro, gr, cells⟩)]) n (.bx id at_) x
theorem Q180 (id sz : Nat) (gr : Bool) (cells : List PV) (rows rows' : List (List PV)) (n k off at_ : Nat) (r : List PV) (x : PV) (hc : cells = rows.flatten) (ha : at_ = k * sz + off) (hr : rows[k]? = some r) (hs : ∀ r ∈ rows, r.length = sz) (hn : off + n ≤ sz) (hx : x.cs.length = n) (hf : x.fits = true) (hrows : rows' = rows.set k (r.take off ++ (x.cs ++ r.drop (off + n)))) :
  stE id sz 0 gr cells n at_ x = some ⟨.un, [(id, some ⟨sz, 0, gr, rows'.flatten⟩)], [id]⟩ := by
 subst hc ha hrows
 obtain ⟨h1, h2⟩ := Qk0 rows k r x.cs off n hr hs hn hx
 unfold stE Qb0
 simp only [look, Nat.beq_refl, cond_true, Option.bind_some]
 rw [hx, hf, Nat.beq_refl, Nat.ble_eq_true_of_le h2, Nat.ble_eq_true_of_le (Nat.zero_le _), h1]
 rfl
theorem Qdu (l : List ByteArray) (k : Nat) (x : ByteArray) : Qv (l.set k x) = (Qv l).set k [.str x] := by simp [Qv, List.map_set]
end Go.Pv
end

section
/- A walk's hints and answers, each with its proof. -/
namespace Go.Pv
structure It where
  hint : Option (Nat × (Eff × Views))
  p : Prop
  pf : p
def hsOf : List It → Q7s
 | [] => []
 | x :: r => (match x.hint with | some h => h :: hsOf r | none => hsOf r)
def owOf : List It → List Prop
 | [] => []
 | x :: r => x.p :: owOf r
theorem Q1c5 : ∀ l : List It, Met (owOf l)
 | [] => Met.nil
 | x :: r => Met.cons x.pf (Q1c5 r)
structure An (G : Nat → Option Fun) where
  e : En
  r : Rs
  vw : Views
  pf : Qi G e r
def asOf {G : Nat → Option Fun} : List (An G) → List Ans
 | [] => []
 | x :: r => ⟨x.r, x.vw⟩ :: asOf r
def akOf {G : Nat → Option Fun} : List (An G) → Qb1
 | [] => []
 | x :: r => (x.e, x.r) :: akOf r
theorem Q12x {G : Nat → Option Fun} : ∀ l : List (An G), Told G (akOf l)
 | [] => Told.nil
 | x :: r => Told.cons x.pf (Q12x r)
def hB {c v : Bool} (n : Nat) (h : c = v) : It := ⟨some (n, (bE v, [])), some (bE c) = some (bE v), dec c v h⟩
def hP {x : Option Eff} {y : Eff} (n : Nat) (h : x = some y) : It := ⟨some (n, (y, [])), x = some y, h⟩
def hV {x : Option Eff} {y : Eff} (n : Nat) (vw : Views) (h : x = some y) : It := ⟨some (n, (y, vw)), x = some y, h⟩
def hQ {p : Prop} (h : p) : It := ⟨none, p, h⟩
def aN {G : Nat → Option Fun} {e : En} {r : Rs} (h : Qi G e r) : An G := ⟨e, r, [], h⟩
def aV {G : Nat → Option Fun} {e : En} {r : Rs} (vw : Views) (h : Qi G e r) : An G := ⟨e, r, vw, h⟩
def aB {G : Nat → Option Fun} {e : En} {c v : Bool} (h : Qi G e (.ret (.bool c) [])) (hc : c = v) : An G := ⟨e, .ret (.bool v) [], [], hc ▸ h⟩
theorem Qm {G : Nat → Option Fun} {f : Nat} {fn : IFn} (hG : G f = some (.ir fn)) {args : List PV} {h : List Ob} {vw : Views} (hv : VOK (look (number 0 h)) vw) {r : Rs} (l : List It) (q : List (An G)) (ht : Q1h6 fn args h vw (hsOf l) (asOf q) = some (r, owOf l, akOf q)) : Qi G (.call f args h) r := Q1hf hG hv (Q1c5 l) (Q12x q) ht
theorem Qw {G : Nat → Option Fun} {m : Nat} {live : List Nat} {b : IR} {env : List PV} {h : List Ob} {vw : Views} (hv : VOK (look (number 0 h)) vw) {y : List PV × List Ob} {r : Rs} (l : List It) (q : List (An G)) (ht : Q1fj m live b env h vw (hsOf l) (asOf q) = some (y, owOf l, akOf q)) (hr : Qi G (.loop m live b y.1 y.2) r) : Qi G (.loop m live b env h) r := Qzr hv (Q1c5 l) (Q12x q) ht hr
theorem Q10 {G : Nat → Option Fun} {m : Nat} {live : List Nat} {b : IR} {env : List PV} {h : List Ob} {vw : Views} (hv : VOK (look (number 0 h)) vw) {x : Ex × St} (l : List It) (q : List (An G)) (ht : Q1bh m b env h vw (hsOf l) (asOf q) = some (x, owOf l, akOf q)) : Qi G (.loop m live b env h) (.st x.1 x.2) := Q14o hv (Q1c5 l) (Q12x q) ht
end Go.Pv
namespace Go.Pv
def hS {sz : Nat} {cells : List PV} {rows : List (List PV)} (ro : Nat) (gr : Bool) (h : ViewOK sz cells rows) : It := hQ (Q42 (ob := ⟨sz, ro, gr, cells⟩) h)
end Go.Pv
end

section
/-
  What a law is handed, as plain Lean values.
-/
namespace Go.Pv
def okI (k : IntKind) (n : Int) : Prop := (Lit.int k n).wf = true
def Qdt (n : Int) : Prop := -9223372036854775808 ≤ n ∧ n ≤ 9223372036854775807
def okU8 (n : Int) : Prop := 0 ≤ n ∧ n ≤ 255
theorem okI.i64 {n : Int} (h : okI .i64 n) : Qdt n := by
 unfold okI at h
 simp [Lit.wf, IntKind.min, IntKind.max, IntKind.signed, IntKind.bits] at h
 exact h
theorem okI.u8 {n : Int} (h : okI .u8 n) : okU8 n := by
 unfold okI at h
 simp [Lit.wf, IntKind.min, IntKind.max, IntKind.signed, IntKind.bits] at h
 unfold okU8
 omega
def okS (s : ByteArray) : Prop := s.size ≤ 140737488351232
def okL {α : Type} (bytes : Nat) (ok : α → Prop) (l : List α) : Prop := l.length * bytes ≤ 140737488351232 ∧ ∀ x ∈ l, ok x
section
variable {Γ : Nat → Option Ty}
theorem OfL.Q3a {f : Ty} {fs : List Ty} {c : List PV} (h : OfL Γ (f :: fs) c) : ∃ a b, c = a ++ b ∧ Of Γ f a ∧ OfL Γ fs b := by
 cases h with
 | cons _ _ a b h1 h2 => exact ⟨a, b, rfl, h1, h2⟩
theorem OfL.empty {c : List PV} (h : OfL Γ [] c) : c = [] := by cases h; rfl
theorem Of.str1 {c : List PV} (h : Of Γ .str c) : ∃ s, c = [.str s] ∧ okS s := by
 cases h with
 | str s h => exact ⟨s, rfl, h⟩
theorem Of.Q1oa {c : List PV} (h : Of Γ .bool c) : ∃ b, c = [.bool b] := by
 cases h with
 | bool b => exact ⟨b, rfl⟩
theorem Of.bool2 {c : List PV} (h : Of Γ .bool c) : ∃ b, c = [.bool b] ∧ True := by
 obtain ⟨b, hb⟩ := h.Q1oa
 exact ⟨b, hb, trivial⟩
theorem Of.int1 {k : IntKind} {c : List PV} (h : Of Γ (.int k) c) : ∃ n, c = [.int k n] ∧ okI k n := by
 cases h with
 | int _ n h => exact ⟨n, rfl, h⟩
theorem Of.i64 {c : List PV} (h : Of Γ (.int .i64) c) : ∃ n, c = [.int .i64 n] ∧ Qdt n := by
 obtain ⟨n, h1, h2⟩ := h.int1
 exact ⟨n, h1, h2.i64⟩
theorem Of.u8 {c : List PV} (h : Of Γ (.int .u8) c) : ∃ n, c = [.int .u8 n] ∧ okU8 n := by
 obtain ⟨n, h1, h2⟩ := h.int1
 exact ⟨n, h1, h2.u8⟩
theorem Of.st1 {fs : List Ty} {c : List PV} (h : Of Γ (.st fs) c) : OfL Γ fs c := by
 cases h with
 | st _ _ h => exact h
theorem Q8k {α : Type} {f : α → List PV} {ok : α → Prop} : ∀ (l : List (List PV)), (∀ r ∈ l, ∃ x, r = f x ∧ ok x) → ∃ xs : List α, l = xs.map f ∧ ∀ x ∈ xs, ok x
  | [], _ => ⟨[], rfl, fun _ h => absurd h List.not_mem_nil⟩
  | r :: rs, h => by
    obtain ⟨x, hx, hok⟩ := h r List.mem_cons_self
    obtain ⟨xs, hxs, hoks⟩ := Q8k rs (fun q hq => h q (List.mem_cons_of_mem _ hq))
    refine ⟨x :: xs, by rw [hx, hxs]; rfl, fun y hy => ?_⟩
    rcases List.mem_cons.1 hy with rfl | hy
    · exact hok
    · exact hoks y hy
theorem Of.sl1 {bytes : Nat} {e : Ty} {c : List PV} {α : Type} {f : α → List PV} {ok : α → Prop} (h : Of Γ (.sl bytes e) c) (he : ∀ r, Of Γ e r → ∃ x, r = f x ∧ ok x) : ∃ xs : List α, c = [.sl (xs.map f)] ∧ okL bytes ok xs := by
 cases h with
 | sl _ _ l h hl =>
  obtain ⟨xs, rfl, hok⟩ := Q8k l (fun r hr => he r (hl r hr))
  exact ⟨xs, rfl, by simpa using h, hok⟩
theorem Arg.one {ty : Ty} {p : PV} (h : Arg Γ ty p) (hs : ty.isSt Γ = false) : Of Γ ty [p] := by
 obtain ⟨c, hc, hp⟩ := h
 rw [hs] at hp
 have hp : c = [p] := hp
 subst hp
 exact hc
theorem Arg.agg {ty : Ty} {p : PV} (h : Arg Γ ty p) (hs : ty.isSt Γ = true) : ∃ c, p = .agg c ∧ Of Γ ty c := by
 obtain ⟨c, hc, hp⟩ := h
 rw [hs] at hp
 exact ⟨c, hp, hc⟩
end
end Go.Pv
end

section
/-
  Strings: equality and order.
-/
namespace Go.Pv
theorem Qzt (b : ByteArray) : ∀ (n i : Nat) (acc : List UInt8), b.size - i = n → ByteArray.toList.loop b i acc = acc.reverse ++ b.data.toList.drop i := by
 intro n
 induction n with
 | zero =>
  intro i acc h
  unfold ByteArray.toList.loop
  have h1 : ¬ i < b.size := by omega
  rw [if_neg h1]
  have : b.data.toList.drop i = [] := by
   rw [List.drop_eq_nil_iff]
   have : b.data.toList.length = b.size := Array.length_toList
   omega
  rw [this, List.append_nil]
 | succ n ih =>
  intro i acc h
  unfold ByteArray.toList.loop
  have h1 : i < b.size := by omega
  rw [if_pos h1, ih (i + 1) _ (by omega)]
  have hl : i < b.data.toList.length := by rw [show b.data.toList.length = b.size from Array.length_toList]; exact h1
  rw [List.drop_eq_getElem_cons hl, List.reverse_cons, List.append_assoc]
  congr 1
  simp only [List.singleton_append, List.cons.injEq, and_true]
  have : b.data.size = b.size := rfl
  simp [ByteArray.get!, h1, this]
theorem toList_data (b : ByteArray) : b.toList = b.data.toList := by
 unfold ByteArray.toList
 rw [Qzt b _ 0 [] rfl]
 simp
theorem toList_inj {a b : ByteArray} (h : a.toList = b.toList) : a = b := by
 rw [toList_data, toList_data] at h
 cases a
 cases b
 simp at h
 rw [h]
theorem Qiz {a b : ByteArray} : sEq a b = true ↔ a = b := by
 unfold sEq
 rw [beq_iff_eq]
 exact ⟨toList_inj, fun h => by rw [h]⟩
theorem Q7i (a : ByteArray) : sEq a a = true := Qiz.2 rfl
mutual
inductive Val where
 | mk (kind n : Int) (s : ByteArray) (list : List Val) (fields : List Fld)
inductive Fld where
 | mk (name : ByteArray) (v : Val)
end
def Val.kind : Val → Int
 | .mk k _ _ _ _ => k
def Val.n : Val → Int
 | .mk _ n _ _ _ => n
def Val.s : Val → ByteArray
 | .mk _ _ s _ _ => s
def Val.list : Val → List Val
 | .mk _ _ _ l _ => l
def Val.fields : Val → List Fld
 | .mk _ _ _ _ f => f
def Fld.name : Fld → ByteArray
 | .mk n _ => n
def Fld.v : Fld → Val
 | .mk _ v => v
mutual
def Val.cs : Val → List PV
 | .mk k n s l f => [.int .i64 k, .int .i64 n, .str s, .sl (Val.css l), .sl (Fld.css f)]
def Val.css : List Val → List (List PV)
 | [] => []
 | v :: r => v.cs :: Val.css r
def Fld.css : List Fld → List (List PV)
 | [] => []
 | f :: r => f.cs :: Fld.css r
def Fld.cs : Fld → List PV
 | .mk n v => .str n :: v.cs
end
def Val.rows (l : List Val) : List (List PV) := Val.css l
def Fld.rows (l : List Fld) : List (List PV) := Fld.css l
def Val.cells (v : Val) : List PV := [.int .i64 v.kind, .int .i64 v.n, .str v.s, .sl (Val.rows v.list), .sl (Fld.rows v.fields)]
def Fld.cells (f : Fld) : List PV := [.str f.name, .int .i64 f.v.kind, .int .i64 f.v.n, .str f.v.s, .sl (Val.rows f.v.list), .sl (Fld.rows f.v.fields)]
theorem Val.Q1hk (v : Val) : v.cs = v.cells := by cases v; rfl
theorem Fld.Q1hk (f : Fld) : f.cs = f.cells := by
 cases f with
 | mk n v => cases v; rfl
theorem Val.Q49 : Val.rows [] = [] := rfl
theorem Fld.Q49 : Fld.rows [] = [] := rfl
theorem Val.Q3e (v : Val) (l : List Val) : Val.rows (v :: l) = v.cells :: Val.rows l := by
 rw [← Val.Q1hk]
 rfl
theorem Fld.Q3e (v : Fld) (l : List Fld) : Fld.rows (v :: l) = v.cells :: Fld.rows l := by
 rw [← Fld.Q1hk]
 rfl
theorem Val.Q5x : ∀ l : List Val, Val.rows l = l.map Val.cells
 | [] => rfl
 | v :: r => by rw [Val.Q3e, Val.Q5x r]; rfl
theorem Fld.Q5x : ∀ l : List Fld, Fld.rows l = l.map Fld.cells
 | [] => rfl
 | v :: r => by rw [Fld.Q3e, Fld.Q5x r]; rfl
theorem Val.Q9 (l : List Val) : (Val.rows l).length = l.length := by simp [Val.Q5x]
theorem Fld.Q9 (l : List Fld) : (Fld.rows l).length = l.length := by simp [Fld.Q5x]
theorem Val.Qe {l : List Val} {i : Nat} {x : Val} (h : l[i]? = some x) : (Val.rows l)[i]? = some (Val.cells x) := by rw [Val.Q5x]; exact Go.Pv.Qe h
theorem Fld.Qe {l : List Fld} {i : Nat} {x : Fld} (h : l[i]? = some x) : (Fld.rows l)[i]? = some (Fld.cells x) := by rw [Fld.Q5x]; exact Go.Pv.Qe h
theorem Val.Q1n (l : List Val) (x : Val) : Val.rows (l ++ [x]) = Val.rows l ++ [Val.cells x] := by simp [Val.Q5x]
theorem Fld.Q1n (l : List Fld) (x : Fld) : Fld.rows (l ++ [x]) = Fld.rows l ++ [Fld.cells x] := by simp [Fld.Q5x]
theorem Val.Q16 (l : List Val) : ∀ r ∈ Val.rows l, r.length = 5 := by rw [Val.Q5x]; exact Q3h (f := Val.cells) (fun _ => rfl) l
theorem Fld.Q16 (l : List Fld) : ∀ r ∈ Fld.rows l, r.length = 6 := by rw [Fld.Q5x]; exact Q3h (f := Fld.cells) (fun _ => rfl) l
theorem Val.Qp (l : List Val) (sz : Nat) (h : sz = 5) : ViewOK sz (Val.rows l).flatten (Val.rows l) := by subst h; exact ⟨rfl, Val.Q16 l, by rw [Val.Q5x]; exact Q2z (f := Val.cells) (fun _ => rfl) l⟩
theorem Fld.Qp (l : List Fld) (sz : Nat) (h : sz = 6) : ViewOK sz (Fld.rows l).flatten (Fld.rows l) := by subst h; exact ⟨rfl, Fld.Q16 l, by rw [Fld.Q5x]; exact Q2z (f := Fld.cells) (fun _ => rfl) l⟩
theorem Val.Qn5 (v : Val) : SizeOf.sizeOf v.list < SizeOf.sizeOf v := by
 cases v with
 | mk k n s l f => simp only [Val.list, Val.mk.sizeOf_spec]; omega
theorem Val.Q94 (v : Val) : SizeOf.sizeOf v.fields < SizeOf.sizeOf v := by
 cases v with
 | mk k n s l f => simp only [Val.fields, Val.mk.sizeOf_spec]; omega
theorem Fld.lt_v (f : Fld) : SizeOf.sizeOf f.v < SizeOf.sizeOf f := by
 cases f with
 | mk n v => simp only [Fld.v, Fld.mk.sizeOf_spec]; omega
theorem szL {v x : Val} {i : Nat} (h : v.list[i]? = some x) : SizeOf.sizeOf x < SizeOf.sizeOf v :=
 Nat.lt_trans (List.sizeOf_lt_of_mem (Q13 h)) v.Qn5
theorem szF {v : Val} {x : Fld} {i : Nat} (h : v.fields[i]? = some x) : SizeOf.sizeOf x.v < SizeOf.sizeOf v :=
 Nat.lt_trans x.lt_v (Nat.lt_trans (List.sizeOf_lt_of_mem (Q13 h)) v.Q94)
inductive Val.Sm (B : Nat) : Val → Prop
  | mk (v : Val) (hl : v.list.length ≤ B) (hf : v.fields.length ≤ B) (sl : ∀ x ∈ v.list, Val.Sm B x) (sf : ∀ x ∈ v.fields, Val.Sm B x.v) : Val.Sm B v
theorem Val.Sm.all {B : Nat} {v : Val} (h : Val.Sm B v) : v.list.length ≤ B ∧ v.fields.length ≤ B ∧ (∀ x ∈ v.list, Val.Sm B x) ∧ (∀ x ∈ v.fields, Val.Sm B x.v) := by
 cases h with
 | mk _ h1 h2 h3 h4 => exact ⟨h1, h2, h3, h4⟩
theorem Val.Sm.mono {B C : Nat} (hb : B ≤ C) {v : Val} (h : Val.Sm B v) : Val.Sm C v := by
 induction h with
 | mk v h1 h2 _ _ i1 i2 => exact .mk v (by omega) (by omega) i1 i2
theorem Val.Sm.leaf {B : Nat} (k n : Int) (s : ByteArray) : Val.Sm B (.mk k n s [] []) := .mk _ (Nat.zero_le _) (Nat.zero_le _) (fun _ h => by cases h) (fun _ h => by cases h)
theorem Val.Sm.getD {B : Nat} {l : List Val} (h : ∀ x ∈ l, Val.Sm B x) (i : Nat) (k n : Int) (s : ByteArray) : Val.Sm B (l.getD i (.mk k n s [] [])) := by
  by_cases c : i < l.length
  · have := Q3q l i (.mk k n s [] []) c
    exact h _ (Q13 this)
  · rw [List.getD_eq_getElem?_getD, List.getElem?_eq_none (by omega)]
    exact .leaf k n s
inductive Q6c : Val → Prop
  | mk (v : Val) (h1 : Qdt v.kind) (h2 : Qdt v.n) (h3 : okS v.s) (hl : v.list.length * 80 ≤ 140737488351232) (hf : v.fields.length * 96 ≤ 140737488351232) (sl : ∀ x ∈ v.list, Q6c x) (sn : ∀ x ∈ v.fields, okS x.name) (sf : ∀ x ∈ v.fields, Q6c x.v) : Q6c v
def Q1ie (f : Fld) : Prop := okS f.name ∧ Q6c f.v
theorem Q6c.all {v : Val} (h : Q6c v) : Qdt v.kind ∧ Qdt v.n ∧ okS v.s ∧ v.list.length * 80 ≤ 140737488351232 ∧ v.fields.length * 96 ≤ 140737488351232 ∧ (∀ x ∈ v.list, Q6c x) ∧ (∀ x ∈ v.fields, okS x.name ∧ Q6c x.v) := by
 cases h with
 | mk _ a b c d e f n g => exact ⟨a, b, c, d, e, f, fun x hx => ⟨n x hx, g x hx⟩⟩
theorem Q6c.sm {v : Val} (h : Q6c v) : Val.Sm 4611686018427387904 v := by
 induction h with
 | mk v _ _ _ hl hf _ _ _ i1 i2 => exact .mk v (by omega) (by omega) i1 i2
def Qa0 (t : Nat) : Ty := .st [.int .i64, .int .i64, .str, .sl 80 (.nm t), .sl 96 (.st [.str, .nm t])]
theorem Qms {Γ : Nat → Option Ty} {t : Nat} (hΓ : Γ t = some (Qa0 t)) : ∀ (k : Nat) (c : List PV), SizeOf.sizeOf c < k → Of Γ (.nm t) c → ∃ v : Val, c = v.cells ∧ Q6c v
 | 0, _, h, _ => absurd h (Nat.not_lt_zero _)
 | k + 1, c, hk, h => by
  have hb : Of Γ (Qa0 t) c := by
   cases h with
   | nm _ ty _ hg h =>
    rw [hΓ] at hg
    injection hg with hg
    subst hg
    exact h
  have g0 := hb.st1
  obtain ⟨a0, b0, rfl, h0, g1⟩ := g0.Q3a
  obtain ⟨x0, rfl, k0⟩ := h0.i64
  obtain ⟨a1, b1, rfl, h1, g2⟩ := g1.Q3a
  obtain ⟨x1, rfl, k1⟩ := h1.i64
  obtain ⟨a2, b2, rfl, h2, g3⟩ := g2.Q3a
  obtain ⟨x2, rfl, k2⟩ := h2.str1
  obtain ⟨a3, b3, rfl, h3, g4⟩ := g3.Q3a
  obtain ⟨a4, b4, rfl, h4, g5⟩ := g4.Q3a
  have e := g5.empty
  subst e
  cases h3 with
  | sl _ _ l3 hl3 hr3 =>
  cases h4 with
  | sl _ _ l4 hl4 hr4 =>
  have s3 : SizeOf.sizeOf l3 < k := by simp at hk; omega
  have s4 : SizeOf.sizeOf l4 < k := by simp at hk; omega
  obtain ⟨x3, rfl, k3⟩ := Q8k (f := Val.cells) (ok := Q6c) l3 (fun r hr' => Qms hΓ k r (by have := List.sizeOf_lt_of_mem hr'; omega) (hr3 r hr'))
  obtain ⟨x4, rfl, k4⟩ := Q8k (f := Fld.cells) (ok := Q1ie) l4 (fun r hr' => by
   have q0 := (hr4 r hr').st1
   obtain ⟨c0, d0, rfl, i0, q1⟩ := q0.Q3a
   obtain ⟨y0, rfl, m0⟩ := i0.str1
   obtain ⟨c1, d1, rfl, i1, q2⟩ := q1.Q3a
   have e := q2.empty
   subst e
   obtain ⟨y1, rfl, m1⟩ := Qms hΓ k c1 (by have := List.sizeOf_lt_of_mem hr'; simp at this; omega) i1
   exact ⟨.mk y0 y1, by simp [Fld.cells, Val.cells, Fld.name, Fld.v], m0, m1⟩)
  rw [List.length_map] at hl3 hl4
  refine ⟨.mk x0 x1 x2 x3 x4, ?_, .mk _ k0 k1 k2 hl3 hl4 k3 (fun x hx => (k4 x hx).1) (fun x hx => (k4 x hx).2)⟩
  simp [Val.cells, Val.kind, Val.n, Val.s, Val.list, Val.fields, Val.Q5x, Fld.Q5x]
theorem Q115 {Γ : Nat → Option Ty} {t : Nat} (hΓ : Γ t = some (Qa0 t)) {c : List PV} (h : Of Γ (.nm t) c) : ∃ v : Val, c = v.cells ∧ Q6c v := Qms hΓ _ c (Nat.lt_succ_self _) h
theorem Qe0 {α : Type} [SizeOf α] (x : α) (r : List α) : SizeOf.sizeOf x < SizeOf.sizeOf (x :: r) := by
 simp only [List.cons.sizeOf_spec]
 omega
theorem Qdm {α : Type} [SizeOf α] (x : α) (r : List α) : SizeOf.sizeOf r < SizeOf.sizeOf (x :: r) := by
 simp only [List.cons.sizeOf_spec]
 omega
theorem Qb9 (x : Fld) (r : List Fld) : SizeOf.sizeOf x.v < SizeOf.sizeOf (x :: r) := Nat.lt_trans x.lt_v (Qe0 x r)
def gam (t : Nat) : Nat → Option Ty := fun k => bif Nat.beq k t then some (Qa0 t) else none
theorem Q1f4 (t : Nat) : gam t t = some (Qa0 t) := by simp [gam]
theorem gam_tab {P : Program} {t : Nat} (h : Qat P (gam t) (Qa0 t) t = true) : TabOK P (gam t) := by
 intro k ty hk
 unfold gam at hk
 cases c : Nat.beq k t with
 | false => rw [c] at hk; cases hk
 | true =>
  rw [c] at hk
  simp only [cond_true, Option.some.injEq] at hk
  subst hk
  rw [Nat.eq_of_beq_eq_true c]
  exact ⟨rfl, h⟩
end Go.Pv
namespace Go.Pv
theorem Q8w {G : Nat → Option Fun} {e e' : En} {r : Rs} (h : Qi G e r) (he : e = e') : Qi G e' r := he ▸ h
end Go.Pv
end

section
/- Strings byte by byte; rows that are cloned. -/
namespace Go.Pv
theorem Qot : ∀ p, plain p = true → bare p = true := fun p h => by cases p <;> first | rfl | (cases h)
theorem Qax {G : Nat → Option Fun} {f sz bytes : Nat} (hG : G f = some (.ax (Qjc sz bytes))) {rows : List (List PV)} {n : Nat} (hn : rows.length = n) (hv : ViewOK sz rows.flatten rows) (hb : n * bytes ≤ 140737488355328) :
  Qi G (.call f [.sl rows] []) (.ret (.ms 0 sz 0 n) [⟨sz, 0, true, rows.flatten⟩]) := by
 refine ⟨1, ?_⟩
 subst hn
 simp only [runs, phi, hG, Qjc]
 have h1 : Q6z rows sz = true := Qy1 hv.size
 have h2 : rows.flatten.all bare = true := List.all_eq_true.2 fun p hp => Qot p (hv.all p hp)
 rw [h1, h2, Nat.ble_eq_true_of_le hb]
 rfl
theorem Q7p {G : Nat → Option Fun} {f sz bytes : Nat} (hG : G f = some (.ax (Qn3 sz bytes))) {rows : List (List PV)} {n : Nat} (hn : rows.length = n) (hv : ViewOK sz rows.flatten rows) (hb : n * bytes ≤ 140737488355328) :
  Qi G (.call f [.sl rows] []) (.ret (.sl rows) []) := by
 refine ⟨1, ?_⟩
 subst hn
 simp only [runs, phi, hG, Qn3]
 have h1 : Q6z rows sz = true := Qy1 hv.size
 have h2 : rows.flatten.all bare = true := List.all_eq_true.2 fun p hp => Qot p (hv.all p hp)
 rw [h1, h2, Nat.ble_eq_true_of_le hb]
 rfl
end Go.Pv
namespace Go.Pv
theorem szM {v x : Val} (h : x ∈ v.list) : SizeOf.sizeOf x < SizeOf.sizeOf v := Nat.lt_trans (List.sizeOf_lt_of_mem h) v.Qn5
theorem szN {v : Val} {x : Fld} (h : x ∈ v.fields) : SizeOf.sizeOf x.v < SizeOf.sizeOf v := Nat.lt_trans x.lt_v (Nat.lt_trans (List.sizeOf_lt_of_mem h) v.Q94)
end Go.Pv
end

section
/- Arrays of bools, asked at an index of a loop. -/
namespace Go.Pv
def aixE (n sz id o : Nat) (i : Int) : Option Eff := (opP (fun _ => .un) (.aaddr n sz (.c (.bx id o)) (.c (.int .i64 i)))).bind fun v => some ⟨v, [], []⟩
theorem Qqz (n sz id o i : Nat) (h : i < n) : aixE n sz id o (i : Int) = some (vE (.bx id (o + i * sz))) := by
 unfold aixE
 simp only [opP, Opd.ev, asNat]
 rw [show decide (0 ≤ (i : Int)) = true by simp]
 simp only [cond_true, Option.bind_some, Int.toNat_natCast]
 rw [show Nat.blt i n = true from Nat.ble_eq_true_of_le h]
 rfl
def aldE (id sz ro : Nat) (gr : Bool) (cells : List PV) (k : Nat) : Option Eff := Qb7 (look [(id, ⟨sz, ro, gr, cells⟩)]) 1 false (.bx id k)
theorem Qnm (id sz ro : Nat) (gr : Bool) (cells : List PV) (L : List Bool) (i : Nat) (x v : Bool) (hx : L[i]? = some x) (hv : x = v) (hc : cells = L.map PV.bool := by rfl) : aldE id sz ro gr cells (0 + i * 1) = some ⟨.bool v, [], [id]⟩ := by
 subst hc hv
 have hi := (List.getElem?_eq_some_iff.1 hx).1
 unfold aldE Qb7
 simp only [reads, look, Nat.beq_refl, cond_true, Option.bind_some, Nat.zero_add, Nat.mul_one, List.length_map]
 rw [Nat.ble_eq_true_of_le (show i + 1 ≤ L.length by omega)]
 simp only [cond_true, Option.bind_some]
 have e : ((L.map PV.bool).drop i).take 1 = [.bool x] := by
  rw [List.drop_eq_getElem_cons (by simpa using hi), List.take_succ_cons, List.take_zero, List.getElem_map]
  rw [List.getElem?_eq_getElem hi] at hx
  injection hx with hx
  rw [hx]
 rw [e]
 rfl
def gM (c : Bool) (v : PV) : Option Eff := bif (c == true) then some (vE v) else some ⟨.tup [], [], []⟩
theorem Q45 (c : Bool) (v : PV) : gM c v = some ⟨bif c then v else .tup [], [], []⟩ := by cases c <;> rfl
def gP (c p : Bool) : Option Eff := (some (bif c then (bif c then PV.bool p else .tup []) else .bool false)).bind fun v => some ⟨v, [], []⟩
theorem Q43 (c p : Bool) : gP c p = some (vE (.bool (c && p))) := by cases c <;> rfl
def zr (z : Nat → PV) (i : Nat) : Nat → List PV
 | 0 => []
 | k + 1 => z i :: zr z (i + 1) k
end Go.Pv
end

section
/-
  What a law is handed, where its bulk is bounded: nothing within is longer.
-/
namespace Go.Pv
open Go.RowKit
inductive Cap (N : Nat) : PV → Prop
  | bool (b : Bool) : Cap N (.bool b)
  | int (k : IntKind) (n : Int) : Cap N (.int k n)
  | str (s : ByteArray) (h : s.size ≤ N) : Cap N (.str s)
  | sl (l : List (List PV)) (h : l.length ≤ N) (hl : ∀ r ∈ l, ∀ p ∈ r, Cap N p) : Cap N (.sl l)
def CapL (N : Nat) (c : List PV) : Prop := ∀ p ∈ c, Cap N p
theorem CapL.one {N : Nat} {p : PV} (h : Cap N p) : CapL N [p] := fun q hq => by
 rw [List.mem_singleton] at hq
 subst hq
 exact h
inductive CapD {H : Type} (N : Nat) : DataW H → Prop
  | lit (l : Lit) (h : ∀ b, l = .string b → b.length ≤ N) : CapD N (.lit l)
  | agg (parts : List (DataW H)) (h : ∀ d ∈ parts, CapD N d) : CapD N (.agg parts)
  | slice (elems spare : List (DataW H)) (h : elems.length ≤ N) (hl : ∀ d ∈ elems, CapD N d) : CapD N (.slice elems spare)
  | nil : CapD N .nil
  | ptr (d : DataW H) : CapD N (.ptr d)
  | iface (t : String) (d : DataW H) : CapD N (.iface t d)
  | map (e : List (Lit × DataW H)) : CapD N (.map e)
  | held (h : H) : CapD N (.held h)
def ArgB (Γ : Nat → Option Ty) (N : Nat) (ty : Ty) (p : PV) : Prop := ∃ c, Of Γ ty c ∧ CapL N c ∧ (bif ty.isSt Γ then p = .agg c else c = [p])
section
variable {H : Type} {enc : TypeId × Value → H} {P : Program} {w : World} {base : Nat} {sp : Nat → Bool} {held : Bool} {Γ : Nat → Option Ty} {N : Nat}
end
theorem ArgB.one {Γ : Nat → Option Ty} {N : Nat} {ty : Ty} {p : PV} (h : ArgB Γ N ty p) (hs : ty.isSt Γ = false) : Of Γ ty [p] ∧ CapL N [p] := by
 obtain ⟨c, hc, hb, hp⟩ := h
 rw [hs] at hp
 have hp : c = [p] := hp
 subst hp
 exact ⟨hc, hb⟩
theorem ArgB.agg {Γ : Nat → Option Ty} {N : Nat} {ty : Ty} {p : PV} (h : ArgB Γ N ty p) (hs : ty.isSt Γ = true) : ∃ c, p = .agg c ∧ Of Γ ty c ∧ CapL N c := by
 obtain ⟨c, hc, hb, hp⟩ := h
 rw [hs] at hp
 exact ⟨c, hp, hc, hb⟩
end Go.Pv
end

