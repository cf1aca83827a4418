/- Texts of the claim, merged by a program; what the statement does not reach is left out. -/
import Derived.Test.YtiflaadeikaghaaGreatBPodcodecEncodes2
import Derived.Test.YtiflaadeikaghaaGreatProg
import Derived.KernelRfl

section
/- The seat's functions as the evaluator takes them; printed by a program, checked against the given ones in YtiflaadeikaghaaGreatTie. -/
namespace Go.Proofs.YtiflaadeikaghaaGreat.Ir
open Go.Pv
def o (d : Nat) (op : IOp) : IOper := ⟨some d, none, op, []⟩
def ob (d : Nat) (op : IOp) (b : List Nat) : IOper := ⟨some d, none, op, b⟩
def rg1 (a : Nat) : Nat → List Nat
  | 0 => []
  | n + 1 => a :: rg1 (a + 1) n
def rg (a b : Nat) : List Nat := rg1 a (b - a)
def K1_c : IR :=
  .seq (.reg [o 1 (.box 23 (.t 0)),
    o 2 (.mov (.c (.bool false)))] false)
  (.seq (.seq (.reg [o 15 (.faddr 0 (.t 1)),
      o 16 (.load 13 true (.t 15)),
      o 17 (.call false (.f 8) [.t 16]),
      o 18 (.un .not (.t 17)),
      o 19 (.mov (.t 18)),
      ⟨(some 20), (some (19, false)), .faddr 13 (.t 1), []⟩,
      ⟨(some 21), (some (19, false)), .load 5 true (.t 20), []⟩,
      ⟨(some 22), (some (19, false)), .call false (.f 9) [.t 21, .c (.int .i64 20000)], []⟩,
      ⟨(some 23), (some (19, false)), .un .not (.t 22), []⟩,
      o 24 (.pick (.t 19) (.c (.bool true)) (.t 23)),
      o 25 (.mov (.t 24)),
      ⟨(some 26), (some (25, false)), .faddr 18 (.t 1), []⟩,
      ⟨(some 27), (some (25, false)), .load 5 true (.t 26), []⟩,
      ⟨(some 28), (some (25, false)), .call false (.f 9) [.t 27, .c (.int .i64 20000)], []⟩,
      ⟨(some 29), (some (25, false)), .un .not (.t 28), []⟩,
      o 30 (.pick (.t 25) (.c (.bool true)) (.t 29))] false)
    (.cond (.t 30) (.seq (.reg [o 31 (.call false (.f 10) []),
        o 2 (.mov (.t 31))] false)
      (.ret))
      (.skip)))
  (.seq (.reg [o 33 (.load 23 true (.t 1)),
    o 34 (.call false (.f 11) [.t 33]),
    o 32 (.mov (.t 34)),
    o 35 (.extract (.t 32) 0),
    o 36 (.extract (.t 32) 1),
    o 3 (.zero [.str ⟨#[]⟩, .str ⟨#[]⟩, .str ⟨#[]⟩, .int .i64 0, .int .i64 0, .int .i64 0, .int .i64 0, .bool false, .int .i64 0, .ns 2, .ns 5, .ns 1, .ns 2, .str ⟨#[]⟩, .int .i64 0, .int .i64 0, .int .i64 0, .ns 11, .ns 3, .ns 3, .ns 5, .ns 4, .ns 5, .int .i64 0, .bool false, .int .i64 0, .int .i64 0, .int .i64 0, .ns 7, .int .i64 0, .str ⟨#[]⟩, .str ⟨#[]⟩]),
    ⟨none, none, .store 32 (.t 3) (.t 35), []⟩,
    o 4 (.mov (.t 36))] false)
  (.seq (.reg [o 38 (.load 23 true (.t 1)),
    o 39 (.call false (.f 12) [.t 38]),
    o 37 (.mov (.t 39)),
    o 40 (.extract (.t 37) 0),
    o 41 (.extract (.t 37) 1),
    o 5 (.zero [.str ⟨#[]⟩, .str ⟨#[]⟩, .str ⟨#[]⟩, .int .i64 0, .int .i64 0, .int .i64 0, .int .i64 0, .bool false, .int .i64 0, .ns 2, .ns 5, .ns 1, .ns 2, .str ⟨#[]⟩, .int .i64 0, .int .i64 0, .int .i64 0, .ns 11, .ns 3, .ns 3, .ns 5, .ns 4, .ns 5, .int .i64 0, .bool false, .int .i64 0, .int .i64 0, .int .i64 0, .ns 7, .int .i64 0, .str ⟨#[]⟩, .str ⟨#[]⟩]),
    ⟨none, none, .store 32 (.t 5) (.t 40), []⟩,
    o 6 (.mov (.t 41))] false)
  (.seq (.reg [o 43 (.load 23 true (.t 1)),
    o 44 (.call false (.f 13) [.t 43]),
    o 42 (.mov (.t 44)),
    o 45 (.extract (.t 42) 0),
    o 46 (.extract (.t 42) 1),
    o 7 (.zero [.str ⟨#[]⟩, .str ⟨#[]⟩, .str ⟨#[]⟩, .int .i64 0, .int .i64 0, .int .i64 0, .int .i64 0, .bool false, .int .i64 0, .ns 2, .ns 5, .ns 1, .ns 2, .int .i64 0, .int .i64 0, .int .i64 0, .int .i64 0, .bool false, .ns 4, .bool false, .int .i64 0, .bool false, .bool false, .ns 3]),
    ⟨none, none, .store 24 (.t 7) (.t 45), []⟩,
    o 8 (.mov (.t 46))] false)
  (.seq (.reg [o 48 (.load 23 true (.t 1)),
    o 49 (.call false (.f 14) [.t 48]),
    o 47 (.mov (.t 49)),
    o 50 (.extract (.t 47) 0),
    o 51 (.extract (.t 47) 1),
    o 9 (.zero [.str ⟨#[]⟩, .str ⟨#[]⟩, .str ⟨#[]⟩, .int .i64 0, .int .i64 0, .int .i64 0, .int .i64 0, .bool false, .int .i64 0, .ns 2, .ns 5, .ns 1, .ns 2, .int .i64 0, .int .i64 0, .int .i64 0, .int .i64 0, .bool false, .ns 4, .bool false, .int .i64 0, .bool false, .bool false, .ns 3]),
    ⟨none, none, .store 24 (.t 9) (.t 50), []⟩,
    o 10 (.mov (.t 51))] false)
  (.seq (.reg [o 53 (.faddr 13 (.t 1)),
    o 54 (.load 5 true (.t 53)),
    o 55 (.call false (.f 15) [.t 54]),
    o 52 (.mov (.t 55)),
    o 56 (.extract (.t 52) 0),
    o 57 (.extract (.t 52) 1),
    o 11 (.zero [.ns 2, .str ⟨#[]⟩, .int .i64 0, .int .i64 0, .int .i64 0, .ns 11, .ns 3, .ns 3, .ns 5, .ns 4, .ns 5]),
    ⟨none, none, .store 11 (.t 11) (.t 56), []⟩,
    o 12 (.mov (.t 57))] false)
  (.seq (.reg [o 59 (.faddr 13 (.t 1)),
    o 60 (.load 5 true (.t 59)),
    o 61 (.call false (.f 16) [.t 60]),
    o 58 (.mov (.t 61)),
    o 62 (.extract (.t 58) 0),
    o 63 (.extract (.t 58) 1),
    o 13 (.zero [.ns 2, .str ⟨#[]⟩, .int .i64 0, .int .i64 0, .int .i64 0, .ns 11, .ns 3, .ns 3, .ns 5, .ns 4, .ns 5]),
    ⟨none, none, .store 11 (.t 13) (.t 62), []⟩,
    o 14 (.mov (.t 63))] false)
  (.seq (.reg [o 64 (.mov (.t 4)),
    o 65 (.mov (.t 6)),
    o 66 (.bin .eql (.t 64) (.t 65)),
    o 67 (.mov (.t 66)),
    ⟨(some 68), (some (67, true)), .mov (.t 8), []⟩,
    ⟨(some 69), (some (67, true)), .mov (.t 10), []⟩,
    ⟨(some 70), (some (67, true)), .bin .eql (.t 68) (.t 69), []⟩,
    o 71 (.pick (.t 67) (.t 70) (.c (.bool false))),
    o 72 (.mov (.t 71)),
    ⟨(some 73), (some (72, true)), .mov (.t 12), []⟩,
    ⟨(some 74), (some (72, true)), .mov (.t 14), []⟩,
    ⟨(some 75), (some (72, true)), .bin .eql (.t 73) (.t 74), []⟩,
    o 76 (.pick (.t 72) (.t 75) (.c (.bool false))),
    o 77 (.mov (.t 76)),
    ⟨(some 78), (some (77, true)), .load 32 true (.t 3), []⟩,
    ⟨(some 79), (some (77, true)), .load 32 true (.t 5), []⟩,
    ⟨(some 80), (some (77, true)), .call false (.f 17) [.t 78, .t 79], []⟩,
    o 81 (.pick (.t 77) (.t 80) (.c (.bool false))),
    o 82 (.mov (.t 81)),
    ⟨(some 83), (some (82, true)), .load 24 true (.t 7), []⟩,
    ⟨(some 84), (some (82, true)), .load 24 true (.t 9), []⟩,
    ⟨(some 85), (some (82, true)), .call false (.f 18) [.t 83, .t 84], []⟩,
    o 86 (.pick (.t 82) (.t 85) (.c (.bool false))),
    o 87 (.mov (.t 86)),
    ⟨(some 88), (some (87, true)), .load 11 true (.t 11), []⟩,
    ⟨(some 89), (some (87, true)), .load 11 true (.t 13), []⟩,
    ⟨(some 90), (some (87, true)), .call false (.f 19) [.t 88, .t 89], []⟩,
    o 91 (.pick (.t 87) (.t 90) (.c (.bool false))),
    o 92 (.mov (.t 91)),
    ⟨(some 93), (some (92, true)), .call false (.f 10) [], []⟩,
    o 94 (.pick (.t 92) (.t 93) (.c (.bool false))),
    o 2 (.mov (.t 94))] false)
  (.ret)))))))))
def K1 : IFn := ⟨1, 95, [.tmp 2], false, K1_c⟩
def Q14j : List Nat := [100001, 5, 6, 14, 100, 101, 102]
def Q1hx : IR :=
  .seq (.reg [o 103 (.bin .lss (.t 102) (.t 101))] false)
    (.seq (.cond (.t 103) (.skip)
        (.exit 0))
    (.seq (.block 1 (.seq (.reg [o 104 (.mov (.t 102)),
          o 105 (.iaddr 6 (.t 100) (.t 102)),
          o 106 (.load 6 true (.t 105)),
          o 16 (.zero [.str ⟨#[]⟩, .int .i64 0, .int .i64 0, .str ⟨#[]⟩, .ns 5, .ns 6]),
          o 15 (.mov (.t 104)),
          ⟨none, none, .store 6 (.t 16) (.t 106), []⟩] false)
        (.seq (.reg [o 107 (.faddr 13 (.t 5)),
          o 108 (.faddr 4 (.t 107)),
          o 109 (.load 1 false (.t 108)),
          o 110 (.mov (.t 15)),
          o 111 (.iaddr 6 (.t 109) (.t 110)),
          o 112 (.load 6 true (.t 111)),
          o 17 (.zero [.str ⟨#[]⟩, .int .i64 0, .int .i64 0, .str ⟨#[]⟩, .ns 5, .ns 6]),
          ⟨none, none, .store 6 (.t 17) (.t 112), []⟩] false)
        (.seq (.seq (.reg [o 113 (.mov (.t 15)),
            o 114 (.mov (.t 6)),
            o 115 (.bin .eql (.t 113) (.t 114))] false)
          (.cond (.t 115) (.reg [o 116 (.faddr 13 (.t 14)),
            o 117 (.faddr 4 (.t 116)),
            o 118 (.load 1 false (.t 117)),
            o 119 (.mov (.t 15)),
            o 120 (.iaddr 6 (.t 118) (.t 119)),
            o 121 (.load 6 true (.t 120)),
            ⟨none, none, .store 6 (.t 17) (.t 121), []⟩] false)
            (.skip)))
        (.seq (.reg [o 122 (.faddr 0 (.t 16)),
          o 123 (.load 1 false (.t 122)),
          o 124 (.faddr 0 (.t 17)),
          o 125 (.load 1 false (.t 124)),
          o 126 (.bin .neq (.t 123) (.t 125)),
          o 127 (.mov (.t 126)),
          ⟨(some 128), (some (127, false)), .faddr 1 (.t 16), []⟩,
          ⟨(some 129), (some (127, false)), .load 5 true (.t 128), []⟩,
          ⟨(some 130), (some (127, false)), .faddr 1 (.t 17), []⟩,
          ⟨(some 131), (some (127, false)), .load 5 true (.t 130), []⟩,
          ⟨(some 132), (some (127, false)), .call false (.f 23) [.t 129, .t 131], []⟩,
          ⟨(some 133), (some (127, false)), .un .not (.t 132), []⟩,
          o 134 (.pick (.t 127) (.c (.bool true)) (.t 133))] false)
        (.cond (.t 134) (.seq (.reg [o 4 (.mov (.c (.bool false)))] false)
          (.ret))
          (.skip)))))))
    (.reg [o 135 (.bin .add (.t 102) (.c (.int .i64 1))),
    o 102 (.mov (.t 135))] false)))
def K3_c : IR :=
  .seq (.reg [o 2 (.box 32 (.t 0)),
    o 4 (.mov (.c (.bool false)))] false)
  (.seq (.seq (.reg [o 18 (.load 32 true (.t 2)),
      o 19 (.call false (.f 20) [.t 18]),
      o 20 (.un .not (.t 19))] false)
    (.cond (.t 20) (.seq (.reg [o 21 (.call false (.f 10) []),
        o 4 (.mov (.t 21))] false)
      (.ret))
      (.skip)))
  (.seq (.reg [o 22 (.load 32 true (.t 2)),
    o 23 (.call false (.f 21) [.t 22]),
    o 5 (.zero [.str ⟨#[]⟩, .str ⟨#[]⟩, .str ⟨#[]⟩, .int .i64 0, .int .i64 0, .int .i64 0, .int .i64 0, .bool false, .int .i64 0, .ns 2, .ns 5, .ns 1, .ns 2, .int .i64 0, .int .i64 0, .str ⟨#[]⟩, .ns 5, .ns 6, .int .i64 0, .int .i64 0, .str ⟨#[]⟩, .ns 5, .ns 6]),
    ⟨none, none, .store 23 (.t 5) (.t 23), []⟩] false)
  (.seq (.seq (.reg [o 24 (.faddr 13 (.t 5)),
      o 25 (.faddr 4 (.t 24)),
      o 26 (.load 1 false (.t 25)),
      o 27 (.len false (.t 26)),
      o 28 (.bin .neq (.t 27) (.c (.int .i64 10))),
      o 29 (.mov (.t 28)),
      ⟨(some 30), (some (29, false)), .faddr 18 (.t 5), []⟩,
      ⟨(some 31), (some (29, false)), .faddr 4 (.t 30), []⟩,
      ⟨(some 32), (some (29, false)), .load 1 false (.t 31), []⟩,
      ⟨(some 33), (some (29, false)), .len false (.t 32), []⟩,
      ⟨(some 34), (some (29, false)), .bin .neq (.t 33) (.c (.int .i64 9)), []⟩,
      o 35 (.pick (.t 29) (.c (.bool true)) (.t 34))] false)
    (.cond (.t 35) (.seq (.reg [o 4 (.mov (.c (.bool false)))] false)
      (.ret))
      (.skip)))
  (.seq (.reg [o 36 (.mov (.t 1)),
    o 37 (.conv .i64 (.t 36)),
    o 38 (.bin .rem (.t 37) (.c (.int .i64 10))),
    o 6 (.mov (.t 38))] false)
  (.seq (.reg [o 39 (.load 23 true (.t 5)),
    o 7 (.zero [.str ⟨#[]⟩, .str ⟨#[]⟩, .str ⟨#[]⟩, .int .i64 0, .int .i64 0, .int .i64 0, .int .i64 0, .bool false, .int .i64 0, .ns 2, .ns 5, .ns 1, .ns 2, .int .i64 0, .int .i64 0, .str ⟨#[]⟩, .ns 5, .ns 6, .int .i64 0, .int .i64 0, .str ⟨#[]⟩, .ns 5, .ns 6]),
    ⟨none, none, .store 23 (.t 7) (.t 39), []⟩] false)
  (.seq (.reg [o 40 (.faddr 13 (.t 5)),
    o 41 (.load 5 true (.t 40)),
    o 42 (.mov (.t 6)),
    o 43 (.call false (.f 22) [.t 41, .t 42]),
    o 44 (.faddr 13 (.t 7)),
    ⟨none, none, .store 5 (.t 44) (.t 43), []⟩] false)
  (.seq (.reg [o 45 (.load 23 true (.t 5)),
    o 8 (.zero [.str ⟨#[]⟩, .str ⟨#[]⟩, .str ⟨#[]⟩, .int .i64 0, .int .i64 0, .int .i64 0, .int .i64 0, .bool false, .int .i64 0, .ns 2, .ns 5, .ns 1, .ns 2, .int .i64 0, .int .i64 0, .str ⟨#[]⟩, .ns 5, .ns 6, .int .i64 0, .int .i64 0, .str ⟨#[]⟩, .ns 5, .ns 6]),
    ⟨none, none, .store 23 (.t 8) (.t 45), []⟩] false)
  (.seq (.reg [o 46 (.lit 6 0 [.str ⟨#[]⟩, .int .i64 0, .int .i64 0, .str ⟨#[]⟩, .ns 5, .ns 6] []),
    o 47 (.faddr 13 (.t 5)),
    o 48 (.faddr 4 (.t 47)),
    o 49 (.load 1 false (.t 48)),
    o 50 (.append 6 96 (.t 46) (.t 49)),
    o 51 (.faddr 13 (.t 8)),
    o 52 (.faddr 4 (.t 51)),
    ⟨none, none, .store 1 (.t 52) (.t 50), []⟩] false)
  (.seq (.reg [o 53 (.faddr 13 (.t 8)),
    o 54 (.faddr 4 (.t 53)),
    o 55 (.load 1 false (.t 54)),
    o 56 (.mov (.t 6)),
    o 57 (.build [.int .i64 0, .int .i64 0, .str ⟨#[]⟩, .ns 5, .ns 6] []),
    o 58 (.iaddr 6 (.t 55) (.t 56)),
    o 59 (.faddr 1 (.t 58)),
    ⟨none, none, .store 5 (.t 59) (.t 57), []⟩] false)
  (.seq (.reg [o 61 (.load 23 true (.t 7)),
    o 62 (.call false (.f 11) [.t 61]),
    o 60 (.mov (.t 62)),
    o 63 (.extract (.t 60) 0),
    o 64 (.extract (.t 60) 1),
    o 9 (.zero [.str ⟨#[]⟩, .str ⟨#[]⟩, .str ⟨#[]⟩, .int .i64 0, .int .i64 0, .int .i64 0, .int .i64 0, .bool false, .int .i64 0, .ns 2, .ns 5, .ns 1, .ns 2, .str ⟨#[]⟩, .int .i64 0, .int .i64 0, .int .i64 0, .ns 11, .ns 3, .ns 3, .ns 5, .ns 4, .ns 5, .int .i64 0, .bool false, .int .i64 0, .int .i64 0, .int .i64 0, .ns 7, .int .i64 0, .str ⟨#[]⟩, .str ⟨#[]⟩]),
    ⟨none, none, .store 32 (.t 9) (.t 63), []⟩,
    o 10 (.mov (.t 64))] false)
  (.seq (.reg [o 66 (.load 23 true (.t 8)),
    o 67 (.call false (.f 11) [.t 66]),
    o 65 (.mov (.t 67)),
    o 68 (.extract (.t 65) 0),
    o 69 (.extract (.t 65) 1),
    o 11 (.zero [.str ⟨#[]⟩, .str ⟨#[]⟩, .str ⟨#[]⟩, .int .i64 0, .int .i64 0, .int .i64 0, .int .i64 0, .bool false, .int .i64 0, .ns 2, .ns 5, .ns 1, .ns 2, .str ⟨#[]⟩, .int .i64 0, .int .i64 0, .int .i64 0, .ns 11, .ns 3, .ns 3, .ns 5, .ns 4, .ns 5, .int .i64 0, .bool false, .int .i64 0, .int .i64 0, .int .i64 0, .ns 7, .int .i64 0, .str ⟨#[]⟩, .str ⟨#[]⟩]),
    ⟨none, none, .store 32 (.t 11) (.t 68), []⟩,
    o 12 (.mov (.t 69))] false)
  (.seq (.seq (.reg [o 70 (.mov (.t 10)),
      o 71 (.bin .neq (.t 70) (.c (.int .i64 0))),
      o 72 (.mov (.t 71)),
      ⟨(some 73), (some (72, false)), .mov (.t 12), []⟩,
      ⟨(some 74), (some (72, false)), .bin .neq (.t 73) (.c (.int .i64 0)), []⟩,
      o 75 (.pick (.t 72) (.c (.bool true)) (.t 74)),
      o 76 (.mov (.t 75)),
      ⟨(some 77), (some (76, false)), .load 32 true (.t 9), []⟩,
      ⟨(some 78), (some (76, false)), .load 32 true (.t 11), []⟩,
      ⟨(some 79), (some (76, false)), .call false (.f 17) [.t 77, .t 78], []⟩,
      ⟨(some 80), (some (76, false)), .un .not (.t 79), []⟩,
      o 81 (.pick (.t 76) (.c (.bool true)) (.t 80))] false)
    (.cond (.t 81) (.seq (.reg [o 4 (.mov (.c (.bool false)))] false)
      (.ret))
      (.skip)))
  (.seq (.reg [o 82 (.load 32 true (.t 9)),
    o 83 (.call false (.f 21) [.t 82]),
    o 13 (.zero [.str ⟨#[]⟩, .str ⟨#[]⟩, .str ⟨#[]⟩, .int .i64 0, .int .i64 0, .int .i64 0, .int .i64 0, .bool false, .int .i64 0, .ns 2, .ns 5, .ns 1, .ns 2, .int .i64 0, .int .i64 0, .str ⟨#[]⟩, .ns 5, .ns 6, .int .i64 0, .int .i64 0, .str ⟨#[]⟩, .ns 5, .ns 6]),
    ⟨none, none, .store 23 (.t 13) (.t 83), []⟩] false)
  (.seq (.reg [o 84 (.build [.str ⟨#[]⟩, .str ⟨#[]⟩, .str ⟨#[]⟩, .int .i64 0, .int .i64 0, .int .i64 0, .int .i64 0, .bool false, .int .i64 0, .ns 2, .ns 5, .ns 1, .ns 2, .str ⟨#[]⟩, .int .i64 0, .int .i64 0, .int .i64 0, .ns 11, .ns 3, .ns 3, .ns 5, .ns 4, .ns 5, .int .i64 0, .bool false, .int .i64 0, .int .i64 0, .int .i64 0, .ns 7, .int .i64 0, .str ⟨#[]⟩, .str ⟨#[]⟩] []),
    o 85 (.call false (.f 21) [.t 84]),
    o 14 (.zero [.str ⟨#[]⟩, .str ⟨#[]⟩, .str ⟨#[]⟩, .int .i64 0, .int .i64 0, .int .i64 0, .int .i64 0, .bool false, .int .i64 0, .ns 2, .ns 5, .ns 1, .ns 2, .int .i64 0, .int .i64 0, .str ⟨#[]⟩, .ns 5, .ns 6, .int .i64 0, .int .i64 0, .str ⟨#[]⟩, .ns 5, .ns 6]),
    ⟨none, none, .store 23 (.t 14) (.t 85), []⟩] false)
  (.seq (.seq (.reg [o 86 (.faddr 13 (.t 13)),
      o 87 (.faddr 4 (.t 86)),
      o 88 (.load 1 false (.t 87)),
      o 89 (.len false (.t 88)),
      o 90 (.bin .neq (.t 89) (.c (.int .i64 10))),
      o 91 (.mov (.t 90)),
      ⟨(some 92), (some (91, false)), .faddr 13 (.t 14), []⟩,
      ⟨(some 93), (some (91, false)), .faddr 4 (.t 92), []⟩,
      ⟨(some 94), (some (91, false)), .load 1 false (.t 93), []⟩,
      ⟨(some 95), (some (91, false)), .len false (.t 94), []⟩,
      ⟨(some 96), (some (91, false)), .bin .neq (.t 95) (.c (.int .i64 10)), []⟩,
      o 97 (.pick (.t 91) (.c (.bool true)) (.t 96))] false)
    (.cond (.t 97) (.seq (.reg [o 4 (.mov (.c (.bool false)))] false)
      (.ret))
      (.skip)))
  (.seq (.seq (.reg [o 98 (.faddr 13 (.t 13)),
      o 99 (.faddr 4 (.t 98)),
      o 100 (.load 1 false (.t 99)),
      o 101 (.len false (.t 100)),
      o 102 (.mov (.c (.int .i64 0)))] false)
    (.block 0 (.loop Q14j Q1hx)))
  (.seq (.reg [o 136 (.call false (.f 10) []),
    o 4 (.mov (.t 136))] false)
  (.ret))))))))))))))))))
def K3 : IFn := ⟨2, 137, [.tmp 4], false, K3_c⟩
def K4_c : IR :=
  .seq (.reg [o 4 (.box 32 (.t 0)),
    o 6 (.box 5 (.t 2)),
    o 8 (.mov (.c (.bool false)))] false)
  (.seq (.seq (.reg [o 16 (.load 32 true (.t 4)),
      o 17 (.call false (.f 20) [.t 16]),
      o 18 (.un .not (.t 17)),
      o 19 (.mov (.t 18)),
      ⟨(some 20), (some (19, false)), .load 5 true (.t 6), []⟩,
      ⟨(some 21), (some (19, false)), .call false (.f 9) [.t 20, .c (.int .i64 2000)], []⟩,
      ⟨(some 22), (some (19, false)), .un .not (.t 21), []⟩,
      o 23 (.pick (.t 19) (.c (.bool true)) (.t 22)),
      o 24 (.mov (.t 23)),
      ⟨(some 25), (some (24, false)), .mov (.t 3), []⟩,
      ⟨(some 26), (some (24, false)), .len true (.t 25), []⟩,
      ⟨(some 27), (some (24, false)), .bin .gtr (.t 26) (.c (.int .i64 100)), []⟩,
      o 28 (.pick (.t 24) (.c (.bool true)) (.t 27))] false)
    (.cond (.t 28) (.seq (.reg [o 29 (.call false (.f 10) []),
        o 8 (.mov (.t 29))] false)
      (.ret))
      (.skip)))
  (.seq (.reg [o 30 (.load 32 true (.t 4)),
    o 31 (.call false (.f 21) [.t 30]),
    o 9 (.zero [.str ⟨#[]⟩, .str ⟨#[]⟩, .str ⟨#[]⟩, .int .i64 0, .int .i64 0, .int .i64 0, .int .i64 0, .bool false, .int .i64 0, .ns 2, .ns 5, .ns 1, .ns 2, .int .i64 0, .int .i64 0, .str ⟨#[]⟩, .ns 5, .ns 6, .int .i64 0, .int .i64 0, .str ⟨#[]⟩, .ns 5, .ns 6]),
    ⟨none, none, .store 23 (.t 9) (.t 31), []⟩] false)
  (.seq (.seq (.reg [o 32 (.faddr 13 (.t 9)),
      o 33 (.faddr 4 (.t 32)),
      o 34 (.load 1 false (.t 33)),
      o 35 (.len false (.t 34)),
      o 36 (.bin .neq (.t 35) (.c (.int .i64 10)))] false)
    (.cond (.t 36) (.seq (.reg [o 8 (.mov (.c (.bool false)))] false)
      (.ret))
      (.skip)))
  (.seq (.reg [o 37 (.mov (.t 1)),
    o 38 (.conv .i64 (.t 37)),
    o 39 (.bin .rem (.t 38) (.c (.int .i64 10))),
    o 10 (.mov (.t 39))] false)
  (.seq (.seq (.reg [o 40 (.faddr 0 (.t 6)),
      ob 41 (.load 1 false (.t 40)) [0],
      ob 42 (.bin .neq (.t 41) (.c (.int .i64 0))) [0, 1],
      ob 43 (.mov (.t 42)) [0, 1, 2],
      ⟨(some 44), (some (43, true)), .faddr 0 (.t 6), [0, 1, 2, 3]⟩,
      ⟨(some 45), (some (43, true)), .load 1 false (.t 44), (rg 0 5)⟩,
      ⟨(some 46), (some (43, true)), .faddr 13 (.t 9), [0, 1, 2, 3]⟩,
      ⟨(some 47), (some (43, true)), .faddr 4 (.t 46), (rg 0 4 ++ [6])⟩,
      ⟨(some 48), (some (43, true)), .load 1 false (.t 47), (rg 0 4 ++ [6, 7])⟩,
      ⟨(some 49), (some (43, true)), .mov (.t 10), [0, 1, 2, 3]⟩,
      ⟨(some 50), (some (43, true)), .iaddr 6 (.t 48) (.t 49), (rg 0 4 ++ rg 6 10)⟩,
      ⟨(some 51), (some (43, true)), .faddr 1 (.t 50), (rg 0 4 ++ rg 6 11)⟩,
      ⟨(some 52), (some (43, true)), .faddr 0 (.t 51), (rg 0 4 ++ rg 6 12)⟩,
      ⟨(some 53), (some (43, true)), .load 1 false (.t 52), (rg 0 4 ++ rg 6 13)⟩,
      ⟨(some 54), (some (43, true)), .bin .neq (.t 45) (.t 53), (rg 0 14)⟩,
      ob 55 (.pick (.t 43) (.t 54) (.c (.bool false))) (rg 0 15)] true)
    (.cond (.t 55) (.seq (.reg [o 56 (.load 23 true (.t 9)),
        o 11 (.zero [.str ⟨#[]⟩, .str ⟨#[]⟩, .str ⟨#[]⟩, .int .i64 0, .int .i64 0, .int .i64 0, .int .i64 0, .bool false, .int .i64 0, .ns 2, .ns 5, .ns 1, .ns 2, .int .i64 0, .int .i64 0, .str ⟨#[]⟩, .ns 5, .ns 6, .int .i64 0, .int .i64 0, .str ⟨#[]⟩, .ns 5, .ns 6]),
        ⟨none, none, .store 23 (.t 11) (.t 56), []⟩] false)
      (.seq (.reg [o 57 (.lit 6 0 [.str ⟨#[]⟩, .int .i64 0, .int .i64 0, .str ⟨#[]⟩, .ns 5, .ns 6] []),
        o 58 (.faddr 13 (.t 9)),
        o 59 (.faddr 4 (.t 58)),
        o 60 (.load 1 false (.t 59)),
        o 61 (.append 6 96 (.t 57) (.t 60)),
        o 62 (.faddr 13 (.t 11)),
        o 63 (.faddr 4 (.t 62)),
        ⟨none, none, .store 1 (.t 63) (.t 61), []⟩] false)
      (.seq (.reg [o 64 (.faddr 13 (.t 11)),
        o 65 (.faddr 4 (.t 64)),
        o 66 (.load 1 false (.t 65)),
        o 67 (.mov (.t 10)),
        o 68 (.load 5 true (.t 6)),
        o 69 (.iaddr 6 (.t 66) (.t 67)),
        o 70 (.faddr 1 (.t 69)),
        ⟨none, none, .store 5 (.t 70) (.t 68), []⟩] false)
      (.seq (.reg [o 72 (.load 23 true (.t 11)),
        o 73 (.call false (.f 11) [.t 72]),
        o 71 (.mov (.t 73)),
        o 74 (.extract (.t 71) 0),
        o 75 (.extract (.t 71) 1),
        o 12 (.zero [.str ⟨#[]⟩, .str ⟨#[]⟩, .str ⟨#[]⟩, .int .i64 0, .int .i64 0, .int .i64 0, .int .i64 0, .bool false, .int .i64 0, .ns 2, .ns 5, .ns 1, .ns 2, .str ⟨#[]⟩, .int .i64 0, .int .i64 0, .int .i64 0, .ns 11, .ns 3, .ns 3, .ns 5, .ns 4, .ns 5, .int .i64 0, .bool false, .int .i64 0, .int .i64 0, .int .i64 0, .ns 7, .int .i64 0, .str ⟨#[]⟩, .str ⟨#[]⟩]),
        ⟨none, none, .store 32 (.t 12) (.t 74), []⟩,
        o 13 (.mov (.t 75))] false)
      (.seq (.reg [o 76 (.mov (.t 13)),
        o 77 (.bin .neq (.t 76) (.c (.int .i64 6))),
        o 78 (.mov (.t 77)),
        ⟨(some 79), (some (78, false)), .load 32 true (.t 12), []⟩,
        ⟨(some 80), (some (78, false)), .build [.str ⟨#[]⟩, .str ⟨#[]⟩, .str ⟨#[]⟩, .int .i64 0, .int .i64 0, .int .i64 0, .int .i64 0, .bool false, .int .i64 0, .ns 2, .ns 5, .ns 1, .ns 2, .str ⟨#[]⟩, .int .i64 0, .int .i64 0, .int .i64 0, .ns 11, .ns 3, .ns 3, .ns 5, .ns 4, .ns 5, .int .i64 0, .bool false, .int .i64 0, .int .i64 0, .int .i64 0, .ns 7, .int .i64 0, .str ⟨#[]⟩, .str ⟨#[]⟩] [], []⟩,
        ⟨(some 81), (some (78, false)), .call false (.f 17) [.t 79, .t 80], []⟩,
        ⟨(some 82), (some (78, false)), .un .not (.t 81), []⟩,
        o 83 (.pick (.t 78) (.c (.bool true)) (.t 82))] false)
      (.cond (.t 83) (.seq (.reg [o 8 (.mov (.c (.bool false)))] false)
        (.ret))
        (.skip)))))))
      (.skip)))
  (.seq (.seq (.reg [o 84 (.mov (.t 3)),
      o 85 (.bin .neq (.t 84) (.c (.str ⟨#[80, 111, 100]⟩)))] false)
    (.cond (.t 85) (.seq (.reg [o 86 (.mov (.t 3)),
        o 87 (.faddr 0 (.t 9)),
        o 88 (.faddr 0 (.t 87)),
        ⟨none, none, .store 1 (.t 88) (.t 86), []⟩] false)
      (.seq (.reg [o 90 (.load 23 true (.t 9)),
        o 91 (.call false (.f 11) [.t 90]),
        o 89 (.mov (.t 91)),
        o 92 (.extract (.t 89) 0),
        o 93 (.extract (.t 89) 1),
        o 14 (.zero [.str ⟨#[]⟩, .str ⟨#[]⟩, .str ⟨#[]⟩, .int .i64 0, .int .i64 0, .int .i64 0, .int .i64 0, .bool false, .int .i64 0, .ns 2, .ns 5, .ns 1, .ns 2, .str ⟨#[]⟩, .int .i64 0, .int .i64 0, .int .i64 0, .ns 11, .ns 3, .ns 3, .ns 5, .ns 4, .ns 5, .int .i64 0, .bool false, .int .i64 0, .int .i64 0, .int .i64 0, .ns 7, .int .i64 0, .str ⟨#[]⟩, .str ⟨#[]⟩]),
        ⟨none, none, .store 32 (.t 14) (.t 92), []⟩,
        o 15 (.mov (.t 93))] false)
      (.seq (.reg [o 94 (.mov (.t 15)),
        o 95 (.bin .neq (.t 94) (.c (.int .i64 6)))] false)
      (.cond (.t 95) (.seq (.reg [o 8 (.mov (.c (.bool false)))] false)
        (.ret))
        (.skip)))))
      (.skip)))
  (.seq (.reg [o 96 (.call false (.f 10) []),
    o 8 (.mov (.t 96))] false)
  (.ret))))))))
def K4 : IFn := ⟨4, 97, [.tmp 8], false, K4_c⟩
def K2_c : IR :=
  .seq (.reg [o 2 (.box 32 (.t 0)),
    o 3 (.box 24 (.t 1)),
    o 4 (.mov (.c (.bool false)))] false)
  (.seq (.seq (.reg [o 6 (.load 32 true (.t 2)),
      o 7 (.call false (.f 20) [.t 6]),
      o 8 (.un .not (.t 7)),
      o 9 (.mov (.t 8)),
      ⟨(some 10), (some (9, false)), .faddr 0 (.t 3), []⟩,
      ⟨(some 11), (some (9, false)), .load 13 true (.t 10), []⟩,
      ⟨(some 12), (some (9, false)), .call false (.f 8) [.t 11], []⟩,
      ⟨(some 13), (some (9, false)), .un .not (.t 12), []⟩,
      o 14 (.pick (.t 9) (.c (.bool true)) (.t 13)),
      o 15 (.mov (.t 14)),
      ⟨(some 16), (some (15, false)), .faddr 18 (.t 3), []⟩,
      ⟨(some 17), (some (15, false)), .load 1 false (.t 16), []⟩,
      ⟨(some 18), (some (15, false)), .len false (.t 17), []⟩,
      ⟨(some 19), (some (15, false)), .bin .gtr (.t 18) (.c (.int .i64 200)), []⟩,
      o 20 (.pick (.t 15) (.c (.bool true)) (.t 19)),
      o 21 (.mov (.t 20)),
      ⟨(some 22), (some (21, false)), .faddr 23 (.t 3), []⟩,
      ⟨(some 23), (some (21, false)), .load 1 false (.t 22), []⟩,
      ⟨(some 24), (some (21, false)), .len false (.t 23), []⟩,
      ⟨(some 25), (some (21, false)), .bin .gtr (.t 24) (.c (.int .i64 200)), []⟩,
      o 26 (.pick (.t 21) (.c (.bool true)) (.t 25))] false)
    (.cond (.t 26) (.seq (.reg [o 27 (.call false (.f 10) []),
        o 4 (.mov (.t 27))] false)
      (.ret))
      (.skip)))
  (.seq (.reg [o 28 (.faddr 0 (.t 2)),
    o 29 (.faddr 9 (.t 28)),
    o 30 (.load 1 false (.t 29)),
    o 31 (.faddr 13 (.t 2)),
    o 32 (.load 10 true (.t 31)),
    o 33 (.build [.ns 2, .str ⟨#[]⟩, .int .i64 0, .int .i64 0, .int .i64 0, .ns 11, .ns 3, .ns 3, .ns 5, .ns 4, .ns 5] [(0, 1, .t 30), (1, 10, .t 32)]),
    o 5 (.zero [.ns 2, .str ⟨#[]⟩, .int .i64 0, .int .i64 0, .int .i64 0, .ns 11, .ns 3, .ns 3, .ns 5, .ns 4, .ns 5]),
    ⟨none, none, .store 11 (.t 5) (.t 33), []⟩] false)
  (.seq (.reg [o 34 (.load 32 true (.t 2)),
    ob 35 (.call false (.f 21) [.t 34]) [0],
    o 36 (.load 32 true (.t 2)),
    ob 37 (.call false (.f 25) [.t 36]) [0, 1, 2],
    ob 38 (.call false (.f 24) [.t 35, .t 37]) [0, 1, 2, 3],
    ob 39 (.mov (.t 38)) (rg 0 5),
    ⟨(some 40), (some (39, true)), .load 24 true (.t 3), (rg 0 6)⟩,
    ⟨(some 41), (some (39, true)), .call false (.f 26) [.t 40], (rg 0 7)⟩,
    ⟨(some 42), (some (39, true)), .load 24 true (.t 3), (rg 0 6)⟩,
    ⟨(some 43), (some (39, true)), .call false (.f 27) [.t 42], (rg 0 9)⟩,
    ⟨(some 44), (some (39, true)), .call false (.f 24) [.t 41, .t 43], (rg 0 10)⟩,
    ob 45 (.pick (.t 39) (.t 44) (.c (.bool false))) (rg 0 11),
    ob 46 (.mov (.t 45)) (rg 0 12),
    ⟨(some 47), (some (46, true)), .load 11 true (.t 5), (rg 0 13)⟩,
    ⟨(some 48), (some (46, true)), .call false (.f 28) [.t 47], (rg 0 14)⟩,
    ⟨(some 49), (some (46, true)), .load 11 true (.t 5), (rg 0 13)⟩,
    ⟨(some 50), (some (46, true)), .call false (.f 29) [.t 49], (rg 0 16)⟩,
    ⟨(some 51), (some (46, true)), .call false (.f 23) [.t 48, .t 50], (rg 0 17)⟩,
    ob 52 (.pick (.t 46) (.t 51) (.c (.bool false))) (rg 0 18),
    ob 53 (.mov (.t 52)) (rg 0 19),
    ⟨(some 54), (some (53, true)), .call false (.f 10) [], (rg 0 20)⟩,
    ob 55 (.pick (.t 53) (.t 54) (.c (.bool false))) (rg 0 21),
    ob 4 (.mov (.t 55)) (rg 0 22)] true)
  (.ret))))
def K2 : IFn := ⟨2, 56, [.tmp 4], false, K2_c⟩
def Qnk : List Nat := [100006, 93, 94, 95, 110, 111, 112]
def Q1cx : IR :=
  .seq (.reg [o 113 (.bin .lss (.t 112) (.t 111))] false)
    (.seq (.cond (.t 113) (.skip)
        (.exit 8))
    (.seq (.block 9 (.seq (.reg [o 114 (.iaddr 1 (.t 110) (.t 112)),
          o 115 (.load 1 false (.t 114)),
          o 12 (.mov (.t 115))] false)
        (.seq (.reg [o 116 (.mov (.t 12)),
          o 117 (.len true (.t 116)),
          o 118 (.bin .gtr (.t 117) (.c (.int .i64 2000)))] false)
        (.cond (.t 118) (.seq (.reg [o 2 (.mov (.c (.bool false)))] false)
          (.ret))
          (.skip)))))
    (.reg [o 119 (.bin .add (.t 112) (.c (.int .i64 1))),
    o 112 (.mov (.t 119))] false)))
def Qoz : List Nat := [100005, 93, 94, 95]
def Q1du : IR :=
  .seq (.reg [o 96 (.bin .lss (.t 95) (.t 94))] false)
    (.seq (.cond (.t 96) (.skip)
        (.exit 6))
    (.seq (.block 7 (.seq (.reg [o 97 (.iaddr 2 (.t 93) (.t 95)),
          o 98 (.load 2 true (.t 97)),
          o 10 (.zero [.str ⟨#[]⟩, .ns 1]),
          ⟨none, none, .store 2 (.t 10) (.t 98), []⟩] false)
        (.seq (.seq (.reg [o 99 (.faddr 0 (.t 10)),
            o 100 (.load 1 false (.t 99)),
            o 101 (.len true (.t 100)),
            o 102 (.bin .gtr (.t 101) (.c (.int .i64 400))),
            o 103 (.mov (.t 102)),
            ⟨(some 104), (some (103, false)), .faddr 1 (.t 10), []⟩,
            ⟨(some 105), (some (103, false)), .load 1 false (.t 104), []⟩,
            ⟨(some 106), (some (103, false)), .len false (.t 105), []⟩,
            ⟨(some 107), (some (103, false)), .bin .gtr (.t 106) (.c (.int .i64 200)), []⟩,
            o 108 (.pick (.t 103) (.c (.bool true)) (.t 107))] false)
          (.cond (.t 108) (.seq (.reg [o 2 (.mov (.c (.bool false)))] false)
            (.ret))
            (.skip)))
        (.seq (.reg [o 109 (.faddr 1 (.t 10)),
          o 110 (.load 1 false (.t 109)),
          o 111 (.len false (.t 110)),
          o 112 (.mov (.c (.int .i64 0)))] false)
        (.block 8 (.loop Qnk Q1cx))))))
    (.reg [o 120 (.bin .add (.t 95) (.c (.int .i64 1))),
    o 95 (.mov (.t 120))] false)))
def Qoq : List Nat := [100004, 1, 82, 83, 84]
def Q1eh : IR :=
  .seq (.reg [o 85 (.bin .lss (.t 84) (.t 83))] false)
    (.seq (.cond (.t 85) (.skip)
        (.exit 4))
    (.seq (.block 5 (.seq (.reg [o 86 (.iaddr 1 (.t 82) (.t 84)),
          o 87 (.load 1 false (.t 86)),
          o 8 (.mov (.t 87))] false)
        (.seq (.reg [o 88 (.mov (.t 8)),
          o 89 (.len true (.t 88)),
          o 90 (.bin .gtr (.t 89) (.c (.int .i64 400)))] false)
        (.cond (.t 90) (.seq (.reg [o 2 (.mov (.c (.bool false)))] false)
          (.ret))
          (.skip)))))
    (.reg [o 91 (.bin .add (.t 84) (.c (.int .i64 1))),
    o 84 (.mov (.t 91))] false)))
def Qm3 : List Nat := [100003, 1, 66, 67, 68]
def Q1er : IR :=
  .seq (.reg [o 69 (.bin .lss (.t 68) (.t 67))] false)
    (.seq (.cond (.t 69) (.skip)
        (.exit 2))
    (.seq (.block 3 (.seq (.reg [o 70 (.iaddr 5 (.t 66) (.t 68)),
          o 71 (.load 5 true (.t 70)),
          o 6 (.zero [.str ⟨#[]⟩, .str ⟨#[]⟩, .int .i64 0, .bool false, .bool false]),
          ⟨none, none, .store 5 (.t 6) (.t 71), []⟩] false)
        (.seq (.reg [o 72 (.faddr 0 (.t 6)),
          o 73 (.load 1 false (.t 72)),
          o 74 (.len true (.t 73)),
          o 75 (.faddr 1 (.t 6)),
          o 76 (.load 1 false (.t 75)),
          o 77 (.len true (.t 76)),
          o 78 (.bin .add (.t 74) (.t 77)),
          o 79 (.bin .gtr (.t 78) (.c (.int .i64 400)))] false)
        (.cond (.t 79) (.seq (.reg [o 2 (.mov (.c (.bool false)))] false)
          (.ret))
          (.skip)))))
    (.reg [o 80 (.bin .add (.t 68) (.c (.int .i64 1))),
    o 68 (.mov (.t 80))] false)))
def Qpf : List Nat := [100002, 1, 50, 51, 52]
def Q1e5 : IR :=
  .seq (.reg [o 53 (.bin .lss (.t 52) (.t 51))] false)
    (.seq (.cond (.t 53) (.skip)
        (.exit 0))
    (.seq (.block 1 (.seq (.reg [o 54 (.iaddr 2 (.t 50) (.t 52)),
          o 55 (.load 2 true (.t 54)),
          o 4 (.zero [.str ⟨#[]⟩, .str ⟨#[]⟩]),
          ⟨none, none, .store 2 (.t 4) (.t 55), []⟩] false)
        (.seq (.reg [o 56 (.faddr 0 (.t 4)),
          o 57 (.load 1 false (.t 56)),
          o 58 (.len true (.t 57)),
          o 59 (.faddr 1 (.t 4)),
          o 60 (.load 1 false (.t 59)),
          o 61 (.len true (.t 60)),
          o 62 (.bin .add (.t 58) (.t 61)),
          o 63 (.bin .gtr (.t 62) (.c (.int .i64 400)))] false)
        (.cond (.t 63) (.seq (.reg [o 2 (.mov (.c (.bool false)))] false)
          (.ret))
          (.skip)))))
    (.reg [o 64 (.bin .add (.t 52) (.c (.int .i64 1))),
    o 52 (.mov (.t 64))] false)))
def K5_c : IR :=
  .seq (.reg [o 1 (.box 13 (.t 0)),
    o 2 (.mov (.c (.bool false)))] false)
  (.seq (.seq (.reg [o 13 (.faddr 9 (.t 1)),
      o 14 (.load 1 false (.t 13)),
      o 15 (.len false (.t 14)),
      o 16 (.bin .gtr (.t 15) (.c (.int .i64 60))),
      o 17 (.mov (.t 16)),
      ⟨(some 18), (some (17, false)), .faddr 10 (.t 1), []⟩,
      ⟨(some 19), (some (17, false)), .load 1 false (.t 18), []⟩,
      ⟨(some 20), (some (17, false)), .len false (.t 19), []⟩,
      ⟨(some 21), (some (17, false)), .bin .gtr (.t 20) (.c (.int .i64 60)), []⟩,
      o 22 (.pick (.t 17) (.c (.bool true)) (.t 21)),
      o 23 (.mov (.t 22)),
      ⟨(some 24), (some (23, false)), .faddr 11 (.t 1), []⟩,
      ⟨(some 25), (some (23, false)), .load 1 false (.t 24), []⟩,
      ⟨(some 26), (some (23, false)), .len false (.t 25), []⟩,
      ⟨(some 27), (some (23, false)), .bin .gtr (.t 26) (.c (.int .i64 60)), []⟩,
      o 28 (.pick (.t 23) (.c (.bool true)) (.t 27)),
      o 29 (.mov (.t 28)),
      ⟨(some 30), (some (29, false)), .faddr 12 (.t 1), []⟩,
      ⟨(some 31), (some (29, false)), .load 1 false (.t 30), []⟩,
      ⟨(some 32), (some (29, false)), .len false (.t 31), []⟩,
      ⟨(some 33), (some (29, false)), .bin .gtr (.t 32) (.c (.int .i64 60)), []⟩,
      o 34 (.pick (.t 29) (.c (.bool true)) (.t 33)),
      o 35 (.mov (.t 34)),
      ⟨(some 36), (some (35, false)), .faddr 0 (.t 1), []⟩,
      ⟨(some 37), (some (35, false)), .load 1 false (.t 36), []⟩,
      ⟨(some 38), (some (35, false)), .len true (.t 37), []⟩,
      ⟨(some 39), (some (35, false)), .faddr 1 (.t 1), []⟩,
      ⟨(some 40), (some (35, false)), .load 1 false (.t 39), []⟩,
      ⟨(some 41), (some (35, false)), .len true (.t 40), []⟩,
      ⟨(some 42), (some (35, false)), .bin .add (.t 38) (.t 41), []⟩,
      ⟨(some 43), (some (35, false)), .faddr 2 (.t 1), []⟩,
      ⟨(some 44), (some (35, false)), .load 1 false (.t 43), []⟩,
      ⟨(some 45), (some (35, false)), .len true (.t 44), []⟩,
      ⟨(some 46), (some (35, false)), .bin .add (.t 42) (.t 45), []⟩,
      ⟨(some 47), (some (35, false)), .bin .gtr (.t 46) (.c (.int .i64 400)), []⟩,
      o 48 (.pick (.t 35) (.c (.bool true)) (.t 47))] false)
    (.cond (.t 48) (.seq (.reg [o 2 (.mov (.c (.bool false)))] false)
      (.ret))
      (.skip)))
  (.seq (.seq (.reg [o 49 (.faddr 9 (.t 1)),
      o 50 (.load 1 false (.t 49)),
      o 51 (.len false (.t 50)),
      o 52 (.mov (.c (.int .i64 0)))] false)
    (.block 0 (.loop Qpf Q1e5)))
  (.seq (.seq (.reg [o 65 (.faddr 10 (.t 1)),
      o 66 (.load 1 false (.t 65)),
      o 67 (.len false (.t 66)),
      o 68 (.mov (.c (.int .i64 0)))] false)
    (.block 2 (.loop Qm3 Q1er)))
  (.seq (.seq (.reg [o 81 (.faddr 11 (.t 1)),
      o 82 (.load 1 false (.t 81)),
      o 83 (.len false (.t 82)),
      o 84 (.mov (.c (.int .i64 0)))] false)
    (.block 4 (.loop Qoq Q1eh)))
  (.seq (.seq (.reg [o 92 (.faddr 12 (.t 1)),
      o 93 (.load 1 false (.t 92)),
      o 94 (.len false (.t 93)),
      o 95 (.mov (.c (.int .i64 0)))] false)
    (.block 6 (.loop Qoz Q1du)))
  (.seq (.reg [o 2 (.mov (.c (.bool true)))] false)
  (.ret)))))))
def K5 : IFn := ⟨1, 121, [.tmp 2], false, K5_c⟩
def Q1k6 : IR :=
  .seq (.reg [o 2 (.box 5 (.t 0)),
    o 4 (.mov (.c (.bool false)))] false)
  (.seq (.reg [o 5 (.load 5 true (.t 2)),
    o 6 (.mov (.t 1)),
    o 7 (.call false (.f 30) [.t 5, .t 6]),
    o 8 (.bin .geq (.t 7) (.c (.int .i64 0))),
    o 4 (.mov (.t 8))] false)
  (.ret))
def K27 : IFn := ⟨2, 9, [.tmp 4], false, Q1k6⟩
def K7_c : IR :=
  .seq (.reg [o 0 (.mov (.c (.bool false)))] false)
  (.seq (.reg [o 7 (.build [.str ⟨#[]⟩, .str ⟨#[]⟩] [(0, 1, .c (.str ⟨#[97, 112, 112]⟩)), (1, 1, .c (.str ⟨#[119, 101, 98]⟩))]),
    o 8 (.lit 2 1 [.str ⟨#[]⟩, .str ⟨#[]⟩] [(0, .t 7)]),
    o 9 (.build [.ns 2, .str ⟨#[]⟩, .int .i64 0, .int .i64 0, .int .i64 0, .ns 11, .ns 3, .ns 3, .ns 5, .ns 4, .ns 5] [(0, 1, .t 8)]),
    o 1 (.zero [.ns 2, .str ⟨#[]⟩, .int .i64 0, .int .i64 0, .int .i64 0, .ns 11, .ns 3, .ns 3, .ns 5, .ns 4, .ns 5]),
    ⟨none, none, .store 11 (.t 1) (.t 9), []⟩] false)
  (.seq (.reg [o 10 (.load 11 true (.t 1)),
    o 11 (.call false (.f 28) [.t 10]),
    o 2 (.zero [.int .i64 0, .int .i64 0, .str ⟨#[]⟩, .ns 5, .ns 6]),
    ⟨none, none, .store 5 (.t 2) (.t 11), []⟩] false)
  (.seq (.reg [o 13 (.build [.str ⟨#[]⟩, .str ⟨#[]⟩, .str ⟨#[]⟩, .int .i64 0, .int .i64 0, .int .i64 0, .int .i64 0, .bool false, .int .i64 0, .ns 2, .ns 5, .ns 1, .ns 2] [(0, 1, .c (.str ⟨#[80, 111, 100]⟩)), (2, 1, .c (.str ⟨#[112]⟩))]),
    o 14 (.build [.str ⟨#[]⟩, .str ⟨#[]⟩, .str ⟨#[]⟩, .int .i64 0, .int .i64 0, .int .i64 0, .int .i64 0, .bool false, .int .i64 0, .ns 2, .ns 5, .ns 1, .ns 2, .int .i64 0, .int .i64 0, .str ⟨#[]⟩, .ns 5, .ns 6, .int .i64 0, .int .i64 0, .str ⟨#[]⟩, .ns 5, .ns 6] [(0, 13, .t 13)]),
    o 15 (.call false (.f 11) [.t 14]),
    o 12 (.mov (.t 15)),
    o 16 (.extract (.t 12) 0),
    o 17 (.extract (.t 12) 1),
    o 3 (.zero [.str ⟨#[]⟩, .str ⟨#[]⟩, .str ⟨#[]⟩, .int .i64 0, .int .i64 0, .int .i64 0, .int .i64 0, .bool false, .int .i64 0, .ns 2, .ns 5, .ns 1, .ns 2, .str ⟨#[]⟩, .int .i64 0, .int .i64 0, .int .i64 0, .ns 11, .ns 3, .ns 3, .ns 5, .ns 4, .ns 5, .int .i64 0, .bool false, .int .i64 0, .int .i64 0, .int .i64 0, .ns 7, .int .i64 0, .str ⟨#[]⟩, .str ⟨#[]⟩]),
    ⟨none, none, .store 32 (.t 3) (.t 16), []⟩,
    o 4 (.mov (.t 17))] false)
  (.seq (.reg [o 19 (.build [.str ⟨#[]⟩, .str ⟨#[]⟩, .str ⟨#[]⟩, .int .i64 0, .int .i64 0, .int .i64 0, .int .i64 0, .bool false, .int .i64 0, .ns 2, .ns 5, .ns 1, .ns 2] [(0, 1, .c (.str ⟨#[78, 111, 100, 101]⟩))]),
    o 20 (.build [.int .i64 0, .int .i64 0, .str ⟨#[]⟩, .ns 5, .ns 6] [(0, 1, .c (.int .i64 2)), (1, 1, .c (.int .i64 1))]),
    o 21 (.build [.str ⟨#[]⟩, .int .i64 0, .int .i64 0, .str ⟨#[]⟩, .ns 5, .ns 6] [(0, 1, .c (.str ⟨#[99, 111, 114, 100, 111, 110, 101, 100]⟩)), (1, 5, .t 20)]),
    o 22 (.lit 6 1 [.str ⟨#[]⟩, .int .i64 0, .int .i64 0, .str ⟨#[]⟩, .ns 5, .ns 6] [(0, .t 21)]),
    o 23 (.build [.int .i64 0, .int .i64 0, .str ⟨#[]⟩, .ns 5, .ns 6] [(0, 1, .c (.int .i64 5)), (4, 1, .t 22)]),
    o 24 (.build [.str ⟨#[]⟩, .str ⟨#[]⟩, .str ⟨#[]⟩, .int .i64 0, .int .i64 0, .int .i64 0, .int .i64 0, .bool false, .int .i64 0, .ns 2, .ns 5, .ns 1, .ns 2, .int .i64 0, .int .i64 0, .str ⟨#[]⟩, .ns 5, .ns 6, .int .i64 0, .int .i64 0, .str ⟨#[]⟩, .ns 5, .ns 6] [(0, 13, .t 19), (13, 5, .t 23)]),
    o 25 (.call false (.f 13) [.t 24]),
    o 18 (.mov (.t 25)),
    o 26 (.extract (.t 18) 0),
    o 27 (.extract (.t 18) 1),
    o 5 (.zero [.str ⟨#[]⟩, .str ⟨#[]⟩, .str ⟨#[]⟩, .int .i64 0, .int .i64 0, .int .i64 0, .int .i64 0, .bool false, .int .i64 0, .ns 2, .ns 5, .ns 1, .ns 2, .int .i64 0, .int .i64 0, .int .i64 0, .int .i64 0, .bool false, .ns 4, .bool false, .int .i64 0, .bool false, .bool false, .ns 3]),
    ⟨none, none, .store 24 (.t 5) (.t 26), []⟩,
    o 6 (.mov (.t 27))] false)
  (.seq (.reg [o 28 (.load 5 true (.t 2)),
    o 29 (.load 11 true (.t 1)),
    ob 30 (.call false (.f 29) [.t 29]) [1],
    ob 31 (.call false (.f 23) [.t 28, .t 30]) [0, 1, 2],
    ob 32 (.mov (.t 31)) [0, 1, 2, 3],
    ⟨(some 33), (some (32, true)), .faddr 4 (.t 2), (rg 0 5)⟩,
    ⟨(some 34), (some (32, true)), .load 1 false (.t 33), (rg 0 6)⟩,
    ⟨(some 35), (some (32, true)), .len false (.t 34), (rg 0 7)⟩,
    ⟨(some 36), (some (32, true)), .bin .eql (.t 35) (.c (.int .i64 2)), (rg 0 8)⟩,
    ob 37 (.pick (.t 32) (.t 36) (.c (.bool false))) (rg 0 9),
    ob 38 (.mov (.t 37)) (rg 0 10),
    ⟨(some 39), (some (38, true)), .faddr 4 (.t 2), (rg 0 11)⟩,
    ⟨(some 40), (some (38, true)), .load 1 false (.t 39), (rg 0 12)⟩,
    ⟨(some 41), (some (38, true)), .iaddr 6 (.t 40) (.c (.int .i64 1)), (rg 0 13)⟩,
    ⟨(some 42), (some (38, true)), .faddr 1 (.t 41), (rg 0 14)⟩,
    ⟨(some 43), (some (38, true)), .faddr 4 (.t 42), (rg 0 15)⟩,
    ⟨(some 44), (some (38, true)), .load 1 false (.t 43), (rg 0 16)⟩,
    ⟨(some 45), (some (38, true)), .len false (.t 44), (rg 0 17)⟩,
    ⟨(some 46), (some (38, true)), .bin .eql (.t 45) (.c (.int .i64 10)), (rg 0 18)⟩,
    ob 47 (.pick (.t 38) (.t 46) (.c (.bool false))) (rg 0 19),
    ob 48 (.mov (.t 47)) (rg 0 20),
    ⟨(some 49), (some (48, true)), .mov (.t 4), (rg 0 21)⟩,
    ⟨(some 50), (some (48, true)), .bin .eql (.t 49) (.c (.int .i64 0)), (rg 0 22)⟩,
    ob 51 (.pick (.t 48) (.t 50) (.c (.bool false))) (rg 0 23),
    ob 52 (.mov (.t 51)) (rg 0 24),
    ⟨(some 53), (some (52, true)), .faddr 0 (.t 3), (rg 0 25)⟩,
    ⟨(some 54), (some (52, true)), .faddr 2 (.t 53), (rg 0 26)⟩,
    ⟨(some 55), (some (52, true)), .load 1 false (.t 54), (rg 0 27)⟩,
    ⟨(some 56), (some (52, true)), .bin .eql (.t 55) (.c (.str ⟨#[112]⟩)), (rg 0 28)⟩,
    ob 57 (.pick (.t 52) (.t 56) (.c (.bool false))) (rg 0 29),
    ob 58 (.mov (.t 57)) (rg 0 30),
    ⟨(some 59), (some (58, true)), .mov (.t 6), (rg 0 31)⟩,
    ⟨(some 60), (some (58, true)), .bin .eql (.t 59) (.c (.int .i64 6)), (rg 0 32)⟩,
    ob 61 (.pick (.t 58) (.t 60) (.c (.bool false))) (rg 0 33),
    ob 0 (.mov (.t 61)) (rg 0 34)] true)
  (.ret))))))
def K7 : IFn := ⟨0, 62, [.tmp 0], false, K7_c⟩
def Kd_c : IR :=
  .seq (.reg [o 1 (.box 23 (.t 0)),
    o 2 (.zero [.str ⟨#[]⟩, .str ⟨#[]⟩, .str ⟨#[]⟩, .int .i64 0, .int .i64 0, .int .i64 0, .int .i64 0, .bool false, .int .i64 0, .ns 2, .ns 5, .ns 1, .ns 2, .str ⟨#[]⟩, .int .i64 0, .int .i64 0, .int .i64 0, .ns 11, .ns 3, .ns 3, .ns 5, .ns 4, .ns 5, .int .i64 0, .bool false, .int .i64 0, .int .i64 0, .int .i64 0, .ns 7, .int .i64 0, .str ⟨#[]⟩, .str ⟨#[]⟩]),
    o 3 (.mov (.c (.int .i64 0)))] false)
  (.seq (.reg [o 6 (.faddr 0 (.t 1)),
    o 7 (.faddr 0 (.t 6)),
    o 8 (.load 1 false (.t 7)),
    o 9 (.bin .neq (.t 8) (.c (.str ⟨#[80, 111, 100]⟩))),
    o 10 (.build [.bool false] [(0, 1, .t 9)]),
    o 11 (.box 1 (.t 10)),
    o 4 (.mov (.t 11))] false)
  (.seq (.reg [o 12 (.faddr 0 (.t 1)),
    ob 13 (.load 13 true (.t 12)) [0],
    ob 14 (.call false (.f 31) [.t 13]) [0, 1],
    o 15 (.mov (.t 4)),
    o 16 (.faddr 13 (.t 1)),
    ob 17 (.load 5 true (.t 16)) [4],
    ob 18 (.call false (.f 32) [.t 15, .t 17]) (rg 0 6),
    o 19 (.mov (.t 4)),
    o 20 (.faddr 18 (.t 1)),
    ob 21 (.load 5 true (.t 20)) [8],
    ob 22 (.call false (.f 33) [.t 19, .t 21]) (rg 0 10),
    ob 23 (.build [.str ⟨#[]⟩, .str ⟨#[]⟩, .str ⟨#[]⟩, .int .i64 0, .int .i64 0, .int .i64 0, .int .i64 0, .bool false, .int .i64 0, .ns 2, .ns 5, .ns 1, .ns 2, .str ⟨#[]⟩, .int .i64 0, .int .i64 0, .int .i64 0, .ns 11, .ns 3, .ns 3, .ns 5, .ns 4, .ns 5, .int .i64 0, .bool false, .int .i64 0, .int .i64 0, .int .i64 0, .ns 7, .int .i64 0, .str ⟨#[]⟩, .str ⟨#[]⟩] [(0, 13, .t 14), (13, 10, .t 18), (23, 9, .t 22)]) (rg 0 11),
    o 5 (.zero [.str ⟨#[]⟩, .str ⟨#[]⟩, .str ⟨#[]⟩, .int .i64 0, .int .i64 0, .int .i64 0, .int .i64 0, .bool false, .int .i64 0, .ns 2, .ns 5, .ns 1, .ns 2, .str ⟨#[]⟩, .int .i64 0, .int .i64 0, .int .i64 0, .ns 11, .ns 3, .ns 3, .ns 5, .ns 4, .ns 5, .int .i64 0, .bool false, .int .i64 0, .int .i64 0, .int .i64 0, .ns 7, .int .i64 0, .str ⟨#[]⟩, .str ⟨#[]⟩]),
    ⟨none, none, .store 32 (.t 5) (.t 23), (rg 0 13)⟩] true)
  (.seq (.seq (.reg [o 24 (.mov (.t 4)),
      o 25 (.nilck (.t 24)),
      o 26 (.faddr 0 (.t 25)),
      o 27 (.load 1 false (.t 26))] false)
    (.cond (.t 27) (.seq (.reg [o 28 (.build [.str ⟨#[]⟩, .str ⟨#[]⟩, .str ⟨#[]⟩, .int .i64 0, .int .i64 0, .int .i64 0, .int .i64 0, .bool false, .int .i64 0, .ns 2, .ns 5, .ns 1, .ns 2, .str ⟨#[]⟩, .int .i64 0, .int .i64 0, .int .i64 0, .ns 11, .ns 3, .ns 3, .ns 5, .ns 4, .ns 5, .int .i64 0, .bool false, .int .i64 0, .int .i64 0, .int .i64 0, .ns 7, .int .i64 0, .str ⟨#[]⟩, .str ⟨#[]⟩] []),
        ⟨none, none, .store 32 (.t 2) (.t 28), []⟩,
        o 3 (.mov (.c (.int .i64 6)))] false)
      (.ret))
      (.skip)))
  (.seq (.reg [o 29 (.load 32 true (.t 5)),
    ⟨none, none, .store 32 (.t 2) (.t 29), []⟩,
    o 3 (.mov (.c (.int .i64 0)))] false)
  (.ret)))))
def Kd : IFn := ⟨1, 30, [.cell 2 32 true, .tmp 3], false, Kd_c⟩
def Kc_c : IR :=
  .seq (.reg [o 1 (.box 23 (.t 0)),
    o 2 (.zero [.str ⟨#[]⟩, .str ⟨#[]⟩, .str ⟨#[]⟩, .int .i64 0, .int .i64 0, .int .i64 0, .int .i64 0, .bool false, .int .i64 0, .ns 2, .ns 5, .ns 1, .ns 2, .int .i64 0, .int .i64 0, .int .i64 0, .int .i64 0, .bool false, .ns 4, .bool false, .int .i64 0, .bool false, .bool false, .ns 3]),
    o 3 (.mov (.c (.int .i64 0)))] false)
  (.seq (.reg [o 8 (.faddr 0 (.t 1)),
    o 9 (.faddr 0 (.t 8)),
    o 10 (.load 1 false (.t 9)),
    o 11 (.bin .neq (.t 10) (.c (.str ⟨#[78, 111, 100, 101]⟩))),
    o 12 (.build [.bool false] [(0, 1, .t 11)]),
    o 13 (.box 1 (.t 12)),
    o 4 (.mov (.t 13))] false)
  (.seq (.reg [o 14 (.mov (.t 4)),
    o 15 (.faddr 13 (.t 1)),
    ob 16 (.load 5 true (.t 15)) [1],
    ob 17 (.call false (.f 36) [.t 14, .t 16]) [0, 1, 2],
    o 18 (.mov (.t 4)),
    o 19 (.faddr 18 (.t 1)),
    ob 20 (.load 5 true (.t 19)) [5],
    ob 21 (.call false (.f 36) [.t 18, .t 20]) (rg 0 7),
    o 5 (.zero [.int .i64 0, .int .i64 0, .str ⟨#[]⟩, .ns 5, .ns 6]),
    o 6 (.zero [.int .i64 0, .int .i64 0, .str ⟨#[]⟩, .ns 5, .ns 6]),
    ⟨none, none, .store 5 (.t 5) (.t 17), (rg 0 10)⟩,
    ⟨none, none, .store 5 (.t 6) (.t 21), (rg 0 11)⟩] true)
  (.seq (.reg [o 22 (.faddr 0 (.t 1)),
    ob 23 (.load 13 true (.t 22)) [0],
    ob 24 (.call false (.f 31) [.t 23]) [0, 1],
    o 25 (.mov (.t 4)),
    o 26 (.mov (.t 4)),
    o 27 (.load 5 true (.t 5)),
    ob 28 (.call false (.f 38) [.t 26, .t 27, .c (.str ⟨#[99, 97, 112, 97, 99, 105, 116, 121]⟩)]) [0, 1, 2, 4, 5],
    ob 29 (.call false (.f 37) [.t 25, .t 28]) (rg 0 7),
    o 30 (.mov (.t 4)),
    o 31 (.load 5 true (.t 5)),
    ob 32 (.call false (.f 39) [.t 30, .t 31, .c (.str ⟨#[109, 97, 120, 80, 111, 100, 115]⟩)]) (rg 0 10),
    o 33 (.mov (.t 4)),
    o 34 (.load 5 true (.t 5)),
    ob 35 (.call false (.f 40) [.t 33, .t 34, .c (.str ⟨#[99, 111, 114, 100, 111, 110, 101, 100]⟩)]) (rg 0 13),
    o 36 (.mov (.t 4)),
    o 37 (.load 5 true (.t 5)),
    o 38 (.mov (.t 4)),
    ob 39 (.mkfn 42 [.t 38] []) [16],
    ob 40 (.call false (.f 41) [.t 36, .t 37, .c (.str ⟨#[116, 97, 105, 110, 116, 115]⟩), .t 39]) (rg 0 18),
    o 41 (.mov (.t 4)),
    o 42 (.load 5 true (.t 6)),
    ob 43 (.call false (.f 40) [.t 41, .t 42, .c (.str ⟨#[114, 101, 97, 100, 121]⟩)]) (rg 0 21),
    o 44 (.mov (.t 4)),
    o 45 (.load 5 true (.t 6)),
    ob 46 (.call false (.f 39) [.t 44, .t 45, .c (.str ⟨#[98, 101, 97, 116]⟩)]) (rg 0 24),
    o 47 (.mov (.t 4)),
    o 48 (.load 5 true (.t 6)),
    ob 49 (.call false (.f 40) [.t 47, .t 48, .c (.str ⟨#[108, 111, 119, 77, 101, 109]⟩)]) (rg 0 27),
    o 50 (.mov (.t 4)),
    o 51 (.load 5 true (.t 6)),
    ob 52 (.call false (.f 40) [.t 50, .t 51, .c (.str ⟨#[108, 111, 119, 68, 105, 115, 107]⟩)]) (rg 0 30),
    o 53 (.mov (.t 4)),
    o 54 (.load 5 true (.t 6)),
    o 55 (.mov (.t 4)),
    ob 56 (.mkfn 44 [.t 55] []) [33],
    ob 57 (.call false (.f 43) [.t 53, .t 54, .c (.str ⟨#[105, 109, 97, 103, 101, 115]⟩), .t 56]) (rg 0 35),
    ob 58 (.build [.str ⟨#[]⟩, .str ⟨#[]⟩, .str ⟨#[]⟩, .int .i64 0, .int .i64 0, .int .i64 0, .int .i64 0, .bool false, .int .i64 0, .ns 2, .ns 5, .ns 1, .ns 2, .int .i64 0, .int .i64 0, .int .i64 0, .int .i64 0, .bool false, .ns 4, .bool false, .int .i64 0, .bool false, .bool false, .ns 3] [(0, 13, .t 24), (13, 3, .t 29), (16, 1, .t 32), (17, 1, .t 35), (18, 1, .t 40), (19, 1, .t 43), (20, 1, .t 46), (21, 1, .t 49), (22, 1, .t 52), (23, 1, .t 57)]) (rg 0 36),
    o 7 (.zero [.str ⟨#[]⟩, .str ⟨#[]⟩, .str ⟨#[]⟩, .int .i64 0, .int .i64 0, .int .i64 0, .int .i64 0, .bool false, .int .i64 0, .ns 2, .ns 5, .ns 1, .ns 2, .int .i64 0, .int .i64 0, .int .i64 0, .int .i64 0, .bool false, .ns 4, .bool false, .int .i64 0, .bool false, .bool false, .ns 3]),
    ⟨none, none, .store 24 (.t 7) (.t 58), (rg 0 38)⟩] true)
  (.seq (.seq (.reg [o 59 (.mov (.t 4)),
      o 60 (.nilck (.t 59)),
      o 61 (.faddr 0 (.t 60)),
      o 62 (.load 1 false (.t 61))] false)
    (.cond (.t 62) (.seq (.reg [o 63 (.build [.str ⟨#[]⟩, .str ⟨#[]⟩, .str ⟨#[]⟩, .int .i64 0, .int .i64 0, .int .i64 0, .int .i64 0, .bool false, .int .i64 0, .ns 2, .ns 5, .ns 1, .ns 2, .int .i64 0, .int .i64 0, .int .i64 0, .int .i64 0, .bool false, .ns 4, .bool false, .int .i64 0, .bool false, .bool false, .ns 3] []),
        ⟨none, none, .store 24 (.t 2) (.t 63), []⟩,
        o 3 (.mov (.c (.int .i64 6)))] false)
      (.ret))
      (.skip)))
  (.seq (.reg [o 64 (.load 24 true (.t 7)),
    ⟨none, none, .store 24 (.t 2) (.t 64), []⟩,
    o 3 (.mov (.c (.int .i64 0)))] false)
  (.ret))))))
def Kc : IFn := ⟨1, 65, [.cell 2 24 true, .tmp 3], false, Kc_c⟩
def K6_c : IR :=
  .seq (.reg [o 1 (.box 32 (.t 0)),
    o 2 (.mov (.c (.bool false)))] false)
  (.seq (.reg [o 4 (.load 32 true (.t 1)),
    o 5 (.call false (.f 25) [.t 4]),
    o 3 (.zero [.str ⟨#[]⟩, .str ⟨#[]⟩, .str ⟨#[]⟩, .int .i64 0, .int .i64 0, .int .i64 0, .int .i64 0, .bool false, .int .i64 0, .ns 2, .ns 5, .ns 1, .ns 2, .int .i64 0, .int .i64 0, .str ⟨#[]⟩, .ns 5, .ns 6, .int .i64 0, .int .i64 0, .str ⟨#[]⟩, .ns 5, .ns 6]),
    ⟨none, none, .store 23 (.t 3) (.t 5), []⟩] false)
  (.seq (.reg [o 6 (.faddr 0 (.t 1)),
    o 7 (.load 13 true (.t 6)),
    o 8 (.call false (.f 8) [.t 7]),
    o 9 (.mov (.t 8)),
    ⟨(some 10), (some (9, true)), .faddr 13 (.t 3), []⟩,
    ⟨(some 11), (some (9, true)), .load 5 true (.t 10), []⟩,
    ⟨(some 12), (some (9, true)), .call false (.f 9) [.t 11, .c (.int .i64 20000)], []⟩,
    o 13 (.pick (.t 9) (.t 12) (.c (.bool false))),
    o 14 (.mov (.t 13)),
    ⟨(some 15), (some (14, true)), .faddr 18 (.t 3), []⟩,
    ⟨(some 16), (some (14, true)), .load 5 true (.t 15), []⟩,
    ⟨(some 17), (some (14, true)), .call false (.f 9) [.t 16, .c (.int .i64 20000)], []⟩,
    o 18 (.pick (.t 14) (.t 17) (.c (.bool false))),
    o 2 (.mov (.t 18))] false)
  (.ret)))
def K6 : IFn := ⟨1, 19, [.tmp 2], false, K6_c⟩
def Ka_c : IR :=
  .seq (.reg [o 1 (.box 32 (.t 0)),
    o 2 (.zero [.str ⟨#[]⟩, .str ⟨#[]⟩, .str ⟨#[]⟩, .int .i64 0, .int .i64 0, .int .i64 0, .int .i64 0, .bool false, .int .i64 0, .ns 2, .ns 5, .ns 1, .ns 2, .int .i64 0, .int .i64 0, .str ⟨#[]⟩, .ns 5, .ns 6, .int .i64 0, .int .i64 0, .str ⟨#[]⟩, .ns 5, .ns 6])] false)
  (.seq (.reg [o 4 (.faddr 0 (.t 1)),
    ob 5 (.load 13 true (.t 4)) [0],
    ob 6 (.call false (.f 31) [.t 5]) [0, 1],
    o 7 (.faddr 13 (.t 1)),
    ob 8 (.load 10 true (.t 7)) [3],
    ob 9 (.call false (.f 56) [.t 8]) (rg 0 5),
    o 10 (.faddr 23 (.t 1)),
    ob 11 (.load 9 true (.t 10)) [6],
    ob 12 (.call false (.f 57) [.t 11]) (rg 0 8),
    ob 13 (.build [.str ⟨#[]⟩, .str ⟨#[]⟩, .str ⟨#[]⟩, .int .i64 0, .int .i64 0, .int .i64 0, .int .i64 0, .bool false, .int .i64 0, .ns 2, .ns 5, .ns 1, .ns 2, .int .i64 0, .int .i64 0, .str ⟨#[]⟩, .ns 5, .ns 6, .int .i64 0, .int .i64 0, .str ⟨#[]⟩, .ns 5, .ns 6] [(0, 13, .t 6), (13, 5, .t 9), (18, 5, .t 12)]) (rg 0 9),
    o 3 (.zero [.str ⟨#[]⟩, .str ⟨#[]⟩, .str ⟨#[]⟩, .int .i64 0, .int .i64 0, .int .i64 0, .int .i64 0, .bool false, .int .i64 0, .ns 2, .ns 5, .ns 1, .ns 2, .int .i64 0, .int .i64 0, .str ⟨#[]⟩, .ns 5, .ns 6, .int .i64 0, .int .i64 0, .str ⟨#[]⟩, .ns 5, .ns 6]),
    ⟨none, none, .store 23 (.t 3) (.t 13), (rg 0 11)⟩] true)
  (.seq (.reg [o 14 (.faddr 0 (.t 3)),
    o 15 (.faddr 0 (.t 14)),
    ⟨none, none, .store 1 (.t 15) (.c (.str ⟨#[80, 111, 100]⟩)), []⟩] false)
  (.seq (.reg [o 16 (.load 23 true (.t 3)),
    ⟨none, none, .store 23 (.t 2) (.t 16), []⟩] false)
  (.ret))))
def Ka : IFn := ⟨1, 17, [.cell 2 23 true], false, Ka_c⟩
def Qkm : List Nat := [100010, 2, 3, 6]
def Q1ah : IR :=
  .seq (.seq (.reg [o 63 (.mov (.t 6)),
        o 64 (.faddr 4 (.t 2)),
        o 65 (.load 1 false (.t 64)),
        o 66 (.len false (.t 65)),
        o 67 (.bin .lss (.t 63) (.t 66))] false)
      (.cond (.t 67) (.skip)
        (.exit 2)))
    (.seq (.block 3 (.seq (.reg [o 70 (.faddr 4 (.t 2)),
          ob 71 (.load 1 false (.t 70)) [0],
          o 72 (.mov (.t 6)),
          ob 73 (.iaddr 6 (.t 71) (.t 72)) [0, 1, 2],
          ob 74 (.faddr 0 (.t 73)) [0, 1, 2, 3],
          ob 75 (.load 1 false (.t 74)) (rg 0 5),
          o 76 (.faddr 4 (.t 3)),
          ob 77 (.load 1 false (.t 76)) [6],
          o 78 (.mov (.t 6)),
          ob 79 (.iaddr 6 (.t 77) (.t 78)) [6, 7, 8],
          ob 80 (.faddr 0 (.t 79)) [6, 7, 8, 9],
          ob 81 (.load 1 false (.t 80)) (rg 6 11),
          ob 82 (.bin .neq (.t 75) (.t 81)) (rg 0 12),
          ob 83 (.mov (.t 82)) (rg 0 13),
          ⟨(some 84), (some (83, false)), .faddr 4 (.t 2), (rg 0 14)⟩,
          ⟨(some 85), (some (83, false)), .load 1 false (.t 84), (rg 0 15)⟩,
          ⟨(some 86), (some (83, false)), .mov (.t 6), (rg 0 14)⟩,
          ⟨(some 87), (some (83, false)), .iaddr 6 (.t 85) (.t 86), (rg 0 17)⟩,
          ⟨(some 88), (some (83, false)), .faddr 1 (.t 87), (rg 0 18)⟩,
          ⟨(some 89), (some (83, false)), .load 5 true (.t 88), (rg 0 19)⟩,
          ⟨(some 90), (some (83, false)), .faddr 4 (.t 3), (rg 0 14)⟩,
          ⟨(some 91), (some (83, false)), .load 1 false (.t 90), (rg 0 14 ++ [20])⟩,
          ⟨(some 92), (some (83, false)), .mov (.t 6), (rg 0 14)⟩,
          ⟨(some 93), (some (83, false)), .iaddr 6 (.t 91) (.t 92), (rg 0 14 ++ [20, 21, 22])⟩,
          ⟨(some 94), (some (83, false)), .faddr 1 (.t 93), (rg 0 14 ++ rg 20 24)⟩,
          ⟨(some 95), (some (83, false)), .load 5 true (.t 94), (rg 0 14 ++ rg 20 25)⟩,
          ⟨(some 96), (some (83, false)), .call false (.f 23) [.t 89, .t 95], (rg 0 26)⟩,
          ⟨(some 97), (some (83, false)), .un .not (.t 96), (rg 0 27)⟩,
          ob 98 (.pick (.t 83) (.c (.bool true)) (.t 97)) (rg 0 28)] true)
        (.cond (.t 98) (.seq (.reg [o 4 (.mov (.c (.bool false)))] false)
          (.ret))
          (.skip))))
    (.reg [o 68 (.mov (.t 6)),
    o 69 (.bin .add (.t 68) (.c (.int .i64 1))),
    o 6 (.mov (.t 69))] false))
def Qjh : List Nat := [100009, 2, 3, 5]
def Q1an : IR :=
  .seq (.seq (.reg [o 44 (.mov (.t 5)),
        o 45 (.faddr 3 (.t 2)),
        o 46 (.load 1 false (.t 45)),
        o 47 (.len false (.t 46)),
        o 48 (.bin .lss (.t 44) (.t 47))] false)
      (.cond (.t 48) (.skip)
        (.exit 0)))
    (.seq (.block 1 (.seq (.reg [o 51 (.faddr 3 (.t 2)),
          ob 52 (.load 1 false (.t 51)) [0],
          o 53 (.mov (.t 5)),
          ob 54 (.iaddr 5 (.t 52) (.t 53)) [0, 1, 2],
          ob 55 (.load 5 true (.t 54)) [0, 1, 2, 3],
          o 56 (.faddr 3 (.t 3)),
          ob 57 (.load 1 false (.t 56)) [5],
          o 58 (.mov (.t 5)),
          ob 59 (.iaddr 5 (.t 57) (.t 58)) [5, 6, 7],
          ob 60 (.load 5 true (.t 59)) [5, 6, 7, 8],
          ob 61 (.call false (.f 23) [.t 55, .t 60]) (rg 0 10),
          ob 62 (.un .not (.t 61)) (rg 0 11)] true)
        (.cond (.t 62) (.seq (.reg [o 4 (.mov (.c (.bool false)))] false)
          (.ret))
          (.skip))))
    (.reg [o 49 (.mov (.t 5)),
    o 50 (.bin .add (.t 49) (.c (.int .i64 1))),
    o 5 (.mov (.t 50))] false))
def Q1iy : IR :=
  .seq (.reg [o 2 (.box 5 (.t 0)),
    o 3 (.box 5 (.t 1)),
    o 4 (.mov (.c (.bool false)))] false)
  (.seq (.seq (.reg [o 7 (.faddr 0 (.t 2)),
      o 8 (.load 1 false (.t 7)),
      o 9 (.faddr 0 (.t 3)),
      o 10 (.load 1 false (.t 9)),
      o 11 (.bin .neq (.t 8) (.t 10)),
      o 12 (.mov (.t 11)),
      ⟨(some 13), (some (12, false)), .faddr 1 (.t 2), []⟩,
      ⟨(some 14), (some (12, false)), .load 1 false (.t 13), []⟩,
      ⟨(some 15), (some (12, false)), .faddr 1 (.t 3), []⟩,
      ⟨(some 16), (some (12, false)), .load 1 false (.t 15), []⟩,
      ⟨(some 17), (some (12, false)), .bin .neq (.t 14) (.t 16), []⟩,
      o 18 (.pick (.t 12) (.c (.bool true)) (.t 17)),
      o 19 (.mov (.t 18)),
      ⟨(some 20), (some (19, false)), .faddr 2 (.t 2), []⟩,
      ⟨(some 21), (some (19, false)), .load 1 false (.t 20), []⟩,
      ⟨(some 22), (some (19, false)), .faddr 2 (.t 3), []⟩,
      ⟨(some 23), (some (19, false)), .load 1 false (.t 22), []⟩,
      ⟨(some 24), (some (19, false)), .bin .neq (.t 21) (.t 23), []⟩,
      o 25 (.pick (.t 19) (.c (.bool true)) (.t 24)),
      o 26 (.mov (.t 25)),
      ⟨(some 27), (some (26, false)), .faddr 3 (.t 2), []⟩,
      ⟨(some 28), (some (26, false)), .load 1 false (.t 27), []⟩,
      ⟨(some 29), (some (26, false)), .len false (.t 28), []⟩,
      ⟨(some 30), (some (26, false)), .faddr 3 (.t 3), []⟩,
      ⟨(some 31), (some (26, false)), .load 1 false (.t 30), []⟩,
      ⟨(some 32), (some (26, false)), .len false (.t 31), []⟩,
      ⟨(some 33), (some (26, false)), .bin .neq (.t 29) (.t 32), []⟩,
      o 34 (.pick (.t 26) (.c (.bool true)) (.t 33)),
      o 35 (.mov (.t 34)),
      ⟨(some 36), (some (35, false)), .faddr 4 (.t 2), []⟩,
      ⟨(some 37), (some (35, false)), .load 1 false (.t 36), []⟩,
      ⟨(some 38), (some (35, false)), .len false (.t 37), []⟩,
      ⟨(some 39), (some (35, false)), .faddr 4 (.t 3), []⟩,
      ⟨(some 40), (some (35, false)), .load 1 false (.t 39), []⟩,
      ⟨(some 41), (some (35, false)), .len false (.t 40), []⟩,
      ⟨(some 42), (some (35, false)), .bin .neq (.t 38) (.t 41), []⟩,
      o 43 (.pick (.t 35) (.c (.bool true)) (.t 42))] false)
    (.cond (.t 43) (.seq (.reg [o 4 (.mov (.c (.bool false)))] false)
      (.ret))
      (.skip)))
  (.seq (.seq (.reg [o 5 (.mov (.c (.int .i64 0)))] false)
    (.block 0 (.loop Qjh Q1an)))
  (.seq (.seq (.reg [o 6 (.mov (.c (.int .i64 0)))] false)
    (.block 2 (.loop Qkm Q1ah)))
  (.seq (.reg [o 4 (.mov (.c (.bool true)))] false)
  (.ret)))))
def K26 : IFn := ⟨2, 99, [.tmp 4], false, Q1iy⟩
def Q1h0 : IR :=
  .seq (.reg [o 2 (.box 23 (.t 0)),
    o 3 (.box 23 (.t 1)),
    o 4 (.mov (.c (.bool false)))] false)
  (.seq (.reg [o 5 (.faddr 0 (.t 2)),
    o 6 (.load 13 true (.t 5)),
    o 7 (.faddr 0 (.t 3)),
    o 8 (.load 13 true (.t 7)),
    o 9 (.call false (.f 58) [.t 6, .t 8]),
    o 10 (.mov (.t 9)),
    ⟨(some 11), (some (10, true)), .faddr 13 (.t 2), []⟩,
    ⟨(some 12), (some (10, true)), .load 5 true (.t 11), []⟩,
    ⟨(some 13), (some (10, true)), .faddr 13 (.t 3), []⟩,
    ⟨(some 14), (some (10, true)), .load 5 true (.t 13), []⟩,
    ⟨(some 15), (some (10, true)), .call false (.f 23) [.t 12, .t 14], []⟩,
    o 16 (.pick (.t 10) (.t 15) (.c (.bool false))),
    o 17 (.mov (.t 16)),
    ⟨(some 18), (some (17, true)), .faddr 18 (.t 2), []⟩,
    ⟨(some 19), (some (17, true)), .load 5 true (.t 18), []⟩,
    ⟨(some 20), (some (17, true)), .faddr 18 (.t 3), []⟩,
    ⟨(some 21), (some (17, true)), .load 5 true (.t 20), []⟩,
    ⟨(some 22), (some (17, true)), .call false (.f 23) [.t 19, .t 21], []⟩,
    o 23 (.pick (.t 17) (.t 22) (.c (.bool false))),
    o 4 (.mov (.t 23))] false)
  (.ret))
def K2l : IFn := ⟨2, 24, [.tmp 4], false, Q1h0⟩
def Q1ke : IR :=
  .seq (.reg [o 1 (.box 32 (.t 0)),
    o 2 (.zero [.str ⟨#[]⟩, .str ⟨#[]⟩, .str ⟨#[]⟩, .int .i64 0, .int .i64 0, .int .i64 0, .int .i64 0, .bool false, .int .i64 0, .ns 2, .ns 5, .ns 1, .ns 2, .int .i64 0, .int .i64 0, .str ⟨#[]⟩, .ns 5, .ns 6, .int .i64 0, .int .i64 0, .str ⟨#[]⟩, .ns 5, .ns 6])] false)
  (.seq (.reg [o 4 (.faddr 0 (.t 1)),
    o 5 (.load 13 true (.t 4)),
    o 3 (.zero [.str ⟨#[]⟩, .str ⟨#[]⟩, .str ⟨#[]⟩, .int .i64 0, .int .i64 0, .int .i64 0, .int .i64 0, .bool false, .int .i64 0, .ns 2, .ns 5, .ns 1, .ns 2]),
    ⟨none, none, .store 13 (.t 3) (.t 5), []⟩] false)
  (.seq (.reg [o 6 (.faddr 0 (.t 3)),
    ⟨none, none, .store 1 (.t 6) (.c (.str ⟨#[80, 111, 100]⟩)), []⟩] false)
  (.seq (.reg [o 7 (.load 13 true (.t 3)),
    o 8 (.faddr 13 (.t 1)),
    ob 9 (.load 10 true (.t 8)) [1],
    ob 10 (.call false (.f 59) [.t 9]) [1, 2],
    o 11 (.faddr 23 (.t 1)),
    ob 12 (.load 9 true (.t 11)) [4],
    ob 13 (.call false (.f 60) [.t 12]) (rg 1 6),
    ob 14 (.build [.str ⟨#[]⟩, .str ⟨#[]⟩, .str ⟨#[]⟩, .int .i64 0, .int .i64 0, .int .i64 0, .int .i64 0, .bool false, .int .i64 0, .ns 2, .ns 5, .ns 1, .ns 2, .int .i64 0, .int .i64 0, .str ⟨#[]⟩, .ns 5, .ns 6, .int .i64 0, .int .i64 0, .str ⟨#[]⟩, .ns 5, .ns 6] [(0, 13, .t 7), (13, 5, .t 10), (18, 5, .t 13)]) (rg 0 7),
    ⟨none, none, .store 23 (.t 2) (.t 14), (rg 0 8)⟩] true)
  (.ret))))
def K2b : IFn := ⟨1, 15, [.cell 2 23 true], false, Q1ke⟩
def K9_c : IR :=
  .seq (.reg [o 1 (.box 24 (.t 0)),
    o 2 (.zero [.str ⟨#[]⟩, .str ⟨#[]⟩, .str ⟨#[]⟩, .int .i64 0, .int .i64 0, .int .i64 0, .int .i64 0, .bool false, .int .i64 0, .ns 2, .ns 5, .ns 1, .ns 2, .int .i64 0, .int .i64 0, .str ⟨#[]⟩, .ns 5, .ns 6, .int .i64 0, .int .i64 0, .str ⟨#[]⟩, .ns 5, .ns 6])] false)
  (.seq (.reg [o 4 (.faddr 0 (.t 1)),
    o 5 (.load 13 true (.t 4)),
    o 6 (.call false (.f 31) [.t 5]),
    o 7 (.build [.str ⟨#[]⟩, .str ⟨#[]⟩, .str ⟨#[]⟩, .int .i64 0, .int .i64 0, .int .i64 0, .int .i64 0, .bool false, .int .i64 0, .ns 2, .ns 5, .ns 1, .ns 2, .int .i64 0, .int .i64 0, .str ⟨#[]⟩, .ns 5, .ns 6, .int .i64 0, .int .i64 0, .str ⟨#[]⟩, .ns 5, .ns 6] [(0, 13, .t 6)]),
    o 3 (.zero [.str ⟨#[]⟩, .str ⟨#[]⟩, .str ⟨#[]⟩, .int .i64 0, .int .i64 0, .int .i64 0, .int .i64 0, .bool false, .int .i64 0, .ns 2, .ns 5, .ns 1, .ns 2, .int .i64 0, .int .i64 0, .str ⟨#[]⟩, .ns 5, .ns 6, .int .i64 0, .int .i64 0, .str ⟨#[]⟩, .ns 5, .ns 6]),
    ⟨none, none, .store 23 (.t 3) (.t 7), []⟩] false)
  (.seq (.reg [o 8 (.faddr 0 (.t 3)),
    o 9 (.faddr 0 (.t 8)),
    ⟨none, none, .store 1 (.t 9) (.c (.str ⟨#[78, 111, 100, 101]⟩)), []⟩] false)
  (.seq (.reg [o 10 (.faddr 13 (.t 1)),
    ob 11 (.load 3 true (.t 10)) [0],
    ob 12 (.call false (.f 63) [.t 11]) [0, 1],
    ob 13 (.call false (.f 62) [.c (.str ⟨#[99, 97, 112, 97, 99, 105, 116, 121]⟩), .t 12]) [0, 1, 2],
    o 14 (.faddr 17 (.t 1)),
    ob 15 (.load 1 false (.t 14)) [4],
    ob 16 (.call false (.f 64) [.t 15]) (rg 0 6),
    ob 17 (.call false (.f 62) [.c (.str ⟨#[99, 111, 114, 100, 111, 110, 101, 100]⟩), .t 16]) (rg 0 7),
    o 18 (.faddr 16 (.t 1)),
    ob 19 (.load 1 false (.t 18)) [8],
    ob 20 (.call false (.f 65) [.t 19]) (rg 0 10),
    ob 21 (.call false (.f 62) [.c (.str ⟨#[109, 97, 120, 80, 111, 100, 115]⟩), .t 20]) (rg 0 11),
    o 22 (.faddr 18 (.t 1)),
    ob 23 (.load 1 false (.t 22)) [12],
    ob 24 (.call false (.f 66) [.t 23, .f 67]) (rg 0 14),
    ob 25 (.call false (.f 62) [.c (.str ⟨#[116, 97, 105, 110, 116, 115]⟩), .t 24]) (rg 0 15),
    ob 26 (.lit 6 4 [.str ⟨#[]⟩, .int .i64 0, .int .i64 0, .str ⟨#[]⟩, .ns 5, .ns 6] [(0, .t 13), (1, .t 17), (2, .t 21), (3, .t 25)]) (rg 0 16),
    ob 27 (.call false (.f 61) [.t 26]) (rg 0 17),
    ob 28 (.faddr 13 (.t 3)) (rg 0 18),
    ⟨none, none, .store 5 (.t 28) (.t 27), (rg 0 19)⟩] true)
  (.seq (.reg [o 29 (.faddr 20 (.t 1)),
    ob 30 (.load 1 false (.t 29)) [0],
    ob 31 (.call false (.f 65) [.t 30]) [0, 1],
    ob 32 (.call false (.f 62) [.c (.str ⟨#[98, 101, 97, 116]⟩), .t 31]) [0, 1, 2],
    o 33 (.faddr 23 (.t 1)),
    ob 34 (.load 1 false (.t 33)) [4],
    ob 35 (.call false (.f 68) [.t 34, .f 69]) (rg 0 6),
    ob 36 (.call false (.f 62) [.c (.str ⟨#[105, 109, 97, 103, 101, 115]⟩), .t 35]) (rg 0 7),
    o 37 (.faddr 22 (.t 1)),
    ob 38 (.load 1 false (.t 37)) [8],
    ob 39 (.call false (.f 64) [.t 38]) (rg 0 10),
    ob 40 (.call false (.f 62) [.c (.str ⟨#[108, 111, 119, 68, 105, 115, 107]⟩), .t 39]) (rg 0 11),
    o 41 (.faddr 21 (.t 1)),
    ob 42 (.load 1 false (.t 41)) [12],
    ob 43 (.call false (.f 64) [.t 42]) (rg 0 14),
    ob 44 (.call false (.f 62) [.c (.str ⟨#[108, 111, 119, 77, 101, 109]⟩), .t 43]) (rg 0 15),
    o 45 (.faddr 19 (.t 1)),
    ob 46 (.load 1 false (.t 45)) [16],
    ob 47 (.call false (.f 64) [.t 46]) (rg 0 18),
    ob 48 (.call false (.f 62) [.c (.str ⟨#[114, 101, 97, 100, 121]⟩), .t 47]) (rg 0 19),
    ob 49 (.lit 6 5 [.str ⟨#[]⟩, .int .i64 0, .int .i64 0, .str ⟨#[]⟩, .ns 5, .ns 6] [(0, .t 32), (1, .t 36), (2, .t 40), (3, .t 44), (4, .t 48)]) (rg 0 20),
    ob 50 (.call false (.f 61) [.t 49]) (rg 0 21),
    ob 51 (.faddr 18 (.t 3)) (rg 0 22),
    ⟨none, none, .store 5 (.t 51) (.t 50), (rg 0 23)⟩] true)
  (.seq (.reg [o 52 (.load 23 true (.t 3)),
    ⟨none, none, .store 23 (.t 2) (.t 52), []⟩] false)
  (.ret))))))
def K9 : IFn := ⟨1, 53, [.cell 2 23 true], false, K9_c⟩
def Q1hp : IR :=
  .seq (.reg [o 1 (.box 24 (.t 0)),
    o 2 (.zero [.str ⟨#[]⟩, .str ⟨#[]⟩, .str ⟨#[]⟩, .int .i64 0, .int .i64 0, .int .i64 0, .int .i64 0, .bool false, .int .i64 0, .ns 2, .ns 5, .ns 1, .ns 2, .int .i64 0, .int .i64 0, .str ⟨#[]⟩, .ns 5, .ns 6, .int .i64 0, .int .i64 0, .str ⟨#[]⟩, .ns 5, .ns 6])] false)
  (.seq (.reg [o 6 (.faddr 0 (.t 1)),
    o 7 (.load 13 true (.t 6)),
    o 3 (.zero [.str ⟨#[]⟩, .str ⟨#[]⟩, .str ⟨#[]⟩, .int .i64 0, .int .i64 0, .int .i64 0, .int .i64 0, .bool false, .int .i64 0, .ns 2, .ns 5, .ns 1, .ns 2]),
    ⟨none, none, .store 13 (.t 3) (.t 7), []⟩] false)
  (.seq (.reg [o 8 (.faddr 0 (.t 3)),
    ⟨none, none, .store 1 (.t 8) (.c (.str ⟨#[78, 111, 100, 101]⟩)), []⟩] false)
  (.seq (.reg [o 9 (.faddr 13 (.t 1)),
    ob 10 (.load 3 true (.t 9)) [0],
    ob 11 (.call false (.f 72) [.t 10]) [0, 1],
    ob 12 (.call false (.f 71) [.c (.str ⟨#[99, 97, 112, 97, 99, 105, 116, 121]⟩), .t 11]) [0, 1, 2],
    o 13 (.faddr 17 (.t 1)),
    ob 14 (.load 1 false (.t 13)) [4],
    ob 15 (.call false (.f 73) [.t 14]) (rg 0 6),
    ob 16 (.call false (.f 71) [.c (.str ⟨#[99, 111, 114, 100, 111, 110, 101, 100]⟩), .t 15]) (rg 0 7),
    o 17 (.faddr 16 (.t 1)),
    ob 18 (.load 1 false (.t 17)) [8],
    ob 19 (.call false (.f 74) [.t 18]) (rg 0 10),
    ob 20 (.call false (.f 71) [.c (.str ⟨#[109, 97, 120, 80, 111, 100, 115]⟩), .t 19]) (rg 0 11),
    o 21 (.faddr 18 (.t 1)),
    ob 22 (.load 1 false (.t 21)) [12],
    ob 23 (.call false (.f 75) [.t 22]) (rg 0 14),
    ob 24 (.call false (.f 71) [.c (.str ⟨#[116, 97, 105, 110, 116, 115]⟩), .t 23]) (rg 0 15),
    ob 25 (.lit 6 4 [.str ⟨#[]⟩, .int .i64 0, .int .i64 0, .str ⟨#[]⟩, .ns 5, .ns 6] [(0, .t 12), (1, .t 16), (2, .t 20), (3, .t 24)]) (rg 0 16),
    ob 26 (.call false (.f 70) [.t 25]) (rg 0 17),
    o 4 (.zero [.int .i64 0, .int .i64 0, .str ⟨#[]⟩, .ns 5, .ns 6]),
    ⟨none, none, .store 5 (.t 4) (.t 26), (rg 0 19)⟩] true)
  (.seq (.reg [o 27 (.faddr 20 (.t 1)),
    ob 28 (.load 1 false (.t 27)) [0],
    ob 29 (.call false (.f 74) [.t 28]) [0, 1],
    ob 30 (.call false (.f 71) [.c (.str ⟨#[98, 101, 97, 116]⟩), .t 29]) [0, 1, 2],
    o 31 (.faddr 23 (.t 1)),
    ob 32 (.load 1 false (.t 31)) [4],
    ob 33 (.call false (.f 76) [.t 32]) (rg 0 6),
    ob 34 (.call false (.f 71) [.c (.str ⟨#[105, 109, 97, 103, 101, 115]⟩), .t 33]) (rg 0 7),
    o 35 (.faddr 22 (.t 1)),
    ob 36 (.load 1 false (.t 35)) [8],
    ob 37 (.call false (.f 73) [.t 36]) (rg 0 10),
    ob 38 (.call false (.f 71) [.c (.str ⟨#[108, 111, 119, 68, 105, 115, 107]⟩), .t 37]) (rg 0 11),
    o 39 (.faddr 21 (.t 1)),
    ob 40 (.load 1 false (.t 39)) [12],
    ob 41 (.call false (.f 73) [.t 40]) (rg 0 14),
    ob 42 (.call false (.f 71) [.c (.str ⟨#[108, 111, 119, 77, 101, 109]⟩), .t 41]) (rg 0 15),
    o 43 (.faddr 19 (.t 1)),
    ob 44 (.load 1 false (.t 43)) [16],
    ob 45 (.call false (.f 73) [.t 44]) (rg 0 18),
    ob 46 (.call false (.f 71) [.c (.str ⟨#[114, 101, 97, 100, 121]⟩), .t 45]) (rg 0 19),
    ob 47 (.lit 6 5 [.str ⟨#[]⟩, .int .i64 0, .int .i64 0, .str ⟨#[]⟩, .ns 5, .ns 6] [(0, .t 30), (1, .t 34), (2, .t 38), (3, .t 42), (4, .t 46)]) (rg 0 20),
    ob 48 (.call false (.f 70) [.t 47]) (rg 0 21),
    o 5 (.zero [.int .i64 0, .int .i64 0, .str ⟨#[]⟩, .ns 5, .ns 6]),
    ⟨none, none, .store 5 (.t 5) (.t 48), (rg 0 23)⟩] true)
  (.seq (.reg [o 49 (.load 13 true (.t 3)),
    o 50 (.load 5 true (.t 4)),
    o 51 (.load 5 true (.t 5)),
    o 52 (.build [.str ⟨#[]⟩, .str ⟨#[]⟩, .str ⟨#[]⟩, .int .i64 0, .int .i64 0, .int .i64 0, .int .i64 0, .bool false, .int .i64 0, .ns 2, .ns 5, .ns 1, .ns 2, .int .i64 0, .int .i64 0, .str ⟨#[]⟩, .ns 5, .ns 6, .int .i64 0, .int .i64 0, .str ⟨#[]⟩, .ns 5, .ns 6] [(0, 13, .t 49), (13, 5, .t 50), (18, 5, .t 51)]),
    ⟨none, none, .store 23 (.t 2) (.t 52), []⟩] false)
  (.ret))))))
def K2a : IFn := ⟨1, 53, [.cell 2 23 true], false, Q1hp⟩
def Kb_c : IR :=
  .seq (.reg [o 1 (.box 11 (.t 0)),
    o 2 (.zero [.int .i64 0, .int .i64 0, .str ⟨#[]⟩, .ns 5, .ns 6])] false)
  (.seq (.reg [o 3 (.faddr 0 (.t 1)),
    ob 4 (.load 1 false (.t 3)) [0],
    ob 5 (.call false (.f 77) [.t 4, .f 78]) [0, 1],
    ob 6 (.call false (.f 62) [.c (.str ⟨#[108, 97, 98, 101, 108, 115]⟩), .t 5]) [0, 1, 2],
    o 7 (.faddr 1 (.t 1)),
    ob 8 (.load 10 true (.t 7)) [4],
    ob 9 (.call false (.f 56) [.t 8]) (rg 0 6),
    ob 10 (.call false (.f 62) [.c (.str ⟨#[115, 112, 101, 99]⟩), .t 9]) (rg 0 7),
    ob 11 (.lit 6 2 [.str ⟨#[]⟩, .int .i64 0, .int .i64 0, .str ⟨#[]⟩, .ns 5, .ns 6] [(0, .t 6), (1, .t 10)]) (rg 0 8),
    ob 12 (.call false (.f 61) [.t 11]) (rg 0 9),
    ⟨none, none, .store 5 (.t 2) (.t 12), (rg 0 10)⟩] true)
  (.ret))
def Kb : IFn := ⟨1, 13, [.cell 2 5 true], false, Kb_c⟩
def Q1hu : IR :=
  .seq (.reg [o 1 (.box 11 (.t 0)),
    o 2 (.zero [.int .i64 0, .int .i64 0, .str ⟨#[]⟩, .ns 5, .ns 6])] false)
  (.seq (.reg [o 3 (.faddr 0 (.t 1)),
    ob 4 (.load 1 false (.t 3)) [0],
    ob 5 (.call false (.f 79) [.t 4]) [0, 1],
    ob 6 (.call false (.f 71) [.c (.str ⟨#[108, 97, 98, 101, 108, 115]⟩), .t 5]) [0, 1, 2],
    o 7 (.faddr 1 (.t 1)),
    ob 8 (.load 10 true (.t 7)) [4],
    ob 9 (.call false (.f 59) [.t 8]) (rg 0 6),
    ob 10 (.call false (.f 71) [.c (.str ⟨#[115, 112, 101, 99]⟩), .t 9]) (rg 0 7),
    ob 11 (.lit 6 2 [.str ⟨#[]⟩, .int .i64 0, .int .i64 0, .str ⟨#[]⟩, .ns 5, .ns 6] [(0, .t 6), (1, .t 10)]) (rg 0 8),
    ob 12 (.call false (.f 70) [.t 11]) (rg 0 9),
    ⟨none, none, .store 5 (.t 2) (.t 12), (rg 0 10)⟩] true)
  (.ret))
def K2f : IFn := ⟨1, 13, [.cell 2 5 true], false, Q1hu⟩
def Qj7 : List Nat := [100012, 1, 2, 6]
def Q1a6 : IR :=
  .seq (.seq (.reg [o 31 (.mov (.t 6)),
        o 32 (.faddr 4 (.t 2)),
        o 33 (.load 1 false (.t 32)),
        o 34 (.len false (.t 33)),
        o 35 (.bin .lss (.t 31) (.t 34)),
        o 36 (.mov (.t 35)),
        ⟨(some 37), (some (36, true)), .mov (.t 1), []⟩,
        ⟨(some 38), (some (36, true)), .bin .geq (.t 37) (.c (.int .i64 0)), []⟩,
        o 39 (.pick (.t 36) (.t 38) (.c (.bool false)))] false)
      (.cond (.t 39) (.skip)
        (.exit 2)))
    (.seq (.block 3 (.reg [o 42 (.faddr 4 (.t 2)),
        ob 43 (.load 1 false (.t 42)) [0],
        o 44 (.mov (.t 6)),
        ob 45 (.iaddr 6 (.t 43) (.t 44)) [0, 1, 2],
        ob 46 (.faddr 1 (.t 45)) [0, 1, 2, 3],
        ob 47 (.load 5 true (.t 46)) (rg 0 5),
        o 48 (.mov (.t 1)),
        o 49 (.faddr 4 (.t 2)),
        ob 50 (.load 1 false (.t 49)) [7],
        o 51 (.mov (.t 6)),
        ob 52 (.iaddr 6 (.t 50) (.t 51)) [7, 8, 9],
        ob 53 (.faddr 0 (.t 52)) [7, 8, 9, 10],
        ob 54 (.load 1 false (.t 53)) (rg 7 12),
        ob 55 (.len true (.t 54)) (rg 7 13),
        ob 56 (.bin .sub (.t 48) (.t 55)) (rg 6 14),
        ob 57 (.call false (.f 30) [.t 47, .t 56]) (rg 0 15),
        ob 1 (.mov (.t 57)) (rg 0 16)] true))
    (.reg [o 40 (.mov (.t 6)),
    o 41 (.bin .add (.t 40) (.c (.int .i64 1))),
    o 6 (.mov (.t 41))] false))
def Qgt : List Nat := [100011, 1, 2, 5]
def Q1a1 : IR :=
  .seq (.seq (.reg [o 13 (.mov (.t 5)),
        o 14 (.faddr 3 (.t 2)),
        o 15 (.load 1 false (.t 14)),
        o 16 (.len false (.t 15)),
        o 17 (.bin .lss (.t 13) (.t 16)),
        o 18 (.mov (.t 17)),
        ⟨(some 19), (some (18, true)), .mov (.t 1), []⟩,
        ⟨(some 20), (some (18, true)), .bin .geq (.t 19) (.c (.int .i64 0)), []⟩,
        o 21 (.pick (.t 18) (.t 20) (.c (.bool false)))] false)
      (.cond (.t 21) (.skip)
        (.exit 0)))
    (.seq (.block 1 (.reg [o 24 (.faddr 3 (.t 2)),
        o 25 (.load 1 false (.t 24)),
        o 26 (.mov (.t 5)),
        o 27 (.iaddr 5 (.t 25) (.t 26)),
        o 28 (.load 5 true (.t 27)),
        o 29 (.mov (.t 1)),
        o 30 (.call false (.f 30) [.t 28, .t 29]),
        o 1 (.mov (.t 30))] false))
    (.reg [o 22 (.mov (.t 5)),
    o 23 (.bin .add (.t 22) (.c (.int .i64 1))),
    o 5 (.mov (.t 23))] false))
def Q1gh : IR :=
  .seq (.reg [o 2 (.box 5 (.t 0)),
    o 4 (.mov (.c (.int .i64 0)))] false)
  (.seq (.reg [o 7 (.mov (.t 1)),
    o 8 (.bin .sub (.t 7) (.c (.int .i64 1))),
    o 9 (.faddr 2 (.t 2)),
    o 10 (.load 1 false (.t 9)),
    o 11 (.len true (.t 10)),
    o 12 (.bin .sub (.t 8) (.t 11)),
    o 1 (.mov (.t 12))] false)
  (.seq (.seq (.reg [o 5 (.mov (.c (.int .i64 0)))] false)
    (.block 0 (.loop Qgt Q1a1)))
  (.seq (.seq (.reg [o 6 (.mov (.c (.int .i64 0)))] false)
    (.block 2 (.loop Qj7 Q1a6)))
  (.seq (.reg [o 58 (.mov (.t 1)),
    o 4 (.mov (.t 58))] false)
  (.ret)))))
def K28 : IFn := ⟨2, 59, [.tmp 4], false, Q1gh⟩
def Qmb : List Nat := [100013, 1, 2, 22, 23]
def Q1fb : IR :=
  .seq (.reg [o 24 (.bin .lss (.t 23) (.t 22))] false)
    (.seq (.cond (.t 24) (.skip)
        (.exit 0))
    (.seq (.block 1 (.seq (.reg [o 25 (.mov (.t 23)),
          o 3 (.mov (.t 25))] false)
        (.reg [o 26 (.faddr 12 (.t 1)),
        ob 27 (.load 1 false (.t 26)) [0],
        o 28 (.mov (.t 3)),
        o 29 (.faddr 12 (.t 1)),
        ob 30 (.load 1 false (.t 29)) [3],
        o 31 (.mov (.t 3)),
        ob 32 (.iaddr 2 (.t 30) (.t 31)) [3, 4, 5],
        ob 33 (.faddr 1 (.t 32)) [3, 4, 5, 6],
        ob 34 (.load 1 false (.t 33)) (rg 3 8),
        ob 35 (.call false (.f 82) [.t 34]) (rg 3 9),
        ob 36 (.iaddr 2 (.t 27) (.t 28)) (rg 0 10),
        ob 37 (.faddr 1 (.t 36)) (rg 0 11),
        ⟨none, none, .store 1 (.t 37) (.t 35), (rg 0 12)⟩] true)))
    (.reg [o 38 (.bin .add (.t 23) (.c (.int .i64 1))),
    o 23 (.mov (.t 38))] false)))
def Kf_c : IR :=
  .seq (.reg [o 1 (.box 13 (.t 0)),
    o 2 (.zero [.str ⟨#[]⟩, .str ⟨#[]⟩, .str ⟨#[]⟩, .int .i64 0, .int .i64 0, .int .i64 0, .int .i64 0, .bool false, .int .i64 0, .ns 2, .ns 5, .ns 1, .ns 2])] false)
  (.seq (.reg [o 4 (.faddr 9 (.t 1)),
    ob 5 (.load 1 false (.t 4)) [0],
    ob 6 (.call false (.f 80) [.t 5]) [0, 1],
    o 7 (.faddr 10 (.t 1)),
    ob 8 (.load 1 false (.t 7)) [3],
    ob 9 (.call false (.f 81) [.t 8]) (rg 0 5),
    o 10 (.faddr 11 (.t 1)),
    ob 11 (.load 1 false (.t 10)) [6],
    ob 12 (.call false (.f 82) [.t 11]) (rg 0 8),
    o 13 (.faddr 12 (.t 1)),
    ob 14 (.load 1 false (.t 13)) [9],
    ob 15 (.call false (.f 83) [.t 14]) (rg 0 11),
    ob 16 (.faddr 9 (.t 1)) (rg 0 5 ++ [6, 7, 9, 10]),
    ⟨none, none, .store 1 (.t 16) (.t 6), (rg 0 13)⟩,
    ob 17 (.faddr 10 (.t 1)) (rg 0 14),
    ⟨none, none, .store 1 (.t 17) (.t 9), (rg 0 15)⟩,
    ob 18 (.faddr 11 (.t 1)) (rg 0 16),
    ⟨none, none, .store 1 (.t 18) (.t 12), (rg 0 17)⟩,
    ob 19 (.faddr 12 (.t 1)) (rg 0 18),
    ⟨none, none, .store 1 (.t 19) (.t 15), (rg 0 19)⟩] true)
  (.seq (.seq (.reg [o 20 (.faddr 12 (.t 1)),
      o 21 (.load 1 false (.t 20)),
      o 22 (.len false (.t 21)),
      o 23 (.mov (.c (.int .i64 0)))] false)
    (.block 0 (.loop Qmb Q1fb)))
  (.seq (.reg [o 39 (.load 13 true (.t 1)),
    ⟨none, none, .store 13 (.t 2) (.t 39), []⟩] false)
  (.ret))))
def Kf : IFn := ⟨1, 40, [.cell 2 13 true], false, Kf_c⟩
def Ks_c : IR :=
  .seq (.reg [o 3 (.box 5 (.t 1)),
    o 4 (.zero [.str ⟨#[]⟩, .int .i64 0, .int .i64 0, .int .i64 0, .ns 11, .ns 3, .ns 3, .ns 5, .ns 4, .ns 5])] false)
  (.seq (.reg [o 5 (.mov (.t 0)),
    o 6 (.load 5 true (.t 3)),
    o 7 (.call false (.f 36) [.t 5, .t 6])] false)
  (.seq (.reg [o 8 (.mov (.t 0)),
    o 9 (.load 5 true (.t 3)),
    ob 10 (.call false (.f 84) [.t 8, .t 9, .c (.str ⟨#[110, 111, 100, 101]⟩)]) [0, 1],
    o 11 (.mov (.t 0)),
    o 12 (.load 5 true (.t 3)),
    ob 13 (.call false (.f 39) [.t 11, .t 12, .c (.str ⟨#[112, 114, 105, 111, 114, 105, 116, 121]⟩)]) (rg 0 5),
    o 14 (.mov (.t 0)),
    o 15 (.load 5 true (.t 3)),
    ob 16 (.call false (.f 39) [.t 14, .t 15, .c (.str ⟨#[114, 101, 115, 116, 97, 114, 116]⟩)]) (rg 0 8),
    o 17 (.mov (.t 0)),
    o 18 (.load 5 true (.t 3)),
    ob 19 (.call false (.f 39) [.t 17, .t 18, .c (.str ⟨#[103, 114, 97, 99, 101]⟩)]) (rg 0 11),
    o 20 (.mov (.t 0)),
    o 21 (.load 5 true (.t 3)),
    o 22 (.mov (.t 0)),
    ob 23 (.mkfn 86 [.t 22] []) [14],
    ob 24 (.call false (.f 85) [.t 20, .t 21, .c (.str ⟨#[99, 111, 110, 116, 97, 105, 110, 101, 114, 115]⟩), .t 23]) (rg 0 16),
    o 25 (.mov (.t 0)),
    o 26 (.load 5 true (.t 3)),
    o 27 (.mov (.t 0)),
    ob 28 (.mkfn 88 [.t 27] []) [19],
    ob 29 (.call false (.f 87) [.t 25, .t 26, .c (.str ⟨#[110, 111, 100, 101, 83, 101, 108, 101, 99, 116, 111, 114]⟩), .t 28]) (rg 0 21),
    o 30 (.mov (.t 0)),
    o 31 (.load 5 true (.t 3)),
    o 32 (.mov (.t 0)),
    ob 33 (.mkfn 90 [.t 32] []) [24],
    ob 34 (.call false (.f 89) [.t 30, .t 31, .c (.str ⟨#[110, 111, 100, 101, 84, 101, 114, 109, 115]⟩), .t 33]) (rg 0 26),
    o 35 (.mov (.t 0)),
    o 36 (.load 5 true (.t 3)),
    o 37 (.mov (.t 0)),
    ob 38 (.mkfn 92 [.t 37] []) [29],
    ob 39 (.call false (.f 91) [.t 35, .t 36, .c (.str ⟨#[112, 111, 100, 84, 101, 114, 109, 115]⟩), .t 38]) (rg 0 31),
    o 40 (.mov (.t 0)),
    o 41 (.load 5 true (.t 3)),
    o 42 (.mov (.t 0)),
    ob 43 (.mkfn 94 [.t 42] []) [34],
    ob 44 (.call false (.f 93) [.t 40, .t 41, .c (.str ⟨#[115, 112, 114, 101, 97, 100]⟩), .t 43]) (rg 0 36),
    o 45 (.mov (.t 0)),
    o 46 (.load 5 true (.t 3)),
    o 47 (.mov (.t 0)),
    ob 48 (.mkfn 96 [.t 47] []) [39],
    ob 49 (.call false (.f 95) [.t 45, .t 46, .c (.str ⟨#[116, 111, 108, 101, 114, 97, 116, 105, 111, 110, 115]⟩), .t 48]) (rg 0 41),
    ob 50 (.build [.str ⟨#[]⟩, .int .i64 0, .int .i64 0, .int .i64 0, .ns 11, .ns 3, .ns 3, .ns 5, .ns 4, .ns 5] [(0, 1, .t 10), (1, 1, .t 13), (2, 1, .t 16), (3, 1, .t 19), (4, 1, .t 24), (5, 1, .t 29), (6, 1, .t 34), (7, 1, .t 39), (8, 1, .t 44), (9, 1, .t 49)]) (rg 0 42),
    ⟨none, none, .store 10 (.t 4) (.t 50), (rg 0 43)⟩] true)
  (.ret)))
def Ks : IFn := ⟨2, 51, [.cell 4 10 true], false, Ks_c⟩
def Ku_c : IR :=
  .seq (.reg [o 3 (.box 5 (.t 1)),
    o 4 (.zero [.int .i64 0, .bool false, .int .i64 0, .int .i64 0, .int .i64 0, .ns 7, .int .i64 0, .str ⟨#[]⟩, .str ⟨#[]⟩])] false)
  (.seq (.reg [o 5 (.mov (.t 0)),
    o 6 (.load 5 true (.t 3)),
    o 7 (.call false (.f 36) [.t 5, .t 6])] false)
  (.seq (.reg [o 8 (.mov (.t 0)),
    o 9 (.load 5 true (.t 3)),
    ob 10 (.call false (.f 39) [.t 8, .t 9, .c (.str ⟨#[112, 104, 97, 115, 101]⟩)]) [0, 1],
    o 11 (.mov (.t 0)),
    o 12 (.load 5 true (.t 3)),
    ob 13 (.call false (.f 40) [.t 11, .t 12, .c (.str ⟨#[114, 101, 97, 100, 121]⟩)]) (rg 0 5),
    o 14 (.mov (.t 0)),
    o 15 (.load 5 true (.t 3)),
    ob 16 (.call false (.f 39) [.t 14, .t 15, .c (.str ⟨#[114, 101, 97, 100, 121, 83, 105, 110, 99, 101]⟩)]) (rg 0 8),
    o 17 (.mov (.t 0)),
    o 18 (.load 5 true (.t 3)),
    ob 19 (.call false (.f 39) [.t 17, .t 18, .c (.str ⟨#[115, 116, 97, 114, 116, 101, 100]⟩)]) (rg 0 11),
    o 20 (.mov (.t 0)),
    o 21 (.load 5 true (.t 3)),
    ob 22 (.call false (.f 39) [.t 20, .t 21, .c (.str ⟨#[102, 105, 110, 105, 115, 104, 101, 100]⟩)]) (rg 0 14),
    o 23 (.mov (.t 0)),
    o 24 (.load 5 true (.t 3)),
    o 25 (.mov (.t 0)),
    ob 26 (.mkfn 98 [.t 25] []) [17],
    ob 27 (.call false (.f 97) [.t 23, .t 24, .c (.str ⟨#[99, 111, 110, 116, 97, 105, 110, 101, 114, 115]⟩), .t 26]) (rg 0 19),
    o 28 (.mov (.t 0)),
    o 29 (.load 5 true (.t 3)),
    ob 30 (.call false (.f 39) [.t 28, .t 29, .c (.str ⟨#[97, 100, 100, 114, 101, 115, 115]⟩)]) (rg 0 22),
    o 31 (.mov (.t 0)),
    o 32 (.load 5 true (.t 3)),
    ob 33 (.call false (.f 84) [.t 31, .t 32, .c (.str ⟨#[110, 111, 109, 105, 110, 97, 116, 101, 100]⟩)]) (rg 0 25),
    o 34 (.mov (.t 0)),
    o 35 (.load 5 true (.t 3)),
    ob 36 (.call false (.f 84) [.t 34, .t 35, .c (.str ⟨#[114, 101, 97, 115, 111, 110]⟩)]) (rg 0 28),
    ob 37 (.build [.int .i64 0, .bool false, .int .i64 0, .int .i64 0, .int .i64 0, .ns 7, .int .i64 0, .str ⟨#[]⟩, .str ⟨#[]⟩] [(0, 1, .t 10), (1, 1, .t 13), (2, 1, .t 16), (3, 1, .t 19), (4, 1, .t 22), (5, 1, .t 27), (6, 1, .t 30), (7, 1, .t 33), (8, 1, .t 36)]) (rg 0 29),
    ⟨none, none, .store 9 (.t 4) (.t 37), (rg 0 30)⟩] true)
  (.ret)))
def Ku : IFn := ⟨2, 38, [.cell 4 9 true], false, Ku_c⟩
def Kw_c : IR :=
  .seq (.reg [o 3 (.box 5 (.t 1)),
    o 4 (.zero [.int .i64 0, .int .i64 0, .str ⟨#[]⟩, .ns 5, .ns 6])] false)
  (.seq (.reg [o 5 (.mov (.t 0)),
    o 6 (.mov (.t 0)),
    o 7 (.nilck (.t 6)),
    o 8 (.faddr 0 (.t 7)),
    o 9 (.load 1 false (.t 8)),
    o 10 (.mov (.t 9)),
    ⟨(some 11), (some (10, false)), .faddr 0 (.t 3), []⟩,
    ⟨(some 12), (some (10, false)), .load 1 false (.t 11), []⟩,
    ⟨(some 13), (some (10, false)), .bin .neq (.t 12) (.c (.int .i64 5)), []⟩,
    ⟨(some 14), (some (10, false)), .mov (.t 13), []⟩,
    ⟨(some 15), (some (14, true)), .faddr 0 (.t 3), []⟩,
    ⟨(some 16), (some (14, true)), .load 1 false (.t 15), []⟩,
    ⟨(some 17), (some (14, true)), .bin .neq (.t 16) (.c (.int .i64 0)), []⟩,
    ⟨(some 18), (some (10, false)), .pick (.t 14) (.t 17) (.c (.bool false)), []⟩,
    o 19 (.pick (.t 10) (.c (.bool true)) (.t 18)),
    o 20 (.nilck (.t 5)),
    o 21 (.faddr 0 (.t 20)),
    ⟨none, none, .store 1 (.t 21) (.t 19), []⟩] false)
  (.seq (.reg [o 22 (.load 5 true (.t 3)),
    ⟨none, none, .store 5 (.t 4) (.t 22), []⟩] false)
  (.ret)))
def Kw : IFn := ⟨2, 23, [.cell 4 5 true], false, Kw_c⟩
def Kr_c : IR :=
  .seq (.reg [o 3 (.box 5 (.t 1)),
    o 4 (.zero [.int .i64 0, .int .i64 0, .int .i64 0])] false)
  (.seq (.reg [o 5 (.mov (.t 0)),
    o 6 (.load 5 true (.t 3)),
    ob 7 (.call false (.f 39) [.t 5, .t 6, .c (.str ⟨#[99, 112, 117]⟩)]) [0, 1],
    o 8 (.mov (.t 0)),
    o 9 (.load 5 true (.t 3)),
    ob 10 (.call false (.f 39) [.t 8, .t 9, .c (.str ⟨#[109, 101, 109, 111, 114, 121]⟩)]) (rg 0 5),
    o 11 (.mov (.t 0)),
    o 12 (.load 5 true (.t 3)),
    ob 13 (.call false (.f 39) [.t 11, .t 12, .c (.str ⟨#[100, 105, 115, 107]⟩)]) (rg 0 8),
    ob 14 (.build [.int .i64 0, .int .i64 0, .int .i64 0] [(0, 1, .t 7), (1, 1, .t 10), (2, 1, .t 13)]) (rg 0 9),
    ⟨none, none, .store 3 (.t 4) (.t 14), (rg 0 10)⟩] true)
  (.ret))
def Kr : IFn := ⟨2, 15, [.cell 4 3 true], false, Kr_c⟩
def Kx_c : IR :=
  .seq (.reg [o 4 (.box 5 (.t 1)),
    o 6 (.zero [.int .i64 0, .int .i64 0, .str ⟨#[]⟩, .ns 5, .ns 6])] false)
  (.seq (.reg [o 7 (.mov (.t 0)),
    o 8 (.load 5 true (.t 4)),
    o 9 (.mov (.t 2)),
    o 10 (.call false (.f 106) [.t 7, .t 8, .t 9, .c (.int .i64 5)]),
    ⟨none, none, .store 5 (.t 6) (.t 10), []⟩] false)
  (.ret))
def Kx : IFn := ⟨3, 11, [.cell 6 5 true], false, Kx_c⟩
def Kn_c : IR :=
  .seq (.reg [o 4 (.box 5 (.t 1)),
    o 6 (.mov (.c (.int .i64 0)))] false)
  (.seq (.reg [o 7 (.mov (.t 0)),
    o 8 (.load 5 true (.t 4)),
    o 9 (.mov (.t 2)),
    o 10 (.call false (.f 106) [.t 7, .t 8, .t 9, .c (.int .i64 2)]),
    o 11 (.field 1 1 false (.t 10)),
    o 6 (.mov (.t 11))] false)
  (.ret))
def Kn : IFn := ⟨3, 12, [.tmp 6], false, Kn_c⟩
def Ki_c : IR :=
  .seq (.reg [o 4 (.box 5 (.t 1)),
    o 6 (.mov (.c (.bool false)))] false)
  (.seq (.reg [o 7 (.mov (.t 0)),
    o 8 (.load 5 true (.t 4)),
    o 9 (.mov (.t 2)),
    o 10 (.call false (.f 106) [.t 7, .t 8, .t 9, .c (.int .i64 1)]),
    o 11 (.field 1 1 false (.t 10)),
    o 12 (.bin .neq (.t 11) (.c (.int .i64 0))),
    o 6 (.mov (.t 12))] false)
  (.ret))
def Ki : IFn := ⟨3, 13, [.tmp 6], false, Ki_c⟩
def Qwr : List Nat := [100016, 3, 9, 16, 17, 18]
def Q1cy : IR :=
  .seq (.reg [o 19 (.bin .lss (.t 18) (.t 17))] false)
    (.seq (.cond (.t 19) (.skip)
        (.exit 0))
    (.seq (.block 1 (.seq (.reg [o 20 (.iaddr 5 (.t 16) (.t 18)),
          o 21 (.load 5 true (.t 20)),
          o 11 (.zero [.int .i64 0, .int .i64 0, .str ⟨#[]⟩, .ns 5, .ns 6]),
          ⟨none, none, .store 5 (.t 11) (.t 21), []⟩] false)
        (.reg [o 22 (.mov (.t 9)),
        o 23 (.mov (.t 3)),
        o 24 (.load 5 true (.t 11)),
        o 25 (.call false (.t 23) [.t 24]),
        o 26 (.lit 4 1 [.str ⟨#[]⟩, .str ⟨#[]⟩, .int .i64 0, .int .i64 0] [(0, .t 25)]),
        o 27 (.append 4 48 (.t 22) (.t 26)),
        o 9 (.mov (.t 27))] false)))
    (.reg [o 28 (.bin .add (.t 18) (.c (.int .i64 1))),
    o 18 (.mov (.t 28))] false)))
def Q1ic : IR :=
  .seq (.reg [o 5 (.box 5 (.t 1)),
    o 8 (.mov (.c (.ns 4)))] false)
  (.seq (.reg [o 9 (.mov (.c (.ns 4)))] false)
  (.seq (.seq (.reg [o 12 (.mov (.t 0)),
      o 13 (.load 5 true (.t 5)),
      o 14 (.mov (.t 2)),
      o 15 (.call false (.f 106) [.t 12, .t 13, .t 14, .c (.int .i64 4)]),
      o 16 (.field 3 1 false (.t 15)),
      o 17 (.len false (.t 16)),
      o 18 (.mov (.c (.int .i64 0)))] false)
    (.block 0 (.loop Qwr Q1cy)))
  (.seq (.reg [o 29 (.mov (.t 9)),
    o 8 (.mov (.t 29))] false)
  (.ret))))
def K11 : IFn := ⟨4, 30, [.tmp 8], false, Q1ic⟩
def Ky_c : IR :=
  .seq (.reg [o 3 (.box 5 (.t 1)),
    o 4 (.zero [.str ⟨#[]⟩, .str ⟨#[]⟩, .int .i64 0, .int .i64 0])] false)
  (.seq (.reg [o 5 (.mov (.t 0)),
    o 6 (.load 5 true (.t 3)),
    o 7 (.call false (.f 36) [.t 5, .t 6])] false)
  (.seq (.reg [o 8 (.mov (.t 0)),
    o 9 (.load 5 true (.t 3)),
    ob 10 (.call false (.f 84) [.t 8, .t 9, .c (.str ⟨#[107, 101, 121]⟩)]) [0, 1],
    o 11 (.mov (.t 0)),
    o 12 (.load 5 true (.t 3)),
    ob 13 (.call false (.f 84) [.t 11, .t 12, .c (.str ⟨#[118, 97, 108, 117, 101]⟩)]) (rg 0 5),
    o 14 (.mov (.t 0)),
    o 15 (.load 5 true (.t 3)),
    ob 16 (.call false (.f 39) [.t 14, .t 15, .c (.str ⟨#[101, 102, 102, 101, 99, 116]⟩)]) (rg 0 8),
    o 17 (.mov (.t 0)),
    o 18 (.load 5 true (.t 3)),
    ob 19 (.call false (.f 39) [.t 17, .t 18, .c (.str ⟨#[115, 105, 110, 99, 101]⟩)]) (rg 0 11),
    ob 20 (.build [.str ⟨#[]⟩, .str ⟨#[]⟩, .int .i64 0, .int .i64 0] [(0, 1, .t 10), (1, 1, .t 13), (2, 1, .t 16), (3, 1, .t 19)]) (rg 0 12),
    ⟨none, none, .store 4 (.t 4) (.t 20), (rg 0 13)⟩] true)
  (.ret)))
def Ky : IFn := ⟨2, 21, [.cell 4 4 true], false, Ky_c⟩
def Qwh : List Nat := [100017, 3, 9, 16, 17, 18]
def Q1d1 : IR :=
  .seq (.reg [o 19 (.bin .lss (.t 18) (.t 17))] false)
    (.seq (.cond (.t 19) (.skip)
        (.exit 0))
    (.seq (.block 1 (.seq (.reg [o 20 (.iaddr 5 (.t 16) (.t 18)),
          o 21 (.load 5 true (.t 20)),
          o 11 (.zero [.int .i64 0, .int .i64 0, .str ⟨#[]⟩, .ns 5, .ns 6]),
          ⟨none, none, .store 5 (.t 11) (.t 21), []⟩] false)
        (.reg [o 22 (.mov (.t 9)),
        o 23 (.mov (.t 3)),
        o 24 (.load 5 true (.t 11)),
        o 25 (.call false (.t 23) [.t 24]),
        o 26 (.lit 3 1 [.str ⟨#[]⟩, .int .i64 0, .int .i64 0] [(0, .t 25)]),
        o 27 (.append 3 32 (.t 22) (.t 26)),
        o 9 (.mov (.t 27))] false)))
    (.reg [o 28 (.bin .add (.t 18) (.c (.int .i64 1))),
    o 18 (.mov (.t 28))] false)))
def Q1ij : IR :=
  .seq (.reg [o 5 (.box 5 (.t 1)),
    o 8 (.mov (.c (.ns 3)))] false)
  (.seq (.reg [o 9 (.mov (.c (.ns 3)))] false)
  (.seq (.seq (.reg [o 12 (.mov (.t 0)),
      o 13 (.load 5 true (.t 5)),
      o 14 (.mov (.t 2)),
      o 15 (.call false (.f 106) [.t 12, .t 13, .t 14, .c (.int .i64 4)]),
      o 16 (.field 3 1 false (.t 15)),
      o 17 (.len false (.t 16)),
      o 18 (.mov (.c (.int .i64 0)))] false)
    (.block 0 (.loop Qwh Q1d1)))
  (.seq (.reg [o 29 (.mov (.t 9)),
    o 8 (.mov (.t 29))] false)
  (.ret))))
def K14 : IFn := ⟨4, 30, [.tmp 8], false, Q1ij⟩
def Kk_c : IR :=
  .seq (.reg [o 3 (.box 5 (.t 1)),
    o 4 (.zero [.str ⟨#[]⟩, .int .i64 0, .int .i64 0])] false)
  (.seq (.reg [o 5 (.mov (.t 0)),
    o 6 (.load 5 true (.t 3)),
    o 7 (.call false (.f 36) [.t 5, .t 6])] false)
  (.seq (.reg [o 8 (.mov (.t 0)),
    o 9 (.load 5 true (.t 3)),
    ob 10 (.call false (.f 84) [.t 8, .t 9, .c (.str ⟨#[110, 97, 109, 101]⟩)]) [0, 1],
    o 11 (.mov (.t 0)),
    o 12 (.load 5 true (.t 3)),
    ob 13 (.call false (.f 39) [.t 11, .t 12, .c (.str ⟨#[115, 105, 122, 101]⟩)]) (rg 0 5),
    o 14 (.mov (.t 0)),
    o 15 (.load 5 true (.t 3)),
    ob 16 (.call false (.f 39) [.t 14, .t 15, .c (.str ⟨#[117, 115, 101, 100]⟩)]) (rg 0 8),
    ob 17 (.build [.str ⟨#[]⟩, .int .i64 0, .int .i64 0] [(0, 1, .t 10), (1, 1, .t 13), (2, 1, .t 16)]) (rg 0 9),
    ⟨none, none, .store 3 (.t 4) (.t 17), (rg 0 10)⟩] true)
  (.ret)))
def Kk : IFn := ⟨2, 18, [.cell 4 3 true], false, Kk_c⟩
def Q1gm : IR :=
  .seq (.reg [o 1 (.box 10 (.t 0)),
    o 2 (.zero [.int .i64 0, .int .i64 0, .str ⟨#[]⟩, .ns 5, .ns 6])] false)
  (.seq (.reg [o 3 (.faddr 4 (.t 1)),
    ob 4 (.load 1 false (.t 3)) [0],
    ob 5 (.call false (.f 107) [.t 4, .f 108]) [0, 1],
    ob 6 (.call false (.f 62) [.c (.str ⟨#[99, 111, 110, 116, 97, 105, 110, 101, 114, 115]⟩), .t 5]) [0, 1, 2],
    o 7 (.faddr 3 (.t 1)),
    ob 8 (.load 1 false (.t 7)) [4],
    ob 9 (.call false (.f 65) [.t 8]) (rg 0 6),
    ob 10 (.call false (.f 62) [.c (.str ⟨#[103, 114, 97, 99, 101]⟩), .t 9]) (rg 0 7),
    o 11 (.faddr 0 (.t 1)),
    ob 12 (.load 1 false (.t 11)) [8],
    ob 13 (.call false (.f 109) [.t 12]) (rg 0 10),
    ob 14 (.call false (.f 62) [.c (.str ⟨#[110, 111, 100, 101]⟩), .t 13]) (rg 0 11),
    o 15 (.faddr 5 (.t 1)),
    ob 16 (.load 1 false (.t 15)) [12],
    ob 17 (.call false (.f 110) [.t 16, .f 111]) (rg 0 14),
    ob 18 (.call false (.f 62) [.c (.str ⟨#[110, 111, 100, 101, 83, 101, 108, 101, 99, 116, 111, 114]⟩), .t 17]) (rg 0 15),
    o 19 (.faddr 6 (.t 1)),
    ob 20 (.load 1 false (.t 19)) [16],
    ob 21 (.call false (.f 112) [.t 20, .f 113]) (rg 0 18),
    ob 22 (.call false (.f 62) [.c (.str ⟨#[110, 111, 100, 101, 84, 101, 114, 109, 115]⟩), .t 21]) (rg 0 19),
    o 23 (.faddr 7 (.t 1)),
    ob 24 (.load 1 false (.t 23)) [20],
    ob 25 (.call false (.f 114) [.t 24, .f 115]) (rg 0 22),
    ob 26 (.call false (.f 62) [.c (.str ⟨#[112, 111, 100, 84, 101, 114, 109, 115]⟩), .t 25]) (rg 0 23),
    o 27 (.faddr 1 (.t 1)),
    ob 28 (.load 1 false (.t 27)) [24],
    ob 29 (.call false (.f 65) [.t 28]) (rg 0 26),
    ob 30 (.call false (.f 62) [.c (.str ⟨#[112, 114, 105, 111, 114, 105, 116, 121]⟩), .t 29]) (rg 0 27),
    o 31 (.faddr 2 (.t 1)),
    ob 32 (.load 1 false (.t 31)) [28],
    ob 33 (.call false (.f 65) [.t 32]) (rg 0 30),
    ob 34 (.call false (.f 62) [.c (.str ⟨#[114, 101, 115, 116, 97, 114, 116]⟩), .t 33]) (rg 0 31),
    o 35 (.faddr 8 (.t 1)),
    ob 36 (.load 1 false (.t 35)) [32],
    ob 37 (.call false (.f 116) [.t 36, .f 117]) (rg 0 34),
    ob 38 (.call false (.f 62) [.c (.str ⟨#[115, 112, 114, 101, 97, 100]⟩), .t 37]) (rg 0 35),
    o 39 (.faddr 9 (.t 1)),
    ob 40 (.load 1 false (.t 39)) [36],
    ob 41 (.call false (.f 118) [.t 40, .f 119]) (rg 0 38),
    ob 42 (.call false (.f 62) [.c (.str ⟨#[116, 111, 108, 101, 114, 97, 116, 105, 111, 110, 115]⟩), .t 41]) (rg 0 39),
    ob 43 (.lit 6 10 [.str ⟨#[]⟩, .int .i64 0, .int .i64 0, .str ⟨#[]⟩, .ns 5, .ns 6] [(0, .t 6), (1, .t 10), (2, .t 14), (3, .t 18), (4, .t 22), (5, .t 26), (6, .t 30), (7, .t 34), (8, .t 38), (9, .t 42)]) (rg 0 40),
    ob 44 (.call false (.f 61) [.t 43]) (rg 0 41),
    ⟨none, none, .store 5 (.t 2) (.t 44), (rg 0 42)⟩] true)
  (.ret))
def K1m : IFn := ⟨1, 45, [.cell 2 5 true], false, Q1gm⟩
def Q1g5 : IR :=
  .seq (.reg [o 1 (.box 9 (.t 0)),
    o 2 (.zero [.int .i64 0, .int .i64 0, .str ⟨#[]⟩, .ns 5, .ns 6])] false)
  (.seq (.reg [o 3 (.faddr 6 (.t 1)),
    ob 4 (.load 1 false (.t 3)) [0],
    ob 5 (.call false (.f 65) [.t 4]) [0, 1],
    ob 6 (.call false (.f 62) [.c (.str ⟨#[97, 100, 100, 114, 101, 115, 115]⟩), .t 5]) [0, 1, 2],
    o 7 (.faddr 5 (.t 1)),
    ob 8 (.load 1 false (.t 7)) [4],
    ob 9 (.call false (.f 120) [.t 8, .f 121]) (rg 0 6),
    ob 10 (.call false (.f 62) [.c (.str ⟨#[99, 111, 110, 116, 97, 105, 110, 101, 114, 115]⟩), .t 9]) (rg 0 7),
    o 11 (.faddr 4 (.t 1)),
    ob 12 (.load 1 false (.t 11)) [8],
    ob 13 (.call false (.f 65) [.t 12]) (rg 0 10),
    ob 14 (.call false (.f 62) [.c (.str ⟨#[102, 105, 110, 105, 115, 104, 101, 100]⟩), .t 13]) (rg 0 11),
    o 15 (.faddr 7 (.t 1)),
    ob 16 (.load 1 false (.t 15)) [12],
    ob 17 (.call false (.f 109) [.t 16]) (rg 0 14),
    ob 18 (.call false (.f 62) [.c (.str ⟨#[110, 111, 109, 105, 110, 97, 116, 101, 100]⟩), .t 17]) (rg 0 15),
    o 19 (.faddr 0 (.t 1)),
    ob 20 (.load 1 false (.t 19)) [16],
    ob 21 (.call false (.f 65) [.t 20]) (rg 0 18),
    ob 22 (.call false (.f 62) [.c (.str ⟨#[112, 104, 97, 115, 101]⟩), .t 21]) (rg 0 19),
    o 23 (.faddr 1 (.t 1)),
    ob 24 (.load 1 false (.t 23)) [20],
    ob 25 (.call false (.f 64) [.t 24]) (rg 0 22),
    ob 26 (.call false (.f 62) [.c (.str ⟨#[114, 101, 97, 100, 121]⟩), .t 25]) (rg 0 23),
    o 27 (.faddr 2 (.t 1)),
    ob 28 (.load 1 false (.t 27)) [24],
    ob 29 (.call false (.f 65) [.t 28]) (rg 0 26),
    ob 30 (.call false (.f 62) [.c (.str ⟨#[114, 101, 97, 100, 121, 83, 105, 110, 99, 101]⟩), .t 29]) (rg 0 27),
    o 31 (.faddr 8 (.t 1)),
    ob 32 (.load 1 false (.t 31)) [28],
    ob 33 (.call false (.f 109) [.t 32]) (rg 0 30),
    ob 34 (.call false (.f 62) [.c (.str ⟨#[114, 101, 97, 115, 111, 110]⟩), .t 33]) (rg 0 31),
    o 35 (.faddr 3 (.t 1)),
    ob 36 (.load 1 false (.t 35)) [32],
    ob 37 (.call false (.f 65) [.t 36]) (rg 0 34),
    ob 38 (.call false (.f 62) [.c (.str ⟨#[115, 116, 97, 114, 116, 101, 100]⟩), .t 37]) (rg 0 35),
    ob 39 (.lit 6 9 [.str ⟨#[]⟩, .int .i64 0, .int .i64 0, .str ⟨#[]⟩, .ns 5, .ns 6] [(0, .t 6), (1, .t 10), (2, .t 14), (3, .t 18), (4, .t 22), (5, .t 26), (6, .t 30), (7, .t 34), (8, .t 38)]) (rg 0 36),
    ob 40 (.call false (.f 61) [.t 39]) (rg 0 37),
    ⟨none, none, .store 5 (.t 2) (.t 40), (rg 0 38)⟩] true)
  (.ret))
def K1o : IFn := ⟨1, 41, [.cell 2 5 true], false, Q1g5⟩
def Qku : List Nat := [100023, 2, 3, 6]
def Q1af : IR :=
  .seq (.seq (.reg [o 118 (.mov (.t 6)),
        o 119 (.faddr 12 (.t 2)),
        o 120 (.load 1 false (.t 119)),
        o 121 (.len false (.t 120)),
        o 122 (.bin .lss (.t 118) (.t 121))] false)
      (.cond (.t 122) (.skip)
        (.exit 2)))
    (.seq (.block 3 (.seq (.reg [o 125 (.faddr 12 (.t 2)),
          ob 126 (.load 1 false (.t 125)) [0],
          o 127 (.mov (.t 6)),
          ob 128 (.iaddr 2 (.t 126) (.t 127)) [0, 1, 2],
          ob 129 (.faddr 0 (.t 128)) [0, 1, 2, 3],
          ob 130 (.load 1 false (.t 129)) (rg 0 5),
          o 131 (.faddr 12 (.t 3)),
          ob 132 (.load 1 false (.t 131)) [6],
          o 133 (.mov (.t 6)),
          ob 134 (.iaddr 2 (.t 132) (.t 133)) [6, 7, 8],
          ob 135 (.faddr 0 (.t 134)) [6, 7, 8, 9],
          ob 136 (.load 1 false (.t 135)) (rg 6 11),
          ob 137 (.bin .neq (.t 130) (.t 136)) (rg 0 12),
          ob 138 (.mov (.t 137)) (rg 0 13),
          ⟨(some 139), (some (138, false)), .faddr 12 (.t 2), (rg 0 14)⟩,
          ⟨(some 140), (some (138, false)), .load 1 false (.t 139), (rg 0 15)⟩,
          ⟨(some 141), (some (138, false)), .mov (.t 6), (rg 0 14)⟩,
          ⟨(some 142), (some (138, false)), .iaddr 2 (.t 140) (.t 141), (rg 0 17)⟩,
          ⟨(some 143), (some (138, false)), .faddr 1 (.t 142), (rg 0 18)⟩,
          ⟨(some 144), (some (138, false)), .load 1 false (.t 143), (rg 0 19)⟩,
          ⟨(some 145), (some (138, false)), .faddr 12 (.t 3), (rg 0 14)⟩,
          ⟨(some 146), (some (138, false)), .load 1 false (.t 145), (rg 0 14 ++ [20])⟩,
          ⟨(some 147), (some (138, false)), .mov (.t 6), (rg 0 14)⟩,
          ⟨(some 148), (some (138, false)), .iaddr 2 (.t 146) (.t 147), (rg 0 14 ++ [20, 21, 22])⟩,
          ⟨(some 149), (some (138, false)), .faddr 1 (.t 148), (rg 0 14 ++ rg 20 24)⟩,
          ⟨(some 150), (some (138, false)), .load 1 false (.t 149), (rg 0 14 ++ rg 20 25)⟩,
          ⟨(some 151), (some (138, false)), .call false (.f 123) [.t 144, .t 150], (rg 0 26)⟩,
          ⟨(some 152), (some (138, false)), .un .not (.t 151), (rg 0 27)⟩,
          ob 153 (.pick (.t 138) (.c (.bool true)) (.t 152)) (rg 0 28)] true)
        (.cond (.t 153) (.seq (.reg [o 4 (.mov (.c (.bool false)))] false)
          (.ret))
          (.skip))))
    (.reg [o 123 (.mov (.t 6)),
    o 124 (.bin .add (.t 123) (.c (.int .i64 1))),
    o 6 (.mov (.t 124))] false))
def Qkd : List Nat := [100022, 2, 3, 5]
def Q1au : IR :=
  .seq (.seq (.reg [o 100 (.mov (.t 5)),
        o 101 (.faddr 10 (.t 2)),
        o 102 (.load 1 false (.t 101)),
        o 103 (.len false (.t 102)),
        o 104 (.bin .lss (.t 100) (.t 103))] false)
      (.cond (.t 104) (.skip)
        (.exit 0)))
    (.seq (.block 1 (.seq (.reg [o 107 (.faddr 10 (.t 2)),
          ob 108 (.load 1 false (.t 107)) [0],
          o 109 (.mov (.t 5)),
          ob 110 (.iaddr 5 (.t 108) (.t 109)) [0, 1, 2],
          ob 111 (.load 5 true (.t 110)) [0, 1, 2, 3],
          o 112 (.faddr 10 (.t 3)),
          ob 113 (.load 1 false (.t 112)) [5],
          o 114 (.mov (.t 5)),
          ob 115 (.iaddr 5 (.t 113) (.t 114)) [5, 6, 7],
          ob 116 (.load 5 true (.t 115)) [5, 6, 7, 8],
          ob 117 (.eqs (.st [(0, 1, .str), (1, 1, .str), (2, 1, .int), (3, 1, .bool), (4, 1, .bool)]) true (.t 111) (.t 116)) (rg 0 10)] true)
        (.cond (.t 117) (.seq (.reg [o 4 (.mov (.c (.bool false)))] false)
          (.ret))
          (.skip))))
    (.reg [o 105 (.mov (.t 5)),
    o 106 (.bin .add (.t 105) (.c (.int .i64 1))),
    o 5 (.mov (.t 106))] false))
def Q1jf : IR :=
  .seq (.reg [o 2 (.box 13 (.t 0)),
    o 3 (.box 13 (.t 1)),
    o 4 (.mov (.c (.bool false)))] false)
  (.seq (.seq (.reg [o 7 (.faddr 0 (.t 2)),
      o 8 (.load 1 false (.t 7)),
      o 9 (.faddr 0 (.t 3)),
      o 10 (.load 1 false (.t 9)),
      o 11 (.bin .neq (.t 8) (.t 10)),
      o 12 (.mov (.t 11)),
      ⟨(some 13), (some (12, false)), .faddr 1 (.t 2), []⟩,
      ⟨(some 14), (some (12, false)), .load 1 false (.t 13), []⟩,
      ⟨(some 15), (some (12, false)), .faddr 1 (.t 3), []⟩,
      ⟨(some 16), (some (12, false)), .load 1 false (.t 15), []⟩,
      ⟨(some 17), (some (12, false)), .bin .neq (.t 14) (.t 16), []⟩,
      o 18 (.pick (.t 12) (.c (.bool true)) (.t 17)),
      o 19 (.mov (.t 18)),
      ⟨(some 20), (some (19, false)), .faddr 2 (.t 2), []⟩,
      ⟨(some 21), (some (19, false)), .load 1 false (.t 20), []⟩,
      ⟨(some 22), (some (19, false)), .faddr 2 (.t 3), []⟩,
      ⟨(some 23), (some (19, false)), .load 1 false (.t 22), []⟩,
      ⟨(some 24), (some (19, false)), .bin .neq (.t 21) (.t 23), []⟩,
      o 25 (.pick (.t 19) (.c (.bool true)) (.t 24)),
      o 26 (.mov (.t 25)),
      ⟨(some 27), (some (26, false)), .faddr 3 (.t 2), []⟩,
      ⟨(some 28), (some (26, false)), .load 1 false (.t 27), []⟩,
      ⟨(some 29), (some (26, false)), .faddr 3 (.t 3), []⟩,
      ⟨(some 30), (some (26, false)), .load 1 false (.t 29), []⟩,
      ⟨(some 31), (some (26, false)), .bin .neq (.t 28) (.t 30), []⟩,
      o 32 (.pick (.t 26) (.c (.bool true)) (.t 31)),
      o 33 (.mov (.t 32)),
      ⟨(some 34), (some (33, false)), .faddr 4 (.t 2), []⟩,
      ⟨(some 35), (some (33, false)), .load 1 false (.t 34), []⟩,
      ⟨(some 36), (some (33, false)), .faddr 4 (.t 3), []⟩,
      ⟨(some 37), (some (33, false)), .load 1 false (.t 36), []⟩,
      ⟨(some 38), (some (33, false)), .bin .neq (.t 35) (.t 37), []⟩,
      o 39 (.pick (.t 33) (.c (.bool true)) (.t 38)),
      o 40 (.mov (.t 39)),
      ⟨(some 41), (some (40, false)), .faddr 5 (.t 2), []⟩,
      ⟨(some 42), (some (40, false)), .load 1 false (.t 41), []⟩,
      ⟨(some 43), (some (40, false)), .faddr 5 (.t 3), []⟩,
      ⟨(some 44), (some (40, false)), .load 1 false (.t 43), []⟩,
      ⟨(some 45), (some (40, false)), .bin .neq (.t 42) (.t 44), []⟩,
      o 46 (.pick (.t 40) (.c (.bool true)) (.t 45)),
      o 47 (.mov (.t 46)),
      ⟨(some 48), (some (47, false)), .faddr 6 (.t 2), []⟩,
      ⟨(some 49), (some (47, false)), .load 1 false (.t 48), []⟩,
      ⟨(some 50), (some (47, false)), .faddr 6 (.t 3), []⟩,
      ⟨(some 51), (some (47, false)), .load 1 false (.t 50), []⟩,
      ⟨(some 52), (some (47, false)), .bin .neq (.t 49) (.t 51), []⟩,
      o 53 (.pick (.t 47) (.c (.bool true)) (.t 52)),
      o 54 (.mov (.t 53)),
      ⟨(some 55), (some (54, false)), .faddr 7 (.t 2), []⟩,
      ⟨(some 56), (some (54, false)), .load 1 false (.t 55), []⟩,
      ⟨(some 57), (some (54, false)), .faddr 7 (.t 3), []⟩,
      ⟨(some 58), (some (54, false)), .load 1 false (.t 57), []⟩,
      ⟨(some 59), (some (54, false)), .eqb true (.t 56) (.t 58), []⟩,
      o 60 (.pick (.t 54) (.c (.bool true)) (.t 59)),
      o 61 (.mov (.t 60)),
      ⟨(some 62), (some (61, false)), .faddr 8 (.t 2), []⟩,
      ⟨(some 63), (some (61, false)), .load 1 false (.t 62), []⟩,
      ⟨(some 64), (some (61, false)), .faddr 8 (.t 3), []⟩,
      ⟨(some 65), (some (61, false)), .load 1 false (.t 64), []⟩,
      ⟨(some 66), (some (61, false)), .bin .neq (.t 63) (.t 65), []⟩,
      o 67 (.pick (.t 61) (.c (.bool true)) (.t 66))] false)
    (.cond (.t 67) (.seq (.reg [o 4 (.mov (.c (.bool false)))] false)
      (.ret))
      (.skip)))
  (.seq (.seq (.reg [o 68 (.faddr 9 (.t 2)),
      o 69 (.load 1 false (.t 68)),
      o 70 (.faddr 9 (.t 3)),
      o 71 (.load 1 false (.t 70)),
      o 72 (.call false (.f 122) [.t 69, .t 71]),
      o 73 (.un .not (.t 72)),
      o 74 (.mov (.t 73)),
      ⟨(some 75), (some (74, false)), .faddr 11 (.t 2), []⟩,
      ⟨(some 76), (some (74, false)), .load 1 false (.t 75), []⟩,
      ⟨(some 77), (some (74, false)), .faddr 11 (.t 3), []⟩,
      ⟨(some 78), (some (74, false)), .load 1 false (.t 77), []⟩,
      ⟨(some 79), (some (74, false)), .call false (.f 123) [.t 76, .t 78], []⟩,
      ⟨(some 80), (some (74, false)), .un .not (.t 79), []⟩,
      o 81 (.pick (.t 74) (.c (.bool true)) (.t 80)),
      o 82 (.mov (.t 81)),
      ⟨(some 83), (some (82, false)), .faddr 10 (.t 2), []⟩,
      ⟨(some 84), (some (82, false)), .load 1 false (.t 83), []⟩,
      ⟨(some 85), (some (82, false)), .len false (.t 84), []⟩,
      ⟨(some 86), (some (82, false)), .faddr 10 (.t 3), []⟩,
      ⟨(some 87), (some (82, false)), .load 1 false (.t 86), []⟩,
      ⟨(some 88), (some (82, false)), .len false (.t 87), []⟩,
      ⟨(some 89), (some (82, false)), .bin .neq (.t 85) (.t 88), []⟩,
      o 90 (.pick (.t 82) (.c (.bool true)) (.t 89)),
      o 91 (.mov (.t 90)),
      ⟨(some 92), (some (91, false)), .faddr 12 (.t 2), []⟩,
      ⟨(some 93), (some (91, false)), .load 1 false (.t 92), []⟩,
      ⟨(some 94), (some (91, false)), .len false (.t 93), []⟩,
      ⟨(some 95), (some (91, false)), .faddr 12 (.t 3), []⟩,
      ⟨(some 96), (some (91, false)), .load 1 false (.t 95), []⟩,
      ⟨(some 97), (some (91, false)), .len false (.t 96), []⟩,
      ⟨(some 98), (some (91, false)), .bin .neq (.t 94) (.t 97), []⟩,
      o 99 (.pick (.t 91) (.c (.bool true)) (.t 98))] false)
    (.cond (.t 99) (.seq (.reg [o 4 (.mov (.c (.bool false)))] false)
      (.ret))
      (.skip)))
  (.seq (.seq (.reg [o 5 (.mov (.c (.int .i64 0)))] false)
    (.block 0 (.loop Qkd Q1au)))
  (.seq (.seq (.reg [o 6 (.mov (.c (.int .i64 0)))] false)
    (.block 2 (.loop Qku Q1af)))
  (.seq (.reg [o 4 (.mov (.c (.bool true)))] false)
  (.ret))))))
def K2j : IFn := ⟨2, 154, [.tmp 4], false, Q1jf⟩
def Q1g8 : IR :=
  .seq (.reg [o 1 (.box 10 (.t 0)),
    o 2 (.zero [.int .i64 0, .int .i64 0, .str ⟨#[]⟩, .ns 5, .ns 6])] false)
  (.seq (.reg [o 3 (.faddr 4 (.t 1)),
    ob 4 (.load 1 false (.t 3)) [0],
    ob 5 (.call false (.f 124) [.t 4]) [0, 1],
    ob 6 (.call false (.f 71) [.c (.str ⟨#[99, 111, 110, 116, 97, 105, 110, 101, 114, 115]⟩), .t 5]) [0, 1, 2],
    o 7 (.faddr 3 (.t 1)),
    ob 8 (.load 1 false (.t 7)) [4],
    ob 9 (.call false (.f 74) [.t 8]) (rg 0 6),
    ob 10 (.call false (.f 71) [.c (.str ⟨#[103, 114, 97, 99, 101]⟩), .t 9]) (rg 0 7),
    o 11 (.faddr 0 (.t 1)),
    ob 12 (.load 1 false (.t 11)) [8],
    ob 13 (.call false (.f 125) [.t 12]) (rg 0 10),
    ob 14 (.call false (.f 71) [.c (.str ⟨#[110, 111, 100, 101]⟩), .t 13]) (rg 0 11),
    o 15 (.faddr 5 (.t 1)),
    ob 16 (.load 1 false (.t 15)) [12],
    ob 17 (.call false (.f 126) [.t 16]) (rg 0 14),
    ob 18 (.call false (.f 71) [.c (.str ⟨#[110, 111, 100, 101, 83, 101, 108, 101, 99, 116, 111, 114]⟩), .t 17]) (rg 0 15),
    o 19 (.faddr 6 (.t 1)),
    ob 20 (.load 1 false (.t 19)) [16],
    ob 21 (.call false (.f 127) [.t 20]) (rg 0 18),
    ob 22 (.call false (.f 71) [.c (.str ⟨#[110, 111, 100, 101, 84, 101, 114, 109, 115]⟩), .t 21]) (rg 0 19),
    o 23 (.faddr 7 (.t 1)),
    ob 24 (.load 1 false (.t 23)) [20],
    ob 25 (.call false (.f 128) [.t 24]) (rg 0 22),
    ob 26 (.call false (.f 71) [.c (.str ⟨#[112, 111, 100, 84, 101, 114, 109, 115]⟩), .t 25]) (rg 0 23),
    o 27 (.faddr 1 (.t 1)),
    ob 28 (.load 1 false (.t 27)) [24],
    ob 29 (.call false (.f 74) [.t 28]) (rg 0 26),
    ob 30 (.call false (.f 71) [.c (.str ⟨#[112, 114, 105, 111, 114, 105, 116, 121]⟩), .t 29]) (rg 0 27),
    o 31 (.faddr 2 (.t 1)),
    ob 32 (.load 1 false (.t 31)) [28],
    ob 33 (.call false (.f 74) [.t 32]) (rg 0 30),
    ob 34 (.call false (.f 71) [.c (.str ⟨#[114, 101, 115, 116, 97, 114, 116]⟩), .t 33]) (rg 0 31),
    o 35 (.faddr 8 (.t 1)),
    ob 36 (.load 1 false (.t 35)) [32],
    ob 37 (.call false (.f 129) [.t 36]) (rg 0 34),
    ob 38 (.call false (.f 71) [.c (.str ⟨#[115, 112, 114, 101, 97, 100]⟩), .t 37]) (rg 0 35),
    o 39 (.faddr 9 (.t 1)),
    ob 40 (.load 1 false (.t 39)) [36],
    ob 41 (.call false (.f 130) [.t 40]) (rg 0 38),
    ob 42 (.call false (.f 71) [.c (.str ⟨#[116, 111, 108, 101, 114, 97, 116, 105, 111, 110, 115]⟩), .t 41]) (rg 0 39),
    ob 43 (.lit 6 10 [.str ⟨#[]⟩, .int .i64 0, .int .i64 0, .str ⟨#[]⟩, .ns 5, .ns 6] [(0, .t 6), (1, .t 10), (2, .t 14), (3, .t 18), (4, .t 22), (5, .t 26), (6, .t 30), (7, .t 34), (8, .t 38), (9, .t 42)]) (rg 0 40),
    ob 44 (.call false (.f 70) [.t 43]) (rg 0 41),
    ⟨none, none, .store 5 (.t 2) (.t 44), (rg 0 42)⟩] true)
  (.ret))
def K2d : IFn := ⟨1, 45, [.cell 2 5 true], false, Q1g8⟩
def Q1l4 : IR :=
  .seq (.reg [o 1 (.box 9 (.t 0)),
    o 2 (.zero [.int .i64 0, .int .i64 0, .str ⟨#[]⟩, .ns 5, .ns 6])] false)
  (.seq (.reg [o 3 (.faddr 6 (.t 1)),
    ob 4 (.load 1 false (.t 3)) [0],
    ob 5 (.call false (.f 74) [.t 4]) [0, 1],
    ob 6 (.call false (.f 71) [.c (.str ⟨#[97, 100, 100, 114, 101, 115, 115]⟩), .t 5]) [0, 1, 2],
    o 7 (.faddr 5 (.t 1)),
    ob 8 (.load 1 false (.t 7)) [4],
    ob 9 (.call false (.f 131) [.t 8]) (rg 0 6),
    ob 10 (.call false (.f 71) [.c (.str ⟨#[99, 111, 110, 116, 97, 105, 110, 101, 114, 115]⟩), .t 9]) (rg 0 7),
    o 11 (.faddr 4 (.t 1)),
    ob 12 (.load 1 false (.t 11)) [8],
    ob 13 (.call false (.f 74) [.t 12]) (rg 0 10),
    ob 14 (.call false (.f 71) [.c (.str ⟨#[102, 105, 110, 105, 115, 104, 101, 100]⟩), .t 13]) (rg 0 11),
    o 15 (.faddr 7 (.t 1)),
    ob 16 (.load 1 false (.t 15)) [12],
    ob 17 (.call false (.f 125) [.t 16]) (rg 0 14),
    ob 18 (.call false (.f 71) [.c (.str ⟨#[110, 111, 109, 105, 110, 97, 116, 101, 100]⟩), .t 17]) (rg 0 15),
    o 19 (.faddr 0 (.t 1)),
    ob 20 (.load 1 false (.t 19)) [16],
    ob 21 (.call false (.f 74) [.t 20]) (rg 0 18),
    ob 22 (.call false (.f 71) [.c (.str ⟨#[112, 104, 97, 115, 101]⟩), .t 21]) (rg 0 19),
    o 23 (.faddr 1 (.t 1)),
    ob 24 (.load 1 false (.t 23)) [20],
    ob 25 (.call false (.f 73) [.t 24]) (rg 0 22),
    ob 26 (.call false (.f 71) [.c (.str ⟨#[114, 101, 97, 100, 121]⟩), .t 25]) (rg 0 23),
    o 27 (.faddr 2 (.t 1)),
    ob 28 (.load 1 false (.t 27)) [24],
    ob 29 (.call false (.f 74) [.t 28]) (rg 0 26),
    ob 30 (.call false (.f 71) [.c (.str ⟨#[114, 101, 97, 100, 121, 83, 105, 110, 99, 101]⟩), .t 29]) (rg 0 27),
    o 31 (.faddr 8 (.t 1)),
    ob 32 (.load 1 false (.t 31)) [28],
    ob 33 (.call false (.f 125) [.t 32]) (rg 0 30),
    ob 34 (.call false (.f 71) [.c (.str ⟨#[114, 101, 97, 115, 111, 110]⟩), .t 33]) (rg 0 31),
    o 35 (.faddr 3 (.t 1)),
    ob 36 (.load 1 false (.t 35)) [32],
    ob 37 (.call false (.f 74) [.t 36]) (rg 0 34),
    ob 38 (.call false (.f 71) [.c (.str ⟨#[115, 116, 97, 114, 116, 101, 100]⟩), .t 37]) (rg 0 35),
    ob 39 (.lit 6 9 [.str ⟨#[]⟩, .int .i64 0, .int .i64 0, .str ⟨#[]⟩, .ns 5, .ns 6] [(0, .t 6), (1, .t 10), (2, .t 14), (3, .t 18), (4, .t 22), (5, .t 26), (6, .t 30), (7, .t 34), (8, .t 38)]) (rg 0 36),
    ob 40 (.call false (.f 70) [.t 39]) (rg 0 37),
    ⟨none, none, .store 5 (.t 2) (.t 40), (rg 0 38)⟩] true)
  (.ret))
def K35 : IFn := ⟨1, 41, [.cell 2 5 true], false, Q1l4⟩
def Qjj : List Nat := [100024, 2, 3, 4, 12, 13, 14]
def Q1ac : IR :=
  .seq (.reg [o 15 (.bin .lss (.t 14) (.t 13))] false)
    (.seq (.cond (.t 15) (.skip)
        (.exit 0))
    (.seq (.block 1 (.seq (.reg [o 16 (.mov (.t 14)),
          o 17 (.iaddr 6 (.t 12) (.t 14)),
          o 18 (.load 6 true (.t 17)),
          o 6 (.zero [.str ⟨#[]⟩, .int .i64 0, .int .i64 0, .str ⟨#[]⟩, .ns 5, .ns 6]),
          o 5 (.mov (.t 16)),
          ⟨none, none, .store 6 (.t 6) (.t 18), []⟩] false)
        (.seq (.reg [o 19 (.mov (.t 5)),
          ob 20 (.bin .add (.t 19) (.c (.int .i64 1))) [0],
          o 21 (.mov (.t 3)),
          ob 22 (.len false (.t 21)) [2],
          ob 23 (.bin .eql (.t 20) (.t 22)) [0, 1, 2, 3],
          ob 24 (.mov (.t 23)) (rg 0 5),
          ⟨(some 25), (some (24, false)), .mov (.t 3), (rg 0 6)⟩,
          ⟨(some 26), (some (24, false)), .mov (.t 5), (rg 0 6)⟩,
          ⟨(some 27), (some (24, false)), .bin .add (.t 26) (.c (.int .i64 1)), (rg 0 6 ++ [7])⟩,
          ⟨(some 28), (some (24, false)), .iaddr 6 (.t 25) (.t 27), (rg 0 9)⟩,
          ⟨(some 29), (some (24, false)), .faddr 0 (.t 28), (rg 0 10)⟩,
          ⟨(some 30), (some (24, false)), .load 1 false (.t 29), (rg 0 11)⟩,
          ⟨(some 31), (some (24, false)), .faddr 0 (.t 6), (rg 0 6)⟩,
          ⟨(some 32), (some (24, false)), .load 1 false (.t 31), (rg 0 6 ++ [12])⟩,
          ⟨(some 33), (some (24, false)), .bin .neq (.t 30) (.t 32), (rg 0 14)⟩,
          ob 34 (.pick (.t 24) (.c (.bool true)) (.t 33)) (rg 0 15)] true)
        (.cond (.t 34) (.reg [o 35 (.faddr 4 (.t 4)),
          o 36 (.load 1 false (.t 35)),
          o 37 (.load 6 true (.t 6)),
          o 38 (.lit 6 1 [.str ⟨#[]⟩, .int .i64 0, .int .i64 0, .str ⟨#[]⟩, .ns 5, .ns 6] [(0, .t 37)]),
          o 39 (.append 6 96 (.t 36) (.t 38)),
          o 40 (.faddr 4 (.t 4)),
          ⟨none, none, .store 1 (.t 40) (.t 39), []⟩] false)
          (.skip)))))
    (.reg [o 41 (.bin .add (.t 14) (.c (.int .i64 1))),
    o 14 (.mov (.t 41))] false)))
def Q1jr : IR :=
  .seq (.reg [o 2 (.zero [.int .i64 0, .int .i64 0, .str ⟨#[]⟩, .ns 5, .ns 6])] false)
  (.seq (.reg [o 7 (.mov (.t 0)),
    o 8 (.call false (.f 132) [.t 7]),
    o 3 (.mov (.t 8))] false)
  (.seq (.reg [o 9 (.mov (.t 3)),
    o 10 (.call true (.f 133) [.t 9, .f 134])] false)
  (.seq (.reg [o 11 (.build [.int .i64 0, .int .i64 0, .str ⟨#[]⟩, .ns 5, .ns 6] [(0, 1, .c (.int .i64 5))]),
    o 4 (.zero [.int .i64 0, .int .i64 0, .str ⟨#[]⟩, .ns 5, .ns 6]),
    ⟨none, none, .store 5 (.t 4) (.t 11), []⟩] false)
  (.seq (.seq (.reg [o 12 (.mov (.t 3)),
      o 13 (.len false (.t 12)),
      o 14 (.mov (.c (.int .i64 0)))] false)
    (.block 0 (.loop Qjj Q1ac)))
  (.seq (.reg [o 42 (.load 5 true (.t 4)),
    o 43 (.call false (.f 136) [.t 42]),
    ⟨none, none, .store 5 (.t 2) (.t 43), []⟩] false)
  (.ret))))))
def K3z : IFn := ⟨1, 44, [.cell 2 5 true], false, Q1jr⟩
def Q1l3 : IR :=
  .seq (.reg [o 3 (.box 5 (.t 1)),
    o 4 (.zero [.str ⟨#[]⟩, .int .i64 0, .int .i64 0, .str ⟨#[]⟩, .ns 5, .ns 6])] false)
  (.seq (.reg [o 5 (.mov (.t 0)),
    o 6 (.load 5 true (.t 3)),
    o 7 (.build [.str ⟨#[]⟩, .int .i64 0, .int .i64 0, .str ⟨#[]⟩, .ns 5, .ns 6] [(0, 1, .t 5), (1, 5, .t 6)]),
    ⟨none, none, .store 6 (.t 4) (.t 7), []⟩] false)
  (.ret))
def K1r : IFn := ⟨2, 8, [.cell 4 6 true], false, Q1l3⟩
def Q1iv : IR :=
  .seq (.reg [o 1 (.box 3 (.t 0)),
    o 2 (.zero [.int .i64 0, .int .i64 0, .str ⟨#[]⟩, .ns 5, .ns 6])] false)
  (.seq (.reg [o 3 (.faddr 0 (.t 1)),
    ob 4 (.load 1 false (.t 3)) [0],
    ob 5 (.call false (.f 65) [.t 4]) [0, 1],
    ob 6 (.call false (.f 62) [.c (.str ⟨#[99, 112, 117]⟩), .t 5]) [0, 1, 2],
    o 7 (.faddr 2 (.t 1)),
    ob 8 (.load 1 false (.t 7)) [4],
    ob 9 (.call false (.f 65) [.t 8]) (rg 0 6),
    ob 10 (.call false (.f 62) [.c (.str ⟨#[100, 105, 115, 107]⟩), .t 9]) (rg 0 7),
    o 11 (.faddr 1 (.t 1)),
    ob 12 (.load 1 false (.t 11)) [8],
    ob 13 (.call false (.f 65) [.t 12]) (rg 0 10),
    ob 14 (.call false (.f 62) [.c (.str ⟨#[109, 101, 109, 111, 114, 121]⟩), .t 13]) (rg 0 11),
    ob 15 (.lit 6 3 [.str ⟨#[]⟩, .int .i64 0, .int .i64 0, .str ⟨#[]⟩, .ns 5, .ns 6] [(0, .t 6), (1, .t 10), (2, .t 14)]) (rg 0 12),
    ob 16 (.call false (.f 61) [.t 15]) (rg 0 13),
    ⟨none, none, .store 5 (.t 2) (.t 16), (rg 0 14)⟩] true)
  (.ret))
def K1l : IFn := ⟨1, 17, [.cell 2 5 true], false, Q1iv⟩
def Q1i5 : IR :=
  .seq (.reg [o 2 (.zero [.int .i64 0, .int .i64 0, .str ⟨#[]⟩, .ns 5, .ns 6])] false)
  (.seq (.reg [o 4 (.build [.int .i64 0, .int .i64 0, .str ⟨#[]⟩, .ns 5, .ns 6] [(0, 1, .c (.int .i64 1))]),
    o 3 (.zero [.int .i64 0, .int .i64 0, .str ⟨#[]⟩, .ns 5, .ns 6]),
    ⟨none, none, .store 5 (.t 3) (.t 4), []⟩] false)
  (.seq (.seq (.reg [o 5 (.mov (.t 0))] false)
    (.cond (.t 5) (.reg [o 6 (.faddr 1 (.t 3)),
      ⟨none, none, .store 1 (.t 6) (.c (.int .i64 1)), []⟩] false)
      (.skip)))
  (.seq (.reg [o 7 (.load 5 true (.t 3)),
    ⟨none, none, .store 5 (.t 2) (.t 7), []⟩] false)
  (.ret))))
def K3v : IFn := ⟨1, 8, [.cell 2 5 true], false, Q1i5⟩
def Q1hl : IR :=
  .seq (.reg [o 2 (.zero [.int .i64 0, .int .i64 0, .str ⟨#[]⟩, .ns 5, .ns 6])] false)
  (.seq (.reg [o 3 (.mov (.t 0)),
    o 4 (.build [.int .i64 0, .int .i64 0, .str ⟨#[]⟩, .ns 5, .ns 6] [(0, 1, .c (.int .i64 2)), (1, 1, .t 3)]),
    ⟨none, none, .store 5 (.t 2) (.t 4), []⟩] false)
  (.ret))
def K3x : IFn := ⟨1, 5, [.cell 2 5 true], false, Q1hl⟩
def Qkx : List Nat := [100025, 1, 4, 5, 8, 9, 10]
def Q19z : IR :=
  .seq (.reg [o 11 (.bin .lss (.t 10) (.t 9))] false)
    (.seq (.cond (.t 11) (.skip)
        (.exit 0))
    (.seq (.block 1 (.seq (.reg [o 12 (.iaddr 4 (.t 8) (.t 10)),
          o 13 (.load 4 true (.t 12)),
          o 7 (.zero [.str ⟨#[]⟩, .str ⟨#[]⟩, .int .i64 0, .int .i64 0]),
          ⟨none, none, .store 4 (.t 7) (.t 13), []⟩] false)
        (.reg [o 14 (.mov (.t 5)),
        o 15 (.mov (.t 1)),
        o 16 (.load 4 true (.t 7)),
        o 17 (.call false (.t 15) [.t 16]),
        o 18 (.lit 5 1 [.int .i64 0, .int .i64 0, .str ⟨#[]⟩, .ns 5, .ns 6] [(0, .t 17)]),
        o 19 (.append 5 80 (.t 14) (.t 18)),
        o 5 (.mov (.t 19))] false)))
    (.reg [o 20 (.bin .add (.t 10) (.c (.int .i64 1))),
    o 10 (.mov (.t 20))] false)))
def Q1jq : IR :=
  .seq (.reg [o 4 (.zero [.int .i64 0, .int .i64 0, .str ⟨#[]⟩, .ns 5, .ns 6])] false)
  (.seq (.reg [o 5 (.mov (.c (.ns 5)))] false)
  (.seq (.seq (.reg [o 8 (.mov (.t 0)),
      o 9 (.len false (.t 8)),
      o 10 (.mov (.c (.int .i64 0)))] false)
    (.block 0 (.loop Qkx Q19z)))
  (.seq (.reg [o 21 (.mov (.t 5)),
    o 22 (.call false (.f 137) [.t 21]),
    ⟨none, none, .store 5 (.t 4) (.t 22), []⟩] false)
  (.ret))))
def K1s : IFn := ⟨2, 23, [.cell 4 5 true], false, Q1jq⟩
def Q1k9 : IR :=
  .seq (.reg [o 1 (.box 4 (.t 0)),
    o 2 (.zero [.int .i64 0, .int .i64 0, .str ⟨#[]⟩, .ns 5, .ns 6])] false)
  (.seq (.reg [o 3 (.faddr 2 (.t 1)),
    ob 4 (.load 1 false (.t 3)) [0],
    ob 5 (.call false (.f 65) [.t 4]) [0, 1],
    ob 6 (.call false (.f 62) [.c (.str ⟨#[101, 102, 102, 101, 99, 116]⟩), .t 5]) [0, 1, 2],
    o 7 (.faddr 0 (.t 1)),
    ob 8 (.load 1 false (.t 7)) [4],
    ob 9 (.call false (.f 109) [.t 8]) (rg 0 6),
    ob 10 (.call false (.f 62) [.c (.str ⟨#[107, 101, 121]⟩), .t 9]) (rg 0 7),
    o 11 (.faddr 3 (.t 1)),
    ob 12 (.load 1 false (.t 11)) [8],
    ob 13 (.call false (.f 65) [.t 12]) (rg 0 10),
    ob 14 (.call false (.f 62) [.c (.str ⟨#[115, 105, 110, 99, 101]⟩), .t 13]) (rg 0 11),
    o 15 (.faddr 1 (.t 1)),
    ob 16 (.load 1 false (.t 15)) [12],
    ob 17 (.call false (.f 109) [.t 16]) (rg 0 14),
    ob 18 (.call false (.f 62) [.c (.str ⟨#[118, 97, 108, 117, 101]⟩), .t 17]) (rg 0 15),
    ob 19 (.lit 6 4 [.str ⟨#[]⟩, .int .i64 0, .int .i64 0, .str ⟨#[]⟩, .ns 5, .ns 6] [(0, .t 6), (1, .t 10), (2, .t 14), (3, .t 18)]) (rg 0 16),
    ob 20 (.call false (.f 61) [.t 19]) (rg 0 17),
    ⟨none, none, .store 5 (.t 2) (.t 20), (rg 0 18)⟩] true)
  (.ret))
def K1p : IFn := ⟨1, 21, [.cell 2 5 true], false, Q1k9⟩
def Ql7 : List Nat := [100026, 1, 4, 5, 8, 9, 10]
def Q19m : IR :=
  .seq (.reg [o 11 (.bin .lss (.t 10) (.t 9))] false)
    (.seq (.cond (.t 11) (.skip)
        (.exit 0))
    (.seq (.block 1 (.seq (.reg [o 12 (.iaddr 3 (.t 8) (.t 10)),
          o 13 (.load 3 true (.t 12)),
          o 7 (.zero [.str ⟨#[]⟩, .int .i64 0, .int .i64 0]),
          ⟨none, none, .store 3 (.t 7) (.t 13), []⟩] false)
        (.reg [o 14 (.mov (.t 5)),
        o 15 (.mov (.t 1)),
        o 16 (.load 3 true (.t 7)),
        o 17 (.call false (.t 15) [.t 16]),
        o 18 (.lit 5 1 [.int .i64 0, .int .i64 0, .str ⟨#[]⟩, .ns 5, .ns 6] [(0, .t 17)]),
        o 19 (.append 5 80 (.t 14) (.t 18)),
        o 5 (.mov (.t 19))] false)))
    (.reg [o 20 (.bin .add (.t 10) (.c (.int .i64 1))),
    o 10 (.mov (.t 20))] false)))
def Q1ge : IR :=
  .seq (.reg [o 4 (.zero [.int .i64 0, .int .i64 0, .str ⟨#[]⟩, .ns 5, .ns 6])] false)
  (.seq (.reg [o 5 (.mov (.c (.ns 5)))] false)
  (.seq (.seq (.reg [o 8 (.mov (.t 0)),
      o 9 (.len false (.t 8)),
      o 10 (.mov (.c (.int .i64 0)))] false)
    (.block 0 (.loop Ql7 Q19m)))
  (.seq (.reg [o 21 (.mov (.t 5)),
    o 22 (.call false (.f 137) [.t 21]),
    ⟨none, none, .store 5 (.t 4) (.t 22), []⟩] false)
  (.ret))))
def K22 : IFn := ⟨2, 23, [.cell 4 5 true], false, Q1ge⟩
def Q1km : IR :=
  .seq (.reg [o 1 (.box 3 (.t 0)),
    o 2 (.zero [.int .i64 0, .int .i64 0, .str ⟨#[]⟩, .ns 5, .ns 6])] false)
  (.seq (.reg [o 3 (.faddr 0 (.t 1)),
    ob 4 (.load 1 false (.t 3)) [0],
    ob 5 (.call false (.f 109) [.t 4]) [0, 1],
    ob 6 (.call false (.f 62) [.c (.str ⟨#[110, 97, 109, 101]⟩), .t 5]) [0, 1, 2],
    o 7 (.faddr 1 (.t 1)),
    ob 8 (.load 1 false (.t 7)) [4],
    ob 9 (.call false (.f 65) [.t 8]) (rg 0 6),
    ob 10 (.call false (.f 62) [.c (.str ⟨#[115, 105, 122, 101]⟩), .t 9]) (rg 0 7),
    o 11 (.faddr 2 (.t 1)),
    ob 12 (.load 1 false (.t 11)) [8],
    ob 13 (.call false (.f 65) [.t 12]) (rg 0 10),
    ob 14 (.call false (.f 62) [.c (.str ⟨#[117, 115, 101, 100]⟩), .t 13]) (rg 0 11),
    ob 15 (.lit 6 3 [.str ⟨#[]⟩, .int .i64 0, .int .i64 0, .str ⟨#[]⟩, .ns 5, .ns 6] [(0, .t 6), (1, .t 10), (2, .t 14)]) (rg 0 12),
    ob 16 (.call false (.f 61) [.t 15]) (rg 0 13),
    ⟨none, none, .store 5 (.t 2) (.t 16), (rg 0 14)⟩] true)
  (.ret))
def K1f : IFn := ⟨1, 17, [.cell 2 5 true], false, Q1km⟩
def Q1hw : IR :=
  .seq (.reg [o 2 (.zero [.int .i64 0, .int .i64 0, .str ⟨#[]⟩, .ns 5, .ns 6])] false)
  (.seq (.reg [o 3 (.mov (.t 0)),
    o 4 (.build [.int .i64 0, .int .i64 0, .str ⟨#[]⟩, .ns 5, .ns 6] [(0, 1, .c (.int .i64 5)), (4, 1, .t 3)]),
    ⟨none, none, .store 5 (.t 2) (.t 4), []⟩] false)
  (.ret))
def K3b : IFn := ⟨1, 5, [.cell 2 5 true], false, Q1hw⟩
def Q1l6 : IR :=
  .seq (.reg [o 3 (.box 5 (.t 1)),
    o 4 (.zero [.str ⟨#[]⟩, .int .i64 0, .int .i64 0, .str ⟨#[]⟩, .ns 5, .ns 6])] false)
  (.seq (.reg [o 5 (.mov (.t 0)),
    o 6 (.load 5 true (.t 3)),
    o 7 (.build [.str ⟨#[]⟩, .int .i64 0, .int .i64 0, .str ⟨#[]⟩, .ns 5, .ns 6] [(0, 1, .t 5), (1, 5, .t 6)]),
    ⟨none, none, .store 6 (.t 4) (.t 7), []⟩] false)
  (.ret))
def K2w : IFn := ⟨2, 8, [.cell 4 6 true], false, Q1l6⟩
def Q1if : IR :=
  .seq (.reg [o 1 (.box 3 (.t 0)),
    o 2 (.zero [.int .i64 0, .int .i64 0, .str ⟨#[]⟩, .ns 5, .ns 6])] false)
  (.seq (.reg [o 3 (.faddr 0 (.t 1)),
    ob 4 (.load 1 false (.t 3)) [0],
    ob 5 (.call false (.f 74) [.t 4]) [0, 1],
    ob 6 (.call false (.f 71) [.c (.str ⟨#[99, 112, 117]⟩), .t 5]) [0, 1, 2],
    o 7 (.faddr 2 (.t 1)),
    ob 8 (.load 1 false (.t 7)) [4],
    ob 9 (.call false (.f 74) [.t 8]) (rg 0 6),
    ob 10 (.call false (.f 71) [.c (.str ⟨#[100, 105, 115, 107]⟩), .t 9]) (rg 0 7),
    o 11 (.faddr 1 (.t 1)),
    ob 12 (.load 1 false (.t 11)) [8],
    ob 13 (.call false (.f 74) [.t 12]) (rg 0 10),
    ob 14 (.call false (.f 71) [.c (.str ⟨#[109, 101, 109, 111, 114, 121]⟩), .t 13]) (rg 0 11),
    ob 15 (.lit 6 3 [.str ⟨#[]⟩, .int .i64 0, .int .i64 0, .str ⟨#[]⟩, .ns 5, .ns 6] [(0, .t 6), (1, .t 10), (2, .t 14)]) (rg 0 12),
    ob 16 (.call false (.f 70) [.t 15]) (rg 0 13),
    ⟨none, none, .store 5 (.t 2) (.t 16), (rg 0 14)⟩] true)
  (.ret))
def K33 : IFn := ⟨1, 17, [.cell 2 5 true], false, Q1if⟩
def Q1kq : IR :=
  .seq (.reg [o 2 (.zero [.int .i64 0, .int .i64 0, .str ⟨#[]⟩, .ns 5, .ns 6])] false)
  (.seq (.seq (.reg [o 3 (.mov (.t 0))] false)
    (.cond (.t 3) (.seq (.reg [o 4 (.build [.int .i64 0, .int .i64 0, .str ⟨#[]⟩, .ns 5, .ns 6] [(0, 1, .c (.int .i64 1)), (1, 1, .c (.int .i64 1))]),
        ⟨none, none, .store 5 (.t 2) (.t 4), []⟩] false)
      (.ret))
      (.skip)))
  (.seq (.reg [o 5 (.build [.int .i64 0, .int .i64 0, .str ⟨#[]⟩, .ns 5, .ns 6] [(0, 1, .c (.int .i64 1))]),
    ⟨none, none, .store 5 (.t 2) (.t 5), []⟩] false)
  (.ret)))
def K3q : IFn := ⟨1, 6, [.cell 2 5 true], false, Q1kq⟩
def Q1h6 : IR :=
  .seq (.reg [o 2 (.zero [.int .i64 0, .int .i64 0, .str ⟨#[]⟩, .ns 5, .ns 6])] false)
  (.seq (.reg [o 3 (.mov (.t 0)),
    o 4 (.build [.int .i64 0, .int .i64 0, .str ⟨#[]⟩, .ns 5, .ns 6] [(0, 1, .c (.int .i64 2)), (1, 1, .t 3)]),
    ⟨none, none, .store 5 (.t 2) (.t 4), []⟩] false)
  (.ret))
def K3a : IFn := ⟨1, 5, [.cell 2 5 true], false, Q1h6⟩
def Qjc : List Nat := [100027, 0, 2, 3, 4]
def Q1a4 : IR :=
  .seq (.seq (.reg [o 5 (.mov (.t 4)),
        o 6 (.mov (.t 0)),
        o 7 (.len false (.t 6)),
        o 8 (.bin .lss (.t 5) (.t 7))] false)
      (.cond (.t 8) (.skip)
        (.exit 0)))
    (.seq (.block 1 (.reg [o 11 (.mov (.t 3)),
        o 12 (.mov (.t 0)),
        o 13 (.mov (.t 4)),
        ob 14 (.iaddr 4 (.t 12) (.t 13)) [1, 2],
        ob 15 (.faddr 2 (.t 14)) [1, 2, 3],
        ob 16 (.load 1 false (.t 15)) [1, 2, 3, 4],
        ob 17 (.call false (.f 74) [.t 16]) (rg 1 6),
        ob 18 (.call false (.f 71) [.c (.str ⟨#[101, 102, 102, 101, 99, 116]⟩), .t 17]) (rg 1 7),
        o 19 (.mov (.t 0)),
        o 20 (.mov (.t 4)),
        ob 21 (.iaddr 4 (.t 19) (.t 20)) [8, 9],
        ob 22 (.faddr 0 (.t 21)) [8, 9, 10],
        ob 23 (.load 1 false (.t 22)) [8, 9, 10, 11],
        ob 24 (.call false (.f 125) [.t 23]) (rg 1 13),
        ob 25 (.call false (.f 71) [.c (.str ⟨#[107, 101, 121]⟩), .t 24]) (rg 1 14),
        o 26 (.mov (.t 0)),
        o 27 (.mov (.t 4)),
        ob 28 (.iaddr 4 (.t 26) (.t 27)) [15, 16],
        ob 29 (.faddr 3 (.t 28)) [15, 16, 17],
        ob 30 (.load 1 false (.t 29)) [15, 16, 17, 18],
        ob 31 (.call false (.f 74) [.t 30]) (rg 1 20),
        ob 32 (.call false (.f 71) [.c (.str ⟨#[115, 105, 110, 99, 101]⟩), .t 31]) (rg 1 21),
        o 33 (.mov (.t 0)),
        o 34 (.mov (.t 4)),
        ob 35 (.iaddr 4 (.t 33) (.t 34)) [22, 23],
        ob 36 (.faddr 1 (.t 35)) [22, 23, 24],
        ob 37 (.load 1 false (.t 36)) [22, 23, 24, 25],
        ob 38 (.call false (.f 125) [.t 37]) (rg 1 27),
        ob 39 (.call false (.f 71) [.c (.str ⟨#[118, 97, 108, 117, 101]⟩), .t 38]) (rg 1 28),
        ob 40 (.lit 6 4 [.str ⟨#[]⟩, .int .i64 0, .int .i64 0, .str ⟨#[]⟩, .ns 5, .ns 6] [(0, .t 18), (1, .t 25), (2, .t 32), (3, .t 39)]) (rg 1 29),
        ob 41 (.call false (.f 70) [.t 40]) (rg 1 30),
        ob 42 (.lit 5 1 [.int .i64 0, .int .i64 0, .str ⟨#[]⟩, .ns 5, .ns 6] [(0, .t 41)]) (rg 1 31),
        ob 43 (.append 5 80 (.t 11) (.t 42)) (rg 0 32),
        ob 3 (.mov (.t 43)) (rg 0 33)] true))
    (.reg [o 9 (.mov (.t 4)),
    o 10 (.bin .add (.t 9) (.c (.int .i64 1))),
    o 4 (.mov (.t 10))] false))
def Q1i6 : IR :=
  .seq (.reg [o 2 (.zero [.int .i64 0, .int .i64 0, .str ⟨#[]⟩, .ns 5, .ns 6])] false)
  (.seq (.reg [o 3 (.mov (.c (.ns 5)))] false)
  (.seq (.seq (.reg [o 4 (.mov (.c (.int .i64 0)))] false)
    (.block 0 (.loop Qjc Q1a4)))
  (.seq (.reg [o 44 (.mov (.t 3)),
    o 45 (.call false (.f 138) [.t 44]),
    ⟨none, none, .store 5 (.t 2) (.t 45), []⟩] false)
  (.ret))))
def K37 : IFn := ⟨1, 46, [.cell 2 5 true], false, Q1i6⟩
def Qi8 : List Nat := [100028, 0, 2, 3, 4]
def Q1aj : IR :=
  .seq (.seq (.reg [o 5 (.mov (.t 4)),
        o 6 (.mov (.t 0)),
        o 7 (.len false (.t 6)),
        o 8 (.bin .lss (.t 5) (.t 7))] false)
      (.cond (.t 8) (.skip)
        (.exit 0)))
    (.seq (.block 1 (.reg [o 11 (.mov (.t 3)),
        o 12 (.mov (.t 0)),
        o 13 (.mov (.t 4)),
        ob 14 (.iaddr 3 (.t 12) (.t 13)) [1, 2],
        ob 15 (.faddr 0 (.t 14)) [1, 2, 3],
        ob 16 (.load 1 false (.t 15)) [1, 2, 3, 4],
        ob 17 (.call false (.f 125) [.t 16]) (rg 1 6),
        ob 18 (.call false (.f 71) [.c (.str ⟨#[110, 97, 109, 101]⟩), .t 17]) (rg 1 7),
        o 19 (.mov (.t 0)),
        o 20 (.mov (.t 4)),
        ob 21 (.iaddr 3 (.t 19) (.t 20)) [8, 9],
        ob 22 (.faddr 1 (.t 21)) [8, 9, 10],
        ob 23 (.load 1 false (.t 22)) [8, 9, 10, 11],
        ob 24 (.call false (.f 74) [.t 23]) (rg 1 13),
        ob 25 (.call false (.f 71) [.c (.str ⟨#[115, 105, 122, 101]⟩), .t 24]) (rg 1 14),
        o 26 (.mov (.t 0)),
        o 27 (.mov (.t 4)),
        ob 28 (.iaddr 3 (.t 26) (.t 27)) [15, 16],
        ob 29 (.faddr 2 (.t 28)) [15, 16, 17],
        ob 30 (.load 1 false (.t 29)) [15, 16, 17, 18],
        ob 31 (.call false (.f 74) [.t 30]) (rg 1 20),
        ob 32 (.call false (.f 71) [.c (.str ⟨#[117, 115, 101, 100]⟩), .t 31]) (rg 1 21),
        ob 33 (.lit 6 3 [.str ⟨#[]⟩, .int .i64 0, .int .i64 0, .str ⟨#[]⟩, .ns 5, .ns 6] [(0, .t 18), (1, .t 25), (2, .t 32)]) (rg 1 22),
        ob 34 (.call false (.f 70) [.t 33]) (rg 1 23),
        ob 35 (.lit 5 1 [.int .i64 0, .int .i64 0, .str ⟨#[]⟩, .ns 5, .ns 6] [(0, .t 34)]) (rg 1 24),
        ob 36 (.append 5 80 (.t 11) (.t 35)) (rg 0 25),
        ob 3 (.mov (.t 36)) (rg 0 26)] true))
    (.reg [o 9 (.mov (.t 4)),
    o 10 (.bin .add (.t 9) (.c (.int .i64 1))),
    o 4 (.mov (.t 10))] false))
def Q1lb : IR :=
  .seq (.reg [o 2 (.zero [.int .i64 0, .int .i64 0, .str ⟨#[]⟩, .ns 5, .ns 6])] false)
  (.seq (.reg [o 3 (.mov (.c (.ns 5)))] false)
  (.seq (.seq (.reg [o 4 (.mov (.c (.int .i64 0)))] false)
    (.block 0 (.loop Qi8 Q1aj)))
  (.seq (.reg [o 37 (.mov (.t 3)),
    o 38 (.call false (.f 138) [.t 37]),
    ⟨none, none, .store 5 (.t 2) (.t 38), []⟩] false)
  (.ret))))
def K2y : IFn := ⟨1, 39, [.cell 2 5 true], false, Q1lb⟩
def Qk6 : List Nat := [100029, 1, 4, 5, 8, 9, 10]
def Q19l : IR :=
  .seq (.reg [o 11 (.bin .lss (.t 10) (.t 9))] false)
    (.seq (.cond (.t 11) (.skip)
        (.exit 0))
    (.seq (.block 1 (.seq (.reg [o 12 (.iaddr 2 (.t 8) (.t 10)),
          o 13 (.load 2 true (.t 12)),
          o 7 (.zero [.str ⟨#[]⟩, .str ⟨#[]⟩]),
          ⟨none, none, .store 2 (.t 7) (.t 13), []⟩] false)
        (.reg [o 14 (.mov (.t 5)),
        o 15 (.mov (.t 1)),
        o 16 (.load 2 true (.t 7)),
        o 17 (.call false (.t 15) [.t 16]),
        o 18 (.lit 5 1 [.int .i64 0, .int .i64 0, .str ⟨#[]⟩, .ns 5, .ns 6] [(0, .t 17)]),
        o 19 (.append 5 80 (.t 14) (.t 18)),
        o 5 (.mov (.t 19))] false)))
    (.reg [o 20 (.bin .add (.t 10) (.c (.int .i64 1))),
    o 10 (.mov (.t 20))] false)))
def Q1gz : IR :=
  .seq (.reg [o 4 (.zero [.int .i64 0, .int .i64 0, .str ⟨#[]⟩, .ns 5, .ns 6])] false)
  (.seq (.reg [o 5 (.mov (.c (.ns 5)))] false)
  (.seq (.seq (.reg [o 8 (.mov (.t 0)),
      o 9 (.len false (.t 8)),
      o 10 (.mov (.c (.int .i64 0)))] false)
    (.block 0 (.loop Qk6 Q19l)))
  (.seq (.reg [o 21 (.mov (.t 5)),
    o 22 (.call false (.f 137) [.t 21]),
    ⟨none, none, .store 5 (.t 4) (.t 22), []⟩] false)
  (.ret))))
def K23 : IFn := ⟨2, 23, [.cell 4 5 true], false, Q1gz⟩
def Q1la : IR :=
  .seq (.reg [o 1 (.box 2 (.t 0)),
    o 2 (.zero [.int .i64 0, .int .i64 0, .str ⟨#[]⟩, .ns 5, .ns 6])] false)
  (.seq (.reg [o 3 (.faddr 0 (.t 1)),
    ob 4 (.load 1 false (.t 3)) [0],
    ob 5 (.call false (.f 109) [.t 4]) [0, 1],
    ob 6 (.call false (.f 62) [.c (.str ⟨#[107, 101, 121]⟩), .t 5]) [0, 1, 2],
    o 7 (.faddr 1 (.t 1)),
    ob 8 (.load 1 false (.t 7)) [4],
    ob 9 (.call false (.f 109) [.t 8]) (rg 0 6),
    ob 10 (.call false (.f 62) [.c (.str ⟨#[118, 97, 108, 117, 101]⟩), .t 9]) (rg 0 7),
    ob 11 (.lit 6 2 [.str ⟨#[]⟩, .int .i64 0, .int .i64 0, .str ⟨#[]⟩, .ns 5, .ns 6] [(0, .t 6), (1, .t 10)]) (rg 0 8),
    ob 12 (.call false (.f 61) [.t 11]) (rg 0 9),
    ⟨none, none, .store 5 (.t 2) (.t 12), (rg 0 10)⟩] true)
  (.ret))
def K1g : IFn := ⟨1, 13, [.cell 2 5 true], false, Q1la⟩
def Qgz : List Nat := [100030, 0, 2, 3, 4]
def Q19w : IR :=
  .seq (.seq (.reg [o 5 (.mov (.t 4)),
        o 6 (.mov (.t 0)),
        o 7 (.len false (.t 6)),
        o 8 (.bin .lss (.t 5) (.t 7))] false)
      (.cond (.t 8) (.skip)
        (.exit 0)))
    (.seq (.block 1 (.reg [o 11 (.mov (.t 3)),
        o 12 (.mov (.t 0)),
        o 13 (.mov (.t 4)),
        ob 14 (.iaddr 2 (.t 12) (.t 13)) [1, 2],
        ob 15 (.faddr 0 (.t 14)) [1, 2, 3],
        ob 16 (.load 1 false (.t 15)) [1, 2, 3, 4],
        ob 17 (.call false (.f 125) [.t 16]) (rg 1 6),
        ob 18 (.call false (.f 71) [.c (.str ⟨#[107, 101, 121]⟩), .t 17]) (rg 1 7),
        o 19 (.mov (.t 0)),
        o 20 (.mov (.t 4)),
        ob 21 (.iaddr 2 (.t 19) (.t 20)) [8, 9],
        ob 22 (.faddr 1 (.t 21)) [8, 9, 10],
        ob 23 (.load 1 false (.t 22)) [8, 9, 10, 11],
        ob 24 (.call false (.f 125) [.t 23]) (rg 1 13),
        ob 25 (.call false (.f 71) [.c (.str ⟨#[118, 97, 108, 117, 101]⟩), .t 24]) (rg 1 14),
        ob 26 (.lit 6 2 [.str ⟨#[]⟩, .int .i64 0, .int .i64 0, .str ⟨#[]⟩, .ns 5, .ns 6] [(0, .t 18), (1, .t 25)]) (rg 1 15),
        ob 27 (.call false (.f 70) [.t 26]) (rg 1 16),
        ob 28 (.lit 5 1 [.int .i64 0, .int .i64 0, .str ⟨#[]⟩, .ns 5, .ns 6] [(0, .t 27)]) (rg 1 17),
        ob 29 (.append 5 80 (.t 11) (.t 28)) (rg 0 18),
        ob 3 (.mov (.t 29)) (rg 0 19)] true))
    (.reg [o 9 (.mov (.t 4)),
    o 10 (.bin .add (.t 9) (.c (.int .i64 1))),
    o 4 (.mov (.t 10))] false))
def Q1li : IR :=
  .seq (.reg [o 2 (.zero [.int .i64 0, .int .i64 0, .str ⟨#[]⟩, .ns 5, .ns 6])] false)
  (.seq (.reg [o 3 (.mov (.c (.ns 5)))] false)
  (.seq (.seq (.reg [o 4 (.mov (.c (.int .i64 0)))] false)
    (.block 0 (.loop Qgz Q19w)))
  (.seq (.reg [o 30 (.mov (.t 3)),
    o 31 (.call false (.f 138) [.t 30]),
    ⟨none, none, .store 5 (.t 2) (.t 31), []⟩] false)
  (.ret))))
def K2z : IFn := ⟨1, 32, [.cell 2 5 true], false, Q1li⟩
def Kv_c : IR :=
  .seq (.reg [o 4 (.box 5 (.t 1)),
    o 6 (.mov (.c (.str ⟨#[]⟩)))] false)
  (.seq (.reg [o 7 (.mov (.t 0)),
    o 8 (.load 5 true (.t 4)),
    o 9 (.mov (.t 2)),
    o 10 (.call false (.f 106) [.t 7, .t 8, .t 9, .c (.int .i64 3)]),
    o 11 (.field 2 1 false (.t 10)),
    o 6 (.mov (.t 11))] false)
  (.ret))
def Kv : IFn := ⟨3, 12, [.tmp 6], false, Kv_c⟩
def Qwl : List Nat := [100031, 3, 9, 16, 17, 18]
def Q1e8 : IR :=
  .seq (.reg [o 19 (.bin .lss (.t 18) (.t 17))] false)
    (.seq (.cond (.t 19) (.skip)
        (.exit 0))
    (.seq (.block 1 (.seq (.reg [o 20 (.iaddr 5 (.t 16) (.t 18)),
          o 21 (.load 5 true (.t 20)),
          o 11 (.zero [.int .i64 0, .int .i64 0, .str ⟨#[]⟩, .ns 5, .ns 6]),
          ⟨none, none, .store 5 (.t 11) (.t 21), []⟩] false)
        (.reg [o 22 (.mov (.t 9)),
        o 23 (.mov (.t 3)),
        o 24 (.load 5 true (.t 11)),
        o 25 (.call false (.t 23) [.t 24]),
        o 26 (.lit 11 1 [.str ⟨#[]⟩, .str ⟨#[]⟩, .int .i64 0, .int .i64 0, .int .i64 0, .int .i64 0, .int .i64 0, .int .i64 0, .ns 4, .ns 4, .ns 4] [(0, .t 25)]),
        o 27 (.append 11 152 (.t 22) (.t 26)),
        o 9 (.mov (.t 27))] false)))
    (.reg [o 28 (.bin .add (.t 18) (.c (.int .i64 1))),
    o 18 (.mov (.t 28))] false)))
def Q1i8 : IR :=
  .seq (.reg [o 5 (.box 5 (.t 1)),
    o 8 (.mov (.c (.ns 11)))] false)
  (.seq (.reg [o 9 (.mov (.c (.ns 11)))] false)
  (.seq (.seq (.reg [o 12 (.mov (.t 0)),
      o 13 (.load 5 true (.t 5)),
      o 14 (.mov (.t 2)),
      o 15 (.call false (.f 106) [.t 12, .t 13, .t 14, .c (.int .i64 4)]),
      o 16 (.field 3 1 false (.t 15)),
      o 17 (.len false (.t 16)),
      o 18 (.mov (.c (.int .i64 0)))] false)
    (.block 0 (.loop Qwl Q1e8)))
  (.seq (.reg [o 29 (.mov (.t 9)),
    o 8 (.mov (.t 29))] false)
  (.ret))))
def K16 : IFn := ⟨4, 30, [.tmp 8], false, Q1i8⟩
def Kg_c : IR :=
  .seq (.reg [o 3 (.box 5 (.t 1)),
    o 4 (.zero [.str ⟨#[]⟩, .str ⟨#[]⟩, .int .i64 0, .int .i64 0, .int .i64 0, .int .i64 0, .int .i64 0, .int .i64 0, .ns 4, .ns 4, .ns 4])] false)
  (.seq (.reg [o 5 (.mov (.t 0)),
    o 6 (.load 5 true (.t 3)),
    o 7 (.call false (.f 36) [.t 5, .t 6])] false)
  (.seq (.reg [o 8 (.mov (.t 0)),
    o 9 (.load 5 true (.t 3)),
    ob 10 (.call false (.f 84) [.t 8, .t 9, .c (.str ⟨#[110, 97, 109, 101]⟩)]) [0, 1],
    o 11 (.mov (.t 0)),
    o 12 (.load 5 true (.t 3)),
    ob 13 (.call false (.f 84) [.t 11, .t 12, .c (.str ⟨#[105, 109, 97, 103, 101]⟩)]) (rg 0 5),
    o 14 (.mov (.t 0)),
    o 15 (.mov (.t 0)),
    o 16 (.load 5 true (.t 3)),
    ob 17 (.call false (.f 38) [.t 15, .t 16, .c (.str ⟨#[114, 101, 113, 117, 101, 115, 116]⟩)]) (rg 0 6 ++ [7, 8]),
    ob 18 (.call false (.f 37) [.t 14, .t 17]) (rg 0 10),
    o 19 (.mov (.t 0)),
    o 20 (.mov (.t 0)),
    o 21 (.load 5 true (.t 3)),
    ob 22 (.call false (.f 38) [.t 20, .t 21, .c (.str ⟨#[108, 105, 109, 105, 116]⟩)]) (rg 0 11 ++ [12, 13]),
    ob 23 (.call false (.f 37) [.t 19, .t 22]) (rg 0 15),
    o 24 (.mov (.t 0)),
    o 25 (.load 5 true (.t 3)),
    o 26 (.mov (.t 0)),
    ob 27 (.mkfn 140 [.t 26] []) [18],
    ob 28 (.call false (.f 139) [.t 24, .t 25, .c (.str ⟨#[108, 105, 118, 101]⟩), .t 27]) (rg 0 20),
    o 29 (.mov (.t 0)),
    o 30 (.load 5 true (.t 3)),
    o 31 (.mov (.t 0)),
    ob 32 (.mkfn 140 [.t 31] []) [23],
    ob 33 (.call false (.f 139) [.t 29, .t 30, .c (.str ⟨#[114, 101, 97, 100, 121]⟩), .t 32]) (rg 0 25),
    o 34 (.mov (.t 0)),
    o 35 (.load 5 true (.t 3)),
    o 36 (.mov (.t 0)),
    ob 37 (.mkfn 140 [.t 36] []) [28],
    ob 38 (.call false (.f 139) [.t 34, .t 35, .c (.str ⟨#[115, 116, 97, 114, 116, 117, 112]⟩), .t 37]) (rg 0 30),
    ob 39 (.build [.str ⟨#[]⟩, .str ⟨#[]⟩, .int .i64 0, .int .i64 0, .int .i64 0, .int .i64 0, .int .i64 0, .int .i64 0, .ns 4, .ns 4, .ns 4] [(0, 1, .t 10), (1, 1, .t 13), (2, 3, .t 18), (5, 3, .t 23), (8, 1, .t 28), (9, 1, .t 33), (10, 1, .t 38)]) (rg 0 31),
    ⟨none, none, .store 11 (.t 4) (.t 39), (rg 0 32)⟩] true)
  (.ret)))
def Kg : IFn := ⟨2, 40, [.cell 4 11 true], false, Kg_c⟩
def Qx1 : List Nat := [100032, 3, 9, 16, 17, 18]
def Q1d2 : IR :=
  .seq (.reg [o 19 (.bin .lss (.t 18) (.t 17))] false)
    (.seq (.cond (.t 19) (.skip)
        (.exit 0))
    (.seq (.block 1 (.seq (.reg [o 20 (.iaddr 5 (.t 16) (.t 18)),
          o 21 (.load 5 true (.t 20)),
          o 11 (.zero [.int .i64 0, .int .i64 0, .str ⟨#[]⟩, .ns 5, .ns 6]),
          ⟨none, none, .store 5 (.t 11) (.t 21), []⟩] false)
        (.reg [o 22 (.mov (.t 9)),
        o 23 (.mov (.t 3)),
        o 24 (.load 5 true (.t 11)),
        o 25 (.call false (.t 23) [.t 24]),
        o 26 (.lit 3 1 [.str ⟨#[]⟩, .int .i64 0, .ns 1] [(0, .t 25)]),
        o 27 (.append 3 48 (.t 22) (.t 26)),
        o 9 (.mov (.t 27))] false)))
    (.reg [o 28 (.bin .add (.t 18) (.c (.int .i64 1))),
    o 18 (.mov (.t 28))] false)))
def Q1jm : IR :=
  .seq (.reg [o 5 (.box 5 (.t 1)),
    o 8 (.mov (.c (.ns 3)))] false)
  (.seq (.reg [o 9 (.mov (.c (.ns 3)))] false)
  (.seq (.seq (.reg [o 12 (.mov (.t 0)),
      o 13 (.load 5 true (.t 5)),
      o 14 (.mov (.t 2)),
      o 15 (.call false (.f 106) [.t 12, .t 13, .t 14, .c (.int .i64 4)]),
      o 16 (.field 3 1 false (.t 15)),
      o 17 (.len false (.t 16)),
      o 18 (.mov (.c (.int .i64 0)))] false)
    (.block 0 (.loop Qx1 Q1d2)))
  (.seq (.reg [o 29 (.mov (.t 9)),
    o 8 (.mov (.t 29))] false)
  (.ret))))
def K17 : IFn := ⟨4, 30, [.tmp 8], false, Q1jm⟩
def Kq_c : IR :=
  .seq (.reg [o 3 (.box 5 (.t 1)),
    o 4 (.zero [.str ⟨#[]⟩, .int .i64 0, .ns 1])] false)
  (.seq (.reg [o 5 (.mov (.t 0)),
    o 6 (.load 5 true (.t 3)),
    o 7 (.call false (.f 36) [.t 5, .t 6])] false)
  (.seq (.reg [o 8 (.mov (.t 0)),
    o 9 (.load 5 true (.t 3)),
    ob 10 (.call false (.f 84) [.t 8, .t 9, .c (.str ⟨#[107, 101, 121]⟩)]) [0, 1],
    o 11 (.mov (.t 0)),
    o 12 (.load 5 true (.t 3)),
    ob 13 (.call false (.f 39) [.t 11, .t 12, .c (.str ⟨#[111, 112]⟩)]) (rg 0 5),
    o 14 (.mov (.t 0)),
    o 15 (.load 5 true (.t 3)),
    o 16 (.mov (.t 0)),
    ob 17 (.mkfn 142 [.t 16] []) [8],
    ob 18 (.call false (.f 141) [.t 14, .t 15, .c (.str ⟨#[118, 97, 108, 117, 101, 115]⟩), .t 17]) (rg 0 10),
    ob 19 (.build [.str ⟨#[]⟩, .int .i64 0, .ns 1] [(0, 1, .t 10), (1, 1, .t 13), (2, 1, .t 18)]) (rg 0 11),
    ⟨none, none, .store 3 (.t 4) (.t 19), (rg 0 12)⟩] true)
  (.ret)))
def Kq : IFn := ⟨2, 20, [.cell 4 3 true], false, Kq_c⟩
def Qwq : List Nat := [100033, 3, 9, 16, 17, 18]
def Q1ft : IR :=
  .seq (.reg [o 19 (.bin .lss (.t 18) (.t 17))] false)
    (.seq (.cond (.t 19) (.skip)
        (.exit 0))
    (.seq (.block 1 (.seq (.reg [o 20 (.iaddr 5 (.t 16) (.t 18)),
          o 21 (.load 5 true (.t 20)),
          o 11 (.zero [.int .i64 0, .int .i64 0, .str ⟨#[]⟩, .ns 5, .ns 6]),
          ⟨none, none, .store 5 (.t 11) (.t 21), []⟩] false)
        (.reg [o 22 (.mov (.t 9)),
        o 23 (.mov (.t 3)),
        o 24 (.load 5 true (.t 11)),
        o 25 (.call false (.t 23) [.t 24]),
        o 26 (.lit 3 1 [.bool false, .ns 3, .int .i64 0] [(0, .t 25)]),
        o 27 (.append 3 40 (.t 22) (.t 26)),
        o 9 (.mov (.t 27))] false)))
    (.reg [o 28 (.bin .add (.t 18) (.c (.int .i64 1))),
    o 18 (.mov (.t 28))] false)))
def Q1hn : IR :=
  .seq (.reg [o 5 (.box 5 (.t 1)),
    o 8 (.mov (.c (.ns 3)))] false)
  (.seq (.reg [o 9 (.mov (.c (.ns 3)))] false)
  (.seq (.seq (.reg [o 12 (.mov (.t 0)),
      o 13 (.load 5 true (.t 5)),
      o 14 (.mov (.t 2)),
      o 15 (.call false (.f 106) [.t 12, .t 13, .t 14, .c (.int .i64 4)]),
      o 16 (.field 3 1 false (.t 15)),
      o 17 (.len false (.t 16)),
      o 18 (.mov (.c (.int .i64 0)))] false)
    (.block 0 (.loop Qwq Q1ft)))
  (.seq (.reg [o 29 (.mov (.t 9)),
    o 8 (.mov (.t 29))] false)
  (.ret))))
def K18 : IFn := ⟨4, 30, [.tmp 8], false, Q1hn⟩
def Km_c : IR :=
  .seq (.reg [o 3 (.box 5 (.t 1)),
    o 4 (.zero [.bool false, .ns 3, .int .i64 0])] false)
  (.seq (.reg [o 5 (.mov (.t 0)),
    o 6 (.load 5 true (.t 3)),
    o 7 (.call false (.f 36) [.t 5, .t 6])] false)
  (.seq (.reg [o 8 (.mov (.t 0)),
    o 9 (.load 5 true (.t 3)),
    ob 10 (.call false (.f 40) [.t 8, .t 9, .c (.str ⟨#[114, 101, 113, 117, 105, 114, 101, 100]⟩)]) [0, 1],
    o 11 (.mov (.t 0)),
    o 12 (.load 5 true (.t 3)),
    o 13 (.mov (.t 0)),
    ob 14 (.mkfn 88 [.t 13] []) [5],
    ob 15 (.call false (.f 87) [.t 11, .t 12, .c (.str ⟨#[115, 101, 108, 101, 99, 116, 111, 114]⟩), .t 14]) (rg 0 7),
    o 16 (.mov (.t 0)),
    o 17 (.load 5 true (.t 3)),
    ob 18 (.call false (.f 39) [.t 16, .t 17, .c (.str ⟨#[119, 101, 105, 103, 104, 116]⟩)]) (rg 0 10),
    ob 19 (.build [.bool false, .ns 3, .int .i64 0] [(0, 1, .t 10), (1, 1, .t 15), (2, 1, .t 18)]) (rg 0 11),
    ⟨none, none, .store 3 (.t 4) (.t 19), (rg 0 12)⟩] true)
  (.ret)))
def Km : IFn := ⟨2, 20, [.cell 4 3 true], false, Km_c⟩
def Qx7 : List Nat := [100034, 3, 9, 16, 17, 18]
def Q1g1 : IR :=
  .seq (.reg [o 19 (.bin .lss (.t 18) (.t 17))] false)
    (.seq (.cond (.t 19) (.skip)
        (.exit 0))
    (.seq (.block 1 (.seq (.reg [o 20 (.iaddr 5 (.t 16) (.t 18)),
          o 21 (.load 5 true (.t 20)),
          o 11 (.zero [.int .i64 0, .int .i64 0, .str ⟨#[]⟩, .ns 5, .ns 6]),
          ⟨none, none, .store 5 (.t 11) (.t 21), []⟩] false)
        (.reg [o 22 (.mov (.t 9)),
        o 23 (.mov (.t 3)),
        o 24 (.load 5 true (.t 11)),
        o 25 (.call false (.t 23) [.t 24]),
        o 26 (.lit 5 1 [.bool false, .bool false, .ns 3, .str ⟨#[]⟩, .int .i64 0] [(0, .t 25)]),
        o 27 (.append 5 56 (.t 22) (.t 26)),
        o 9 (.mov (.t 27))] false)))
    (.reg [o 28 (.bin .add (.t 18) (.c (.int .i64 1))),
    o 18 (.mov (.t 28))] false)))
def Q1hd : IR :=
  .seq (.reg [o 5 (.box 5 (.t 1)),
    o 8 (.mov (.c (.ns 5)))] false)
  (.seq (.reg [o 9 (.mov (.c (.ns 5)))] false)
  (.seq (.seq (.reg [o 12 (.mov (.t 0)),
      o 13 (.load 5 true (.t 5)),
      o 14 (.mov (.t 2)),
      o 15 (.call false (.f 106) [.t 12, .t 13, .t 14, .c (.int .i64 4)]),
      o 16 (.field 3 1 false (.t 15)),
      o 17 (.len false (.t 16)),
      o 18 (.mov (.c (.int .i64 0)))] false)
    (.block 0 (.loop Qx7 Q1g1)))
  (.seq (.reg [o 29 (.mov (.t 9)),
    o 8 (.mov (.t 29))] false)
  (.ret))))
def K19 : IFn := ⟨4, 30, [.tmp 8], false, Q1hd⟩
def Ko_c : IR :=
  .seq (.reg [o 3 (.box 5 (.t 1)),
    o 4 (.zero [.bool false, .bool false, .ns 3, .str ⟨#[]⟩, .int .i64 0])] false)
  (.seq (.reg [o 5 (.mov (.t 0)),
    o 6 (.load 5 true (.t 3)),
    o 7 (.call false (.f 36) [.t 5, .t 6])] false)
  (.seq (.reg [o 8 (.mov (.t 0)),
    o 9 (.load 5 true (.t 3)),
    ob 10 (.call false (.f 40) [.t 8, .t 9, .c (.str ⟨#[114, 101, 113, 117, 105, 114, 101, 100]⟩)]) [0, 1],
    o 11 (.mov (.t 0)),
    o 12 (.load 5 true (.t 3)),
    ob 13 (.call false (.f 40) [.t 11, .t 12, .c (.str ⟨#[97, 110, 116, 105]⟩)]) (rg 0 5),
    o 14 (.mov (.t 0)),
    o 15 (.load 5 true (.t 3)),
    o 16 (.mov (.t 0)),
    ob 17 (.mkfn 88 [.t 16] []) [8],
    ob 18 (.call false (.f 87) [.t 14, .t 15, .c (.str ⟨#[115, 101, 108, 101, 99, 116, 111, 114]⟩), .t 17]) (rg 0 10),
    o 19 (.mov (.t 0)),
    o 20 (.load 5 true (.t 3)),
    ob 21 (.call false (.f 84) [.t 19, .t 20, .c (.str ⟨#[116, 111, 112, 111, 108, 111, 103, 121]⟩)]) (rg 0 13),
    o 22 (.mov (.t 0)),
    o 23 (.load 5 true (.t 3)),
    ob 24 (.call false (.f 39) [.t 22, .t 23, .c (.str ⟨#[119, 101, 105, 103, 104, 116]⟩)]) (rg 0 16),
    ob 25 (.build [.bool false, .bool false, .ns 3, .str ⟨#[]⟩, .int .i64 0] [(0, 1, .t 10), (1, 1, .t 13), (2, 1, .t 18), (3, 1, .t 21), (4, 1, .t 24)]) (rg 0 17),
    ⟨none, none, .store 5 (.t 4) (.t 25), (rg 0 18)⟩] true)
  (.ret)))
def Ko : IFn := ⟨2, 26, [.cell 4 5 true], false, Ko_c⟩
def Qwb : List Nat := [100035, 3, 9, 16, 17, 18]
def Q1fq : IR :=
  .seq (.reg [o 19 (.bin .lss (.t 18) (.t 17))] false)
    (.seq (.cond (.t 19) (.skip)
        (.exit 0))
    (.seq (.block 1 (.seq (.reg [o 20 (.iaddr 5 (.t 16) (.t 18)),
          o 21 (.load 5 true (.t 20)),
          o 11 (.zero [.int .i64 0, .int .i64 0, .str ⟨#[]⟩, .ns 5, .ns 6]),
          ⟨none, none, .store 5 (.t 11) (.t 21), []⟩] false)
        (.reg [o 22 (.mov (.t 9)),
        o 23 (.mov (.t 3)),
        o 24 (.load 5 true (.t 11)),
        o 25 (.call false (.t 23) [.t 24]),
        o 26 (.lit 4 1 [.int .i64 0, .str ⟨#[]⟩, .ns 3, .bool false] [(0, .t 25)]),
        o 27 (.append 4 56 (.t 22) (.t 26)),
        o 9 (.mov (.t 27))] false)))
    (.reg [o 28 (.bin .add (.t 18) (.c (.int .i64 1))),
    o 18 (.mov (.t 28))] false)))
def Q1gy : IR :=
  .seq (.reg [o 5 (.box 5 (.t 1)),
    o 8 (.mov (.c (.ns 4)))] false)
  (.seq (.reg [o 9 (.mov (.c (.ns 4)))] false)
  (.seq (.seq (.reg [o 12 (.mov (.t 0)),
      o 13 (.load 5 true (.t 5)),
      o 14 (.mov (.t 2)),
      o 15 (.call false (.f 106) [.t 12, .t 13, .t 14, .c (.int .i64 4)]),
      o 16 (.field 3 1 false (.t 15)),
      o 17 (.len false (.t 16)),
      o 18 (.mov (.c (.int .i64 0)))] false)
    (.block 0 (.loop Qwb Q1fq)))
  (.seq (.reg [o 29 (.mov (.t 9)),
    o 8 (.mov (.t 29))] false)
  (.ret))))
def K1a : IFn := ⟨4, 30, [.tmp 8], false, Q1gy⟩
def Kt_c : IR :=
  .seq (.reg [o 3 (.box 5 (.t 1)),
    o 4 (.zero [.int .i64 0, .str ⟨#[]⟩, .ns 3, .bool false])] false)
  (.seq (.reg [o 5 (.mov (.t 0)),
    o 6 (.load 5 true (.t 3)),
    o 7 (.call false (.f 36) [.t 5, .t 6])] false)
  (.seq (.reg [o 8 (.mov (.t 0)),
    o 9 (.load 5 true (.t 3)),
    ob 10 (.call false (.f 39) [.t 8, .t 9, .c (.str ⟨#[109, 97, 120, 83, 107, 101, 119]⟩)]) [0, 1],
    o 11 (.mov (.t 0)),
    o 12 (.load 5 true (.t 3)),
    ob 13 (.call false (.f 84) [.t 11, .t 12, .c (.str ⟨#[116, 111, 112, 111, 108, 111, 103, 121]⟩)]) (rg 0 5),
    o 14 (.mov (.t 0)),
    o 15 (.load 5 true (.t 3)),
    o 16 (.mov (.t 0)),
    ob 17 (.mkfn 88 [.t 16] []) [8],
    ob 18 (.call false (.f 87) [.t 14, .t 15, .c (.str ⟨#[115, 101, 108, 101, 99, 116, 111, 114]⟩), .t 17]) (rg 0 10),
    o 19 (.mov (.t 0)),
    o 20 (.load 5 true (.t 3)),
    ob 21 (.call false (.f 40) [.t 19, .t 20, .c (.str ⟨#[114, 101, 113, 117, 105, 114, 101, 100]⟩)]) (rg 0 13),
    ob 22 (.build [.int .i64 0, .str ⟨#[]⟩, .ns 3, .bool false] [(0, 1, .t 10), (1, 1, .t 13), (2, 1, .t 18), (3, 1, .t 21)]) (rg 0 14),
    ⟨none, none, .store 4 (.t 4) (.t 22), (rg 0 15)⟩] true)
  (.ret)))
def Kt : IFn := ⟨2, 23, [.cell 4 4 true], false, Kt_c⟩
def Qx2 : List Nat := [100036, 3, 9, 16, 17, 18]
def Q1fo : IR :=
  .seq (.reg [o 19 (.bin .lss (.t 18) (.t 17))] false)
    (.seq (.cond (.t 19) (.skip)
        (.exit 0))
    (.seq (.block 1 (.seq (.reg [o 20 (.iaddr 5 (.t 16) (.t 18)),
          o 21 (.load 5 true (.t 20)),
          o 11 (.zero [.int .i64 0, .int .i64 0, .str ⟨#[]⟩, .ns 5, .ns 6]),
          ⟨none, none, .store 5 (.t 11) (.t 21), []⟩] false)
        (.reg [o 22 (.mov (.t 9)),
        o 23 (.mov (.t 3)),
        o 24 (.load 5 true (.t 11)),
        o 25 (.call false (.t 23) [.t 24]),
        o 26 (.lit 5 1 [.str ⟨#[]⟩, .str ⟨#[]⟩, .bool false, .int .i64 0, .int .i64 0] [(0, .t 25)]),
        o 27 (.append 5 56 (.t 22) (.t 26)),
        o 9 (.mov (.t 27))] false)))
    (.reg [o 28 (.bin .add (.t 18) (.c (.int .i64 1))),
    o 18 (.mov (.t 28))] false)))
def Q1jn : IR :=
  .seq (.reg [o 5 (.box 5 (.t 1)),
    o 8 (.mov (.c (.ns 5)))] false)
  (.seq (.reg [o 9 (.mov (.c (.ns 5)))] false)
  (.seq (.seq (.reg [o 12 (.mov (.t 0)),
      o 13 (.load 5 true (.t 5)),
      o 14 (.mov (.t 2)),
      o 15 (.call false (.f 106) [.t 12, .t 13, .t 14, .c (.int .i64 4)]),
      o 16 (.field 3 1 false (.t 15)),
      o 17 (.len false (.t 16)),
      o 18 (.mov (.c (.int .i64 0)))] false)
    (.block 0 (.loop Qx2 Q1fo)))
  (.seq (.reg [o 29 (.mov (.t 9)),
    o 8 (.mov (.t 29))] false)
  (.ret))))
def K1b : IFn := ⟨4, 30, [.tmp 8], false, Q1jn⟩
def Q1gn : IR :=
  .seq (.reg [o 3 (.box 5 (.t 1)),
    o 4 (.zero [.str ⟨#[]⟩, .str ⟨#[]⟩, .bool false, .int .i64 0, .int .i64 0])] false)
  (.seq (.reg [o 5 (.mov (.t 0)),
    o 6 (.load 5 true (.t 3)),
    o 7 (.call false (.f 36) [.t 5, .t 6])] false)
  (.seq (.reg [o 8 (.mov (.t 0)),
    o 9 (.load 5 true (.t 3)),
    ob 10 (.call false (.f 84) [.t 8, .t 9, .c (.str ⟨#[107, 101, 121]⟩)]) [0, 1],
    o 11 (.mov (.t 0)),
    o 12 (.load 5 true (.t 3)),
    ob 13 (.call false (.f 84) [.t 11, .t 12, .c (.str ⟨#[118, 97, 108, 117, 101]⟩)]) (rg 0 5),
    o 14 (.mov (.t 0)),
    o 15 (.load 5 true (.t 3)),
    ob 16 (.call false (.f 40) [.t 14, .t 15, .c (.str ⟨#[101, 120, 105, 115, 116, 115]⟩)]) (rg 0 8),
    o 17 (.mov (.t 0)),
    o 18 (.load 5 true (.t 3)),
    ob 19 (.call false (.f 39) [.t 17, .t 18, .c (.str ⟨#[101, 102, 102, 101, 99, 116]⟩)]) (rg 0 11),
    o 20 (.mov (.t 0)),
    o 21 (.load 5 true (.t 3)),
    ob 22 (.call false (.f 39) [.t 20, .t 21, .c (.str ⟨#[115, 101, 99, 111, 110, 100, 115]⟩)]) (rg 0 14),
    ob 23 (.build [.str ⟨#[]⟩, .str ⟨#[]⟩, .bool false, .int .i64 0, .int .i64 0] [(0, 1, .t 10), (1, 1, .t 13), (2, 1, .t 16), (3, 1, .t 19), (4, 1, .t 22)]) (rg 0 15),
    ⟨none, none, .store 5 (.t 4) (.t 23), (rg 0 16)⟩] true)
  (.ret)))
def K10 : IFn := ⟨2, 24, [.cell 4 5 true], false, Q1gn⟩
def Qxa : List Nat := [100037, 3, 9, 16, 17, 18]
def Q1eb : IR :=
  .seq (.reg [o 19 (.bin .lss (.t 18) (.t 17))] false)
    (.seq (.cond (.t 19) (.skip)
        (.exit 0))
    (.seq (.block 1 (.seq (.reg [o 20 (.iaddr 5 (.t 16) (.t 18)),
          o 21 (.load 5 true (.t 20)),
          o 11 (.zero [.int .i64 0, .int .i64 0, .str ⟨#[]⟩, .ns 5, .ns 6]),
          ⟨none, none, .store 5 (.t 11) (.t 21), []⟩] false)
        (.reg [o 22 (.mov (.t 9)),
        o 23 (.mov (.t 3)),
        o 24 (.load 5 true (.t 11)),
        o 25 (.call false (.t 23) [.t 24]),
        o 26 (.lit 7 1 [.str ⟨#[]⟩, .int .i64 0, .int .i64 0, .int .i64 0, .int .i64 0, .bool false, .bool false] [(0, .t 25)]),
        o 27 (.append 7 56 (.t 22) (.t 26)),
        o 9 (.mov (.t 27))] false)))
    (.reg [o 28 (.bin .add (.t 18) (.c (.int .i64 1))),
    o 18 (.mov (.t 28))] false)))
def Q1j3 : IR :=
  .seq (.reg [o 5 (.box 5 (.t 1)),
    o 8 (.mov (.c (.ns 7)))] false)
  (.seq (.reg [o 9 (.mov (.c (.ns 7)))] false)
  (.seq (.seq (.reg [o 12 (.mov (.t 0)),
      o 13 (.load 5 true (.t 5)),
      o 14 (.mov (.t 2)),
      o 15 (.call false (.f 106) [.t 12, .t 13, .t 14, .c (.int .i64 4)]),
      o 16 (.field 3 1 false (.t 15)),
      o 17 (.len false (.t 16)),
      o 18 (.mov (.c (.int .i64 0)))] false)
    (.block 0 (.loop Qxa Q1eb)))
  (.seq (.reg [o 29 (.mov (.t 9)),
    o 8 (.mov (.t 29))] false)
  (.ret))))
def K1c : IFn := ⟨4, 30, [.tmp 8], false, Q1j3⟩
def Kh_c : IR :=
  .seq (.reg [o 3 (.box 5 (.t 1)),
    o 4 (.zero [.str ⟨#[]⟩, .int .i64 0, .int .i64 0, .int .i64 0, .int .i64 0, .bool false, .bool false])] false)
  (.seq (.reg [o 5 (.mov (.t 0)),
    o 6 (.load 5 true (.t 3)),
    o 7 (.call false (.f 36) [.t 5, .t 6])] false)
  (.seq (.reg [o 8 (.mov (.t 0)),
    o 9 (.load 5 true (.t 3)),
    ob 10 (.call false (.f 84) [.t 8, .t 9, .c (.str ⟨#[110, 97, 109, 101]⟩)]) [0, 1],
    o 11 (.mov (.t 0)),
    o 12 (.load 5 true (.t 3)),
    ob 13 (.call false (.f 39) [.t 11, .t 12, .c (.str ⟨#[115, 116, 97, 116, 101]⟩)]) (rg 0 5),
    o 14 (.mov (.t 0)),
    o 15 (.load 5 true (.t 3)),
    ob 16 (.call false (.f 39) [.t 14, .t 15, .c (.str ⟨#[114, 101, 115, 116, 97, 114, 116, 115]⟩)]) (rg 0 8),
    o 17 (.mov (.t 0)),
    o 18 (.load 5 true (.t 3)),
    ob 19 (.call false (.f 39) [.t 17, .t 18, .c (.str ⟨#[101, 120, 105, 116, 67, 111, 100, 101]⟩)]) (rg 0 11),
    o 20 (.mov (.t 0)),
    o 21 (.load 5 true (.t 3)),
    ob 22 (.call false (.f 39) [.t 20, .t 21, .c (.str ⟨#[115, 105, 110, 99, 101]⟩)]) (rg 0 14),
    o 23 (.mov (.t 0)),
    o 24 (.load 5 true (.t 3)),
    ob 25 (.call false (.f 40) [.t 23, .t 24, .c (.str ⟨#[114, 101, 97, 100, 121]⟩)]) (rg 0 17),
    o 26 (.mov (.t 0)),
    o 27 (.load 5 true (.t 3)),
    ob 28 (.call false (.f 40) [.t 26, .t 27, .c (.str ⟨#[115, 116, 97, 114, 116, 101, 100]⟩)]) (rg 0 20),
    ob 29 (.build [.str ⟨#[]⟩, .int .i64 0, .int .i64 0, .int .i64 0, .int .i64 0, .bool false, .bool false] [(0, 1, .t 10), (1, 1, .t 13), (2, 1, .t 16), (3, 1, .t 19), (4, 1, .t 22), (5, 1, .t 25), (6, 1, .t 28)]) (rg 0 21),
    ⟨none, none, .store 7 (.t 4) (.t 29), (rg 0 22)⟩] true)
  (.ret)))
def Kh : IFn := ⟨2, 30, [.cell 4 7 true], false, Kh_c⟩
def Kj_c : IR :=
  .seq (.reg [o 5 (.box 5 (.t 1)),
    o 8 (.zero [.int .i64 0, .int .i64 0, .str ⟨#[]⟩, .ns 5, .ns 6])] false)
  (.seq (.seq (.reg [o 11 (.faddr 0 (.t 5)),
      o 12 (.load 1 false (.t 11)),
      o 13 (.bin .neq (.t 12) (.c (.int .i64 5)))] false)
    (.cond (.t 13) (.seq (.reg [o 14 (.mov (.t 0)),
        o 15 (.mov (.t 0)),
        o 16 (.nilck (.t 15)),
        o 17 (.faddr 0 (.t 16)),
        o 18 (.load 1 false (.t 17)),
        o 19 (.mov (.t 18)),
        ⟨(some 20), (some (19, false)), .faddr 0 (.t 5), []⟩,
        ⟨(some 21), (some (19, false)), .load 1 false (.t 20), []⟩,
        ⟨(some 22), (some (19, false)), .bin .neq (.t 21) (.c (.int .i64 0)), []⟩,
        o 23 (.pick (.t 19) (.c (.bool true)) (.t 22)),
        o 24 (.nilck (.t 14)),
        o 25 (.faddr 0 (.t 24)),
        ⟨none, none, .store 1 (.t 25) (.t 23), []⟩] false)
      (.seq (.reg [o 26 (.build [.int .i64 0, .int .i64 0, .str ⟨#[]⟩, .ns 5, .ns 6] []),
        ⟨none, none, .store 5 (.t 8) (.t 26), []⟩] false)
      (.ret)))
      (.skip)))
  (.seq (.reg [o 28 (.load 5 true (.t 5)),
    o 29 (.mov (.t 2)),
    o 30 (.call false (.f 145) [.t 28, .t 29]),
    o 27 (.mov (.t 30)),
    o 31 (.extract (.t 27) 0),
    o 32 (.extract (.t 27) 1),
    o 9 (.zero [.int .i64 0, .int .i64 0, .str ⟨#[]⟩, .ns 5, .ns 6]),
    ⟨none, none, .store 5 (.t 9) (.t 31), []⟩,
    o 10 (.mov (.t 32))] false)
  (.seq (.seq (.reg [o 33 (.faddr 0 (.t 9)),
      o 34 (.load 1 false (.t 33)),
      o 35 (.mov (.t 3)),
      o 36 (.bin .eql (.t 34) (.t 35))] false)
    (.cond (.t 36) (.seq (.reg [o 37 (.load 5 true (.t 9)),
        ⟨none, none, .store 5 (.t 8) (.t 37), []⟩] false)
      (.ret))
      (.skip)))
  (.seq (.reg [o 38 (.mov (.t 0)),
    o 39 (.mov (.t 0)),
    o 40 (.nilck (.t 39)),
    o 41 (.faddr 0 (.t 40)),
    o 42 (.load 1 false (.t 41)),
    o 43 (.mov (.t 42)),
    ⟨(some 44), (some (43, false)), .faddr 0 (.t 9), []⟩,
    ⟨(some 45), (some (43, false)), .load 1 false (.t 44), []⟩,
    ⟨(some 46), (some (43, false)), .bin .neq (.t 45) (.c (.int .i64 0)), []⟩,
    o 47 (.pick (.t 43) (.c (.bool true)) (.t 46)),
    o 48 (.nilck (.t 38)),
    o 49 (.faddr 0 (.t 48)),
    ⟨none, none, .store 1 (.t 49) (.t 47), []⟩] false)
  (.seq (.reg [o 50 (.build [.int .i64 0, .int .i64 0, .str ⟨#[]⟩, .ns 5, .ns 6] []),
    ⟨none, none, .store 5 (.t 8) (.t 50), []⟩] false)
  (.ret))))))
def Kj : IFn := ⟨4, 51, [.cell 8 5 true], false, Kj_c⟩
def Qj2 : List Nat := [100045, 1, 4, 5, 8, 9, 10]
def Q1a5 : IR :=
  .seq (.reg [o 11 (.bin .lss (.t 10) (.t 9))] false)
    (.seq (.cond (.t 11) (.skip)
        (.exit 0))
    (.seq (.block 1 (.seq (.reg [o 12 (.iaddr 11 (.t 8) (.t 10)),
          o 13 (.load 11 true (.t 12)),
          o 7 (.zero [.str ⟨#[]⟩, .str ⟨#[]⟩, .int .i64 0, .int .i64 0, .int .i64 0, .int .i64 0, .int .i64 0, .int .i64 0, .ns 4, .ns 4, .ns 4]),
          ⟨none, none, .store 11 (.t 7) (.t 13), []⟩] false)
        (.reg [o 14 (.mov (.t 5)),
        o 15 (.mov (.t 1)),
        o 16 (.load 11 true (.t 7)),
        o 17 (.call false (.t 15) [.t 16]),
        o 18 (.lit 5 1 [.int .i64 0, .int .i64 0, .str ⟨#[]⟩, .ns 5, .ns 6] [(0, .t 17)]),
        o 19 (.append 5 80 (.t 14) (.t 18)),
        o 5 (.mov (.t 19))] false)))
    (.reg [o 20 (.bin .add (.t 10) (.c (.int .i64 1))),
    o 10 (.mov (.t 20))] false)))
def Q1g6 : IR :=
  .seq (.reg [o 4 (.zero [.int .i64 0, .int .i64 0, .str ⟨#[]⟩, .ns 5, .ns 6])] false)
  (.seq (.reg [o 5 (.mov (.c (.ns 5)))] false)
  (.seq (.seq (.reg [o 8 (.mov (.t 0)),
      o 9 (.len false (.t 8)),
      o 10 (.mov (.c (.int .i64 0)))] false)
    (.block 0 (.loop Qj2 Q1a5)))
  (.seq (.reg [o 21 (.mov (.t 5)),
    o 22 (.call false (.f 137) [.t 21]),
    ⟨none, none, .store 5 (.t 4) (.t 22), []⟩] false)
  (.ret))))
def K1t : IFn := ⟨2, 23, [.cell 4 5 true], false, Q1g6⟩
def Q1in : IR :=
  .seq (.reg [o 1 (.box 11 (.t 0)),
    o 2 (.zero [.int .i64 0, .int .i64 0, .str ⟨#[]⟩, .ns 5, .ns 6])] false)
  (.seq (.reg [o 3 (.faddr 1 (.t 1)),
    ob 4 (.load 1 false (.t 3)) [0],
    ob 5 (.call false (.f 109) [.t 4]) [0, 1],
    ob 6 (.call false (.f 62) [.c (.str ⟨#[105, 109, 97, 103, 101]⟩), .t 5]) [0, 1, 2],
    o 7 (.faddr 5 (.t 1)),
    ob 8 (.load 3 true (.t 7)) [4],
    ob 9 (.call false (.f 63) [.t 8]) (rg 0 6),
    ob 10 (.call false (.f 62) [.c (.str ⟨#[108, 105, 109, 105, 116]⟩), .t 9]) (rg 0 7),
    o 11 (.faddr 8 (.t 1)),
    ob 12 (.load 1 false (.t 11)) [8],
    ob 13 (.call false (.f 146) [.t 12, .f 147]) (rg 0 10),
    ob 14 (.call false (.f 62) [.c (.str ⟨#[108, 105, 118, 101]⟩), .t 13]) (rg 0 11),
    o 15 (.faddr 0 (.t 1)),
    ob 16 (.load 1 false (.t 15)) [12],
    ob 17 (.call false (.f 109) [.t 16]) (rg 0 14),
    ob 18 (.call false (.f 62) [.c (.str ⟨#[110, 97, 109, 101]⟩), .t 17]) (rg 0 15),
    o 19 (.faddr 9 (.t 1)),
    ob 20 (.load 1 false (.t 19)) [16],
    ob 21 (.call false (.f 146) [.t 20, .f 147]) (rg 0 18),
    ob 22 (.call false (.f 62) [.c (.str ⟨#[114, 101, 97, 100, 121]⟩), .t 21]) (rg 0 19),
    o 23 (.faddr 2 (.t 1)),
    ob 24 (.load 3 true (.t 23)) [20],
    ob 25 (.call false (.f 63) [.t 24]) (rg 0 22),
    ob 26 (.call false (.f 62) [.c (.str ⟨#[114, 101, 113, 117, 101, 115, 116]⟩), .t 25]) (rg 0 23),
    o 27 (.faddr 10 (.t 1)),
    ob 28 (.load 1 false (.t 27)) [24],
    ob 29 (.call false (.f 146) [.t 28, .f 147]) (rg 0 26),
    ob 30 (.call false (.f 62) [.c (.str ⟨#[115, 116, 97, 114, 116, 117, 112]⟩), .t 29]) (rg 0 27),
    ob 31 (.lit 6 7 [.str ⟨#[]⟩, .int .i64 0, .int .i64 0, .str ⟨#[]⟩, .ns 5, .ns 6] [(0, .t 6), (1, .t 10), (2, .t 14), (3, .t 18), (4, .t 22), (5, .t 26), (6, .t 30)]) (rg 0 28),
    ob 32 (.call false (.f 61) [.t 31]) (rg 0 29),
    ⟨none, none, .store 5 (.t 2) (.t 32), (rg 0 30)⟩] true)
  (.ret))
def K1d : IFn := ⟨1, 33, [.cell 2 5 true], false, Q1in⟩
def Q1gx : IR :=
  .seq (.reg [o 2 (.zero [.int .i64 0, .int .i64 0, .str ⟨#[]⟩, .ns 5, .ns 6])] false)
  (.seq (.reg [o 3 (.mov (.t 0)),
    o 4 (.build [.int .i64 0, .int .i64 0, .str ⟨#[]⟩, .ns 5, .ns 6] [(0, 1, .c (.int .i64 3)), (2, 1, .t 3)]),
    ⟨none, none, .store 5 (.t 2) (.t 4), []⟩] false)
  (.ret))
def K41 : IFn := ⟨1, 5, [.cell 2 5 true], false, Q1gx⟩
def Qj6 : List Nat := [100046, 1, 4, 5, 8, 9, 10]
def Q1ao : IR :=
  .seq (.reg [o 11 (.bin .lss (.t 10) (.t 9))] false)
    (.seq (.cond (.t 11) (.skip)
        (.exit 0))
    (.seq (.block 1 (.seq (.reg [o 12 (.iaddr 3 (.t 8) (.t 10)),
          o 13 (.load 3 true (.t 12)),
          o 7 (.zero [.str ⟨#[]⟩, .int .i64 0, .ns 1]),
          ⟨none, none, .store 3 (.t 7) (.t 13), []⟩] false)
        (.reg [o 14 (.mov (.t 5)),
        o 15 (.mov (.t 1)),
        o 16 (.load 3 true (.t 7)),
        o 17 (.call false (.t 15) [.t 16]),
        o 18 (.lit 5 1 [.int .i64 0, .int .i64 0, .str ⟨#[]⟩, .ns 5, .ns 6] [(0, .t 17)]),
        o 19 (.append 5 80 (.t 14) (.t 18)),
        o 5 (.mov (.t 19))] false)))
    (.reg [o 20 (.bin .add (.t 10) (.c (.int .i64 1))),
    o 10 (.mov (.t 20))] false)))
def Q1gu : IR :=
  .seq (.reg [o 4 (.zero [.int .i64 0, .int .i64 0, .str ⟨#[]⟩, .ns 5, .ns 6])] false)
  (.seq (.reg [o 5 (.mov (.c (.ns 5)))] false)
  (.seq (.seq (.reg [o 8 (.mov (.t 0)),
      o 9 (.len false (.t 8)),
      o 10 (.mov (.c (.int .i64 0)))] false)
    (.block 0 (.loop Qj6 Q1ao)))
  (.seq (.reg [o 21 (.mov (.t 5)),
    o 22 (.call false (.f 137) [.t 21]),
    ⟨none, none, .store 5 (.t 4) (.t 22), []⟩] false)
  (.ret))))
def K1u : IFn := ⟨2, 23, [.cell 4 5 true], false, Q1gu⟩
def Q1kf : IR :=
  .seq (.reg [o 1 (.box 3 (.t 0)),
    o 2 (.zero [.int .i64 0, .int .i64 0, .str ⟨#[]⟩, .ns 5, .ns 6])] false)
  (.seq (.reg [o 3 (.faddr 0 (.t 1)),
    ob 4 (.load 1 false (.t 3)) [0],
    ob 5 (.call false (.f 109) [.t 4]) [0, 1],
    ob 6 (.call false (.f 62) [.c (.str ⟨#[107, 101, 121]⟩), .t 5]) [0, 1, 2],
    o 7 (.faddr 1 (.t 1)),
    ob 8 (.load 1 false (.t 7)) [4],
    ob 9 (.call false (.f 65) [.t 8]) (rg 0 6),
    ob 10 (.call false (.f 62) [.c (.str ⟨#[111, 112]⟩), .t 9]) (rg 0 7),
    o 11 (.faddr 2 (.t 1)),
    ob 12 (.load 1 false (.t 11)) [8],
    ob 13 (.call false (.f 148) [.t 12, .f 109]) (rg 0 10),
    ob 14 (.call false (.f 62) [.c (.str ⟨#[118, 97, 108, 117, 101, 115]⟩), .t 13]) (rg 0 11),
    ob 15 (.lit 6 3 [.str ⟨#[]⟩, .int .i64 0, .int .i64 0, .str ⟨#[]⟩, .ns 5, .ns 6] [(0, .t 6), (1, .t 10), (2, .t 14)]) (rg 0 12),
    ob 16 (.call false (.f 61) [.t 15]) (rg 0 13),
    ⟨none, none, .store 5 (.t 2) (.t 16), (rg 0 14)⟩] true)
  (.ret))
def K1k : IFn := ⟨1, 17, [.cell 2 5 true], false, Q1kf⟩
def Qj9 : List Nat := [100047, 1, 4, 5, 8, 9, 10]
def Q19p : IR :=
  .seq (.reg [o 11 (.bin .lss (.t 10) (.t 9))] false)
    (.seq (.cond (.t 11) (.skip)
        (.exit 0))
    (.seq (.block 1 (.seq (.reg [o 12 (.iaddr 3 (.t 8) (.t 10)),
          o 13 (.load 3 true (.t 12)),
          o 7 (.zero [.bool false, .ns 3, .int .i64 0]),
          ⟨none, none, .store 3 (.t 7) (.t 13), []⟩] false)
        (.reg [o 14 (.mov (.t 5)),
        o 15 (.mov (.t 1)),
        o 16 (.load 3 true (.t 7)),
        o 17 (.call false (.t 15) [.t 16]),
        o 18 (.lit 5 1 [.int .i64 0, .int .i64 0, .str ⟨#[]⟩, .ns 5, .ns 6] [(0, .t 17)]),
        o 19 (.append 5 80 (.t 14) (.t 18)),
        o 5 (.mov (.t 19))] false)))
    (.reg [o 20 (.bin .add (.t 10) (.c (.int .i64 1))),
    o 10 (.mov (.t 20))] false)))
def Q1jx : IR :=
  .seq (.reg [o 4 (.zero [.int .i64 0, .int .i64 0, .str ⟨#[]⟩, .ns 5, .ns 6])] false)
  (.seq (.reg [o 5 (.mov (.c (.ns 5)))] false)
  (.seq (.seq (.reg [o 8 (.mov (.t 0)),
      o 9 (.len false (.t 8)),
      o 10 (.mov (.c (.int .i64 0)))] false)
    (.block 0 (.loop Qj9 Q19p)))
  (.seq (.reg [o 21 (.mov (.t 5)),
    o 22 (.call false (.f 137) [.t 21]),
    ⟨none, none, .store 5 (.t 4) (.t 22), []⟩] false)
  (.ret))))
def K1v : IFn := ⟨2, 23, [.cell 4 5 true], false, Q1jx⟩
def Q1jb : IR :=
  .seq (.reg [o 1 (.box 3 (.t 0)),
    o 2 (.zero [.int .i64 0, .int .i64 0, .str ⟨#[]⟩, .ns 5, .ns 6])] false)
  (.seq (.reg [o 3 (.faddr 0 (.t 1)),
    ob 4 (.load 1 false (.t 3)) [0],
    ob 5 (.call false (.f 64) [.t 4]) [0, 1],
    ob 6 (.call false (.f 62) [.c (.str ⟨#[114, 101, 113, 117, 105, 114, 101, 100]⟩), .t 5]) [0, 1, 2],
    o 7 (.faddr 1 (.t 1)),
    ob 8 (.load 1 false (.t 7)) [4],
    ob 9 (.call false (.f 110) [.t 8, .f 111]) (rg 0 6),
    ob 10 (.call false (.f 62) [.c (.str ⟨#[115, 101, 108, 101, 99, 116, 111, 114]⟩), .t 9]) (rg 0 7),
    o 11 (.faddr 2 (.t 1)),
    ob 12 (.load 1 false (.t 11)) [8],
    ob 13 (.call false (.f 65) [.t 12]) (rg 0 10),
    ob 14 (.call false (.f 62) [.c (.str ⟨#[119, 101, 105, 103, 104, 116]⟩), .t 13]) (rg 0 11),
    ob 15 (.lit 6 3 [.str ⟨#[]⟩, .int .i64 0, .int .i64 0, .str ⟨#[]⟩, .ns 5, .ns 6] [(0, .t 6), (1, .t 10), (2, .t 14)]) (rg 0 12),
    ob 16 (.call false (.f 61) [.t 15]) (rg 0 13),
    ⟨none, none, .store 5 (.t 2) (.t 16), (rg 0 14)⟩] true)
  (.ret))
def K1h : IFn := ⟨1, 17, [.cell 2 5 true], false, Q1jb⟩
def Qhu : List Nat := [100048, 1, 4, 5, 8, 9, 10]
def Q19k : IR :=
  .seq (.reg [o 11 (.bin .lss (.t 10) (.t 9))] false)
    (.seq (.cond (.t 11) (.skip)
        (.exit 0))
    (.seq (.block 1 (.seq (.reg [o 12 (.iaddr 5 (.t 8) (.t 10)),
          o 13 (.load 5 true (.t 12)),
          o 7 (.zero [.bool false, .bool false, .ns 3, .str ⟨#[]⟩, .int .i64 0]),
          ⟨none, none, .store 5 (.t 7) (.t 13), []⟩] false)
        (.reg [o 14 (.mov (.t 5)),
        o 15 (.mov (.t 1)),
        o 16 (.load 5 true (.t 7)),
        o 17 (.call false (.t 15) [.t 16]),
        o 18 (.lit 5 1 [.int .i64 0, .int .i64 0, .str ⟨#[]⟩, .ns 5, .ns 6] [(0, .t 17)]),
        o 19 (.append 5 80 (.t 14) (.t 18)),
        o 5 (.mov (.t 19))] false)))
    (.reg [o 20 (.bin .add (.t 10) (.c (.int .i64 1))),
    o 10 (.mov (.t 20))] false)))
def Q1l0 : IR :=
  .seq (.reg [o 4 (.zero [.int .i64 0, .int .i64 0, .str ⟨#[]⟩, .ns 5, .ns 6])] false)
  (.seq (.reg [o 5 (.mov (.c (.ns 5)))] false)
  (.seq (.seq (.reg [o 8 (.mov (.t 0)),
      o 9 (.len false (.t 8)),
      o 10 (.mov (.c (.int .i64 0)))] false)
    (.block 0 (.loop Qhu Q19k)))
  (.seq (.reg [o 21 (.mov (.t 5)),
    o 22 (.call false (.f 137) [.t 21]),
    ⟨none, none, .store 5 (.t 4) (.t 22), []⟩] false)
  (.ret))))
def K1w : IFn := ⟨2, 23, [.cell 4 5 true], false, Q1l0⟩
def Q1kx : IR :=
  .seq (.reg [o 1 (.box 5 (.t 0)),
    o 2 (.zero [.int .i64 0, .int .i64 0, .str ⟨#[]⟩, .ns 5, .ns 6])] false)
  (.seq (.reg [o 3 (.faddr 1 (.t 1)),
    ob 4 (.load 1 false (.t 3)) [0],
    ob 5 (.call false (.f 64) [.t 4]) [0, 1],
    ob 6 (.call false (.f 62) [.c (.str ⟨#[97, 110, 116, 105]⟩), .t 5]) [0, 1, 2],
    o 7 (.faddr 0 (.t 1)),
    ob 8 (.load 1 false (.t 7)) [4],
    ob 9 (.call false (.f 64) [.t 8]) (rg 0 6),
    ob 10 (.call false (.f 62) [.c (.str ⟨#[114, 101, 113, 117, 105, 114, 101, 100]⟩), .t 9]) (rg 0 7),
    o 11 (.faddr 2 (.t 1)),
    ob 12 (.load 1 false (.t 11)) [8],
    ob 13 (.call false (.f 110) [.t 12, .f 111]) (rg 0 10),
    ob 14 (.call false (.f 62) [.c (.str ⟨#[115, 101, 108, 101, 99, 116, 111, 114]⟩), .t 13]) (rg 0 11),
    o 15 (.faddr 3 (.t 1)),
    ob 16 (.load 1 false (.t 15)) [12],
    ob 17 (.call false (.f 109) [.t 16]) (rg 0 14),
    ob 18 (.call false (.f 62) [.c (.str ⟨#[116, 111, 112, 111, 108, 111, 103, 121]⟩), .t 17]) (rg 0 15),
    o 19 (.faddr 4 (.t 1)),
    ob 20 (.load 1 false (.t 19)) [16],
    ob 21 (.call false (.f 65) [.t 20]) (rg 0 18),
    ob 22 (.call false (.f 62) [.c (.str ⟨#[119, 101, 105, 103, 104, 116]⟩), .t 21]) (rg 0 19),
    ob 23 (.lit 6 5 [.str ⟨#[]⟩, .int .i64 0, .int .i64 0, .str ⟨#[]⟩, .ns 5, .ns 6] [(0, .t 6), (1, .t 10), (2, .t 14), (3, .t 18), (4, .t 22)]) (rg 0 20),
    ob 24 (.call false (.f 61) [.t 23]) (rg 0 21),
    ⟨none, none, .store 5 (.t 2) (.t 24), (rg 0 22)⟩] true)
  (.ret))
def K1i : IFn := ⟨1, 25, [.cell 2 5 true], false, Q1kx⟩
def Qky : List Nat := [100049, 1, 4, 5, 8, 9, 10]
def Q19x : IR :=
  .seq (.reg [o 11 (.bin .lss (.t 10) (.t 9))] false)
    (.seq (.cond (.t 11) (.skip)
        (.exit 0))
    (.seq (.block 1 (.seq (.reg [o 12 (.iaddr 4 (.t 8) (.t 10)),
          o 13 (.load 4 true (.t 12)),
          o 7 (.zero [.int .i64 0, .str ⟨#[]⟩, .ns 3, .bool false]),
          ⟨none, none, .store 4 (.t 7) (.t 13), []⟩] false)
        (.reg [o 14 (.mov (.t 5)),
        o 15 (.mov (.t 1)),
        o 16 (.load 4 true (.t 7)),
        o 17 (.call false (.t 15) [.t 16]),
        o 18 (.lit 5 1 [.int .i64 0, .int .i64 0, .str ⟨#[]⟩, .ns 5, .ns 6] [(0, .t 17)]),
        o 19 (.append 5 80 (.t 14) (.t 18)),
        o 5 (.mov (.t 19))] false)))
    (.reg [o 20 (.bin .add (.t 10) (.c (.int .i64 1))),
    o 10 (.mov (.t 20))] false)))
def Q1lg : IR :=
  .seq (.reg [o 4 (.zero [.int .i64 0, .int .i64 0, .str ⟨#[]⟩, .ns 5, .ns 6])] false)
  (.seq (.reg [o 5 (.mov (.c (.ns 5)))] false)
  (.seq (.seq (.reg [o 8 (.mov (.t 0)),
      o 9 (.len false (.t 8)),
      o 10 (.mov (.c (.int .i64 0)))] false)
    (.block 0 (.loop Qky Q19x)))
  (.seq (.reg [o 21 (.mov (.t 5)),
    o 22 (.call false (.f 137) [.t 21]),
    ⟨none, none, .store 5 (.t 4) (.t 22), []⟩] false)
  (.ret))))
def K1x : IFn := ⟨2, 23, [.cell 4 5 true], false, Q1lg⟩
def Q1g4 : IR :=
  .seq (.reg [o 1 (.box 4 (.t 0)),
    o 2 (.zero [.int .i64 0, .int .i64 0, .str ⟨#[]⟩, .ns 5, .ns 6])] false)
  (.seq (.reg [o 3 (.faddr 0 (.t 1)),
    ob 4 (.load 1 false (.t 3)) [0],
    ob 5 (.call false (.f 65) [.t 4]) [0, 1],
    ob 6 (.call false (.f 62) [.c (.str ⟨#[109, 97, 120, 83, 107, 101, 119]⟩), .t 5]) [0, 1, 2],
    o 7 (.faddr 3 (.t 1)),
    ob 8 (.load 1 false (.t 7)) [4],
    ob 9 (.call false (.f 64) [.t 8]) (rg 0 6),
    ob 10 (.call false (.f 62) [.c (.str ⟨#[114, 101, 113, 117, 105, 114, 101, 100]⟩), .t 9]) (rg 0 7),
    o 11 (.faddr 2 (.t 1)),
    ob 12 (.load 1 false (.t 11)) [8],
    ob 13 (.call false (.f 110) [.t 12, .f 111]) (rg 0 10),
    ob 14 (.call false (.f 62) [.c (.str ⟨#[115, 101, 108, 101, 99, 116, 111, 114]⟩), .t 13]) (rg 0 11),
    o 15 (.faddr 1 (.t 1)),
    ob 16 (.load 1 false (.t 15)) [12],
    ob 17 (.call false (.f 109) [.t 16]) (rg 0 14),
    ob 18 (.call false (.f 62) [.c (.str ⟨#[116, 111, 112, 111, 108, 111, 103, 121]⟩), .t 17]) (rg 0 15),
    ob 19 (.lit 6 4 [.str ⟨#[]⟩, .int .i64 0, .int .i64 0, .str ⟨#[]⟩, .ns 5, .ns 6] [(0, .t 6), (1, .t 10), (2, .t 14), (3, .t 18)]) (rg 0 16),
    ob 20 (.call false (.f 61) [.t 19]) (rg 0 17),
    ⟨none, none, .store 5 (.t 2) (.t 20), (rg 0 18)⟩] true)
  (.ret))
def K1n : IFn := ⟨1, 21, [.cell 2 5 true], false, Q1g4⟩
def Qjw : List Nat := [100050, 1, 4, 5, 8, 9, 10]
def Q1as : IR :=
  .seq (.reg [o 11 (.bin .lss (.t 10) (.t 9))] false)
    (.seq (.cond (.t 11) (.skip)
        (.exit 0))
    (.seq (.block 1 (.seq (.reg [o 12 (.iaddr 5 (.t 8) (.t 10)),
          o 13 (.load 5 true (.t 12)),
          o 7 (.zero [.str ⟨#[]⟩, .str ⟨#[]⟩, .bool false, .int .i64 0, .int .i64 0]),
          ⟨none, none, .store 5 (.t 7) (.t 13), []⟩] false)
        (.reg [o 14 (.mov (.t 5)),
        o 15 (.mov (.t 1)),
        o 16 (.load 5 true (.t 7)),
        o 17 (.call false (.t 15) [.t 16]),
        o 18 (.lit 5 1 [.int .i64 0, .int .i64 0, .str ⟨#[]⟩, .ns 5, .ns 6] [(0, .t 17)]),
        o 19 (.append 5 80 (.t 14) (.t 18)),
        o 5 (.mov (.t 19))] false)))
    (.reg [o 20 (.bin .add (.t 10) (.c (.int .i64 1))),
    o 10 (.mov (.t 20))] false)))
def Q1jl : IR :=
  .seq (.reg [o 4 (.zero [.int .i64 0, .int .i64 0, .str ⟨#[]⟩, .ns 5, .ns 6])] false)
  (.seq (.reg [o 5 (.mov (.c (.ns 5)))] false)
  (.seq (.seq (.reg [o 8 (.mov (.t 0)),
      o 9 (.len false (.t 8)),
      o 10 (.mov (.c (.int .i64 0)))] false)
    (.block 0 (.loop Qjw Q1as)))
  (.seq (.reg [o 21 (.mov (.t 5)),
    o 22 (.call false (.f 137) [.t 21]),
    ⟨none, none, .store 5 (.t 4) (.t 22), []⟩] false)
  (.ret))))
def K1y : IFn := ⟨2, 23, [.cell 4 5 true], false, Q1jl⟩
def Q1jg : IR :=
  .seq (.reg [o 1 (.box 5 (.t 0)),
    o 2 (.zero [.int .i64 0, .int .i64 0, .str ⟨#[]⟩, .ns 5, .ns 6])] false)
  (.seq (.reg [o 3 (.faddr 3 (.t 1)),
    ob 4 (.load 1 false (.t 3)) [0],
    ob 5 (.call false (.f 65) [.t 4]) [0, 1],
    ob 6 (.call false (.f 62) [.c (.str ⟨#[101, 102, 102, 101, 99, 116]⟩), .t 5]) [0, 1, 2],
    o 7 (.faddr 2 (.t 1)),
    ob 8 (.load 1 false (.t 7)) [4],
    ob 9 (.call false (.f 64) [.t 8]) (rg 0 6),
    ob 10 (.call false (.f 62) [.c (.str ⟨#[101, 120, 105, 115, 116, 115]⟩), .t 9]) (rg 0 7),
    o 11 (.faddr 0 (.t 1)),
    ob 12 (.load 1 false (.t 11)) [8],
    ob 13 (.call false (.f 109) [.t 12]) (rg 0 10),
    ob 14 (.call false (.f 62) [.c (.str ⟨#[107, 101, 121]⟩), .t 13]) (rg 0 11),
    o 15 (.faddr 4 (.t 1)),
    ob 16 (.load 1 false (.t 15)) [12],
    ob 17 (.call false (.f 65) [.t 16]) (rg 0 14),
    ob 18 (.call false (.f 62) [.c (.str ⟨#[115, 101, 99, 111, 110, 100, 115]⟩), .t 17]) (rg 0 15),
    o 19 (.faddr 1 (.t 1)),
    ob 20 (.load 1 false (.t 19)) [16],
    ob 21 (.call false (.f 109) [.t 20]) (rg 0 18),
    ob 22 (.call false (.f 62) [.c (.str ⟨#[118, 97, 108, 117, 101]⟩), .t 21]) (rg 0 19),
    ob 23 (.lit 6 5 [.str ⟨#[]⟩, .int .i64 0, .int .i64 0, .str ⟨#[]⟩, .ns 5, .ns 6] [(0, .t 6), (1, .t 10), (2, .t 14), (3, .t 18), (4, .t 22)]) (rg 0 20),
    ob 24 (.call false (.f 61) [.t 23]) (rg 0 21),
    ⟨none, none, .store 5 (.t 2) (.t 24), (rg 0 22)⟩] true)
  (.ret))
def K1q : IFn := ⟨1, 25, [.cell 2 5 true], false, Q1jg⟩
def Ql0 : List Nat := [100051, 1, 4, 5, 8, 9, 10]
def Q19s : IR :=
  .seq (.reg [o 11 (.bin .lss (.t 10) (.t 9))] false)
    (.seq (.cond (.t 11) (.skip)
        (.exit 0))
    (.seq (.block 1 (.seq (.reg [o 12 (.iaddr 7 (.t 8) (.t 10)),
          o 13 (.load 7 true (.t 12)),
          o 7 (.zero [.str ⟨#[]⟩, .int .i64 0, .int .i64 0, .int .i64 0, .int .i64 0, .bool false, .bool false]),
          ⟨none, none, .store 7 (.t 7) (.t 13), []⟩] false)
        (.reg [o 14 (.mov (.t 5)),
        o 15 (.mov (.t 1)),
        o 16 (.load 7 true (.t 7)),
        o 17 (.call false (.t 15) [.t 16]),
        o 18 (.lit 5 1 [.int .i64 0, .int .i64 0, .str ⟨#[]⟩, .ns 5, .ns 6] [(0, .t 17)]),
        o 19 (.append 5 80 (.t 14) (.t 18)),
        o 5 (.mov (.t 19))] false)))
    (.reg [o 20 (.bin .add (.t 10) (.c (.int .i64 1))),
    o 10 (.mov (.t 20))] false)))
def Q1i0 : IR :=
  .seq (.reg [o 4 (.zero [.int .i64 0, .int .i64 0, .str ⟨#[]⟩, .ns 5, .ns 6])] false)
  (.seq (.reg [o 5 (.mov (.c (.ns 5)))] false)
  (.seq (.seq (.reg [o 8 (.mov (.t 0)),
      o 9 (.len false (.t 8)),
      o 10 (.mov (.c (.int .i64 0)))] false)
    (.block 0 (.loop Ql0 Q19s)))
  (.seq (.reg [o 21 (.mov (.t 5)),
    o 22 (.call false (.f 137) [.t 21]),
    ⟨none, none, .store 5 (.t 4) (.t 22), []⟩] false)
  (.ret))))
def K1z : IFn := ⟨2, 23, [.cell 4 5 true], false, Q1i0⟩
def Q1iq : IR :=
  .seq (.reg [o 1 (.box 7 (.t 0)),
    o 2 (.zero [.int .i64 0, .int .i64 0, .str ⟨#[]⟩, .ns 5, .ns 6])] false)
  (.seq (.reg [o 3 (.faddr 3 (.t 1)),
    ob 4 (.load 1 false (.t 3)) [0],
    ob 5 (.call false (.f 65) [.t 4]) [0, 1],
    ob 6 (.call false (.f 62) [.c (.str ⟨#[101, 120, 105, 116, 67, 111, 100, 101]⟩), .t 5]) [0, 1, 2],
    o 7 (.faddr 0 (.t 1)),
    ob 8 (.load 1 false (.t 7)) [4],
    ob 9 (.call false (.f 109) [.t 8]) (rg 0 6),
    ob 10 (.call false (.f 62) [.c (.str ⟨#[110, 97, 109, 101]⟩), .t 9]) (rg 0 7),
    o 11 (.faddr 5 (.t 1)),
    ob 12 (.load 1 false (.t 11)) [8],
    ob 13 (.call false (.f 64) [.t 12]) (rg 0 10),
    ob 14 (.call false (.f 62) [.c (.str ⟨#[114, 101, 97, 100, 121]⟩), .t 13]) (rg 0 11),
    o 15 (.faddr 2 (.t 1)),
    ob 16 (.load 1 false (.t 15)) [12],
    ob 17 (.call false (.f 65) [.t 16]) (rg 0 14),
    ob 18 (.call false (.f 62) [.c (.str ⟨#[114, 101, 115, 116, 97, 114, 116, 115]⟩), .t 17]) (rg 0 15),
    o 19 (.faddr 4 (.t 1)),
    ob 20 (.load 1 false (.t 19)) [16],
    ob 21 (.call false (.f 65) [.t 20]) (rg 0 18),
    ob 22 (.call false (.f 62) [.c (.str ⟨#[115, 105, 110, 99, 101]⟩), .t 21]) (rg 0 19),
    o 23 (.faddr 6 (.t 1)),
    ob 24 (.load 1 false (.t 23)) [20],
    ob 25 (.call false (.f 64) [.t 24]) (rg 0 22),
    ob 26 (.call false (.f 62) [.c (.str ⟨#[115, 116, 97, 114, 116, 101, 100]⟩), .t 25]) (rg 0 23),
    o 27 (.faddr 1 (.t 1)),
    ob 28 (.load 1 false (.t 27)) [24],
    ob 29 (.call false (.f 65) [.t 28]) (rg 0 26),
    ob 30 (.call false (.f 62) [.c (.str ⟨#[115, 116, 97, 116, 101]⟩), .t 29]) (rg 0 27),
    ob 31 (.lit 6 7 [.str ⟨#[]⟩, .int .i64 0, .int .i64 0, .str ⟨#[]⟩, .ns 5, .ns 6] [(0, .t 6), (1, .t 10), (2, .t 14), (3, .t 18), (4, .t 22), (5, .t 26), (6, .t 30)]) (rg 0 28),
    ob 32 (.call false (.f 61) [.t 31]) (rg 0 29),
    ⟨none, none, .store 5 (.t 2) (.t 32), (rg 0 30)⟩] true)
  (.ret))
def K1e : IFn := ⟨1, 33, [.cell 2 5 true], false, Q1iq⟩
def Qi0 : List Nat := [100052, 0, 1, 5]
def Q1at : IR :=
  .seq (.seq (.reg [o 11 (.mov (.t 5)),
        o 12 (.mov (.t 0)),
        o 13 (.len false (.t 12)),
        o 14 (.bin .lss (.t 11) (.t 13))] false)
      (.cond (.t 14) (.skip)
        (.exit 0)))
    (.seq (.block 1 (.seq (.reg [o 17 (.mov (.t 0)),
          o 18 (.mov (.t 5)),
          ob 19 (.iaddr 2 (.t 17) (.t 18)) [0, 1],
          ob 20 (.load 2 true (.t 19)) [0, 1, 2],
          o 21 (.mov (.t 1)),
          o 22 (.mov (.t 5)),
          ob 23 (.iaddr 2 (.t 21) (.t 22)) [4, 5],
          ob 24 (.load 2 true (.t 23)) [4, 5, 6],
          ob 25 (.eqs (.st [(0, 1, .str), (1, 1, .str)]) true (.t 20) (.t 24)) (rg 0 8)] true)
        (.cond (.t 25) (.seq (.reg [o 4 (.mov (.c (.bool false)))] false)
          (.ret))
          (.skip))))
    (.reg [o 15 (.mov (.t 5)),
    o 16 (.bin .add (.t 15) (.c (.int .i64 1))),
    o 5 (.mov (.t 16))] false))
def Q1ip : IR :=
  .seq (.reg [o 4 (.mov (.c (.bool false)))] false)
  (.seq (.seq (.reg [o 6 (.mov (.t 0)),
      o 7 (.len false (.t 6)),
      o 8 (.mov (.t 1)),
      o 9 (.len false (.t 8)),
      o 10 (.bin .neq (.t 7) (.t 9))] false)
    (.cond (.t 10) (.seq (.reg [o 4 (.mov (.c (.bool false)))] false)
      (.ret))
      (.skip)))
  (.seq (.seq (.reg [o 5 (.mov (.c (.int .i64 0)))] false)
    (.block 0 (.loop Qi0 Q1at)))
  (.seq (.reg [o 4 (.mov (.c (.bool true)))] false)
  (.ret))))
def K24 : IFn := ⟨2, 26, [.tmp 4], false, Q1ip⟩
def Qi2 : List Nat := [100053, 0, 1, 5]
def Q1ab : IR :=
  .seq (.seq (.reg [o 11 (.mov (.t 5)),
        o 12 (.mov (.t 0)),
        o 13 (.len false (.t 12)),
        o 14 (.bin .lss (.t 11) (.t 13))] false)
      (.cond (.t 14) (.skip)
        (.exit 0)))
    (.seq (.block 1 (.seq (.reg [o 17 (.mov (.t 0)),
          o 18 (.mov (.t 5)),
          ob 19 (.iaddr 1 (.t 17) (.t 18)) [0, 1],
          ob 20 (.load 1 false (.t 19)) [0, 1, 2],
          o 21 (.mov (.t 1)),
          o 22 (.mov (.t 5)),
          ob 23 (.iaddr 1 (.t 21) (.t 22)) [4, 5],
          ob 24 (.load 1 false (.t 23)) [4, 5, 6],
          ob 25 (.bin .neq (.t 20) (.t 24)) (rg 0 8)] true)
        (.cond (.t 25) (.seq (.reg [o 4 (.mov (.c (.bool false)))] false)
          (.ret))
          (.skip))))
    (.reg [o 15 (.mov (.t 5)),
    o 16 (.bin .add (.t 15) (.c (.int .i64 1))),
    o 5 (.mov (.t 16))] false))
def Q1h1 : IR :=
  .seq (.reg [o 4 (.mov (.c (.bool false)))] false)
  (.seq (.seq (.reg [o 6 (.mov (.t 0)),
      o 7 (.len false (.t 6)),
      o 8 (.mov (.t 1)),
      o 9 (.len false (.t 8)),
      o 10 (.bin .neq (.t 7) (.t 9))] false)
    (.cond (.t 10) (.seq (.reg [o 4 (.mov (.c (.bool false)))] false)
      (.ret))
      (.skip)))
  (.seq (.seq (.reg [o 5 (.mov (.c (.int .i64 0)))] false)
    (.block 0 (.loop Qi2 Q1ab)))
  (.seq (.reg [o 4 (.mov (.c (.bool true)))] false)
  (.ret))))
def K25 : IFn := ⟨2, 26, [.tmp 4], false, Q1h1⟩
def Qil : List Nat := [100054, 0, 2, 3, 4]
def Q19n : IR :=
  .seq (.seq (.reg [o 6 (.mov (.t 4)),
        o 7 (.mov (.t 0)),
        o 8 (.len false (.t 7)),
        o 9 (.bin .lss (.t 6) (.t 8))] false)
      (.cond (.t 9) (.skip)
        (.exit 0)))
    (.seq (.block 1 (.seq (.reg [o 12 (.mov (.t 0)),
          o 13 (.mov (.t 4)),
          o 14 (.iaddr 11 (.t 12) (.t 13)),
          o 15 (.load 11 true (.t 14)),
          o 5 (.zero [.str ⟨#[]⟩, .str ⟨#[]⟩, .int .i64 0, .int .i64 0, .int .i64 0, .int .i64 0, .int .i64 0, .int .i64 0, .ns 4, .ns 4, .ns 4]),
          ⟨none, none, .store 11 (.t 5) (.t 15), []⟩] false)
        (.reg [o 16 (.mov (.t 3)),
        o 17 (.faddr 1 (.t 5)),
        ob 18 (.load 1 false (.t 17)) [1],
        ob 19 (.call false (.f 125) [.t 18]) [1, 2],
        ob 20 (.call false (.f 71) [.c (.str ⟨#[105, 109, 97, 103, 101]⟩), .t 19]) [1, 2, 3],
        o 21 (.faddr 5 (.t 5)),
        ob 22 (.load 3 true (.t 21)) [5],
        ob 23 (.call false (.f 72) [.t 22]) (rg 1 7),
        ob 24 (.call false (.f 71) [.c (.str ⟨#[108, 105, 109, 105, 116]⟩), .t 23]) (rg 1 8),
        o 25 (.faddr 8 (.t 5)),
        ob 26 (.load 1 false (.t 25)) [9],
        ob 27 (.call false (.f 149) [.t 26]) (rg 1 11),
        ob 28 (.call false (.f 71) [.c (.str ⟨#[108, 105, 118, 101]⟩), .t 27]) (rg 1 12),
        o 29 (.faddr 0 (.t 5)),
        ob 30 (.load 1 false (.t 29)) [13],
        ob 31 (.call false (.f 125) [.t 30]) (rg 1 15),
        ob 32 (.call false (.f 71) [.c (.str ⟨#[110, 97, 109, 101]⟩), .t 31]) (rg 1 16),
        o 33 (.faddr 9 (.t 5)),
        ob 34 (.load 1 false (.t 33)) [17],
        ob 35 (.call false (.f 149) [.t 34]) (rg 1 19),
        ob 36 (.call false (.f 71) [.c (.str ⟨#[114, 101, 97, 100, 121]⟩), .t 35]) (rg 1 20),
        o 37 (.faddr 2 (.t 5)),
        ob 38 (.load 3 true (.t 37)) [21],
        ob 39 (.call false (.f 72) [.t 38]) (rg 1 23),
        ob 40 (.call false (.f 71) [.c (.str ⟨#[114, 101, 113, 117, 101, 115, 116]⟩), .t 39]) (rg 1 24),
        o 41 (.faddr 10 (.t 5)),
        ob 42 (.load 1 false (.t 41)) [25],
        ob 43 (.call false (.f 149) [.t 42]) (rg 1 27),
        ob 44 (.call false (.f 71) [.c (.str ⟨#[115, 116, 97, 114, 116, 117, 112]⟩), .t 43]) (rg 1 28),
        ob 45 (.lit 6 7 [.str ⟨#[]⟩, .int .i64 0, .int .i64 0, .str ⟨#[]⟩, .ns 5, .ns 6] [(0, .t 20), (1, .t 24), (2, .t 28), (3, .t 32), (4, .t 36), (5, .t 40), (6, .t 44)]) (rg 1 29),
        ob 46 (.call false (.f 70) [.t 45]) (rg 1 30),
        ob 47 (.lit 5 1 [.int .i64 0, .int .i64 0, .str ⟨#[]⟩, .ns 5, .ns 6] [(0, .t 46)]) (rg 1 31),
        ob 48 (.append 5 80 (.t 16) (.t 47)) (rg 0 32),
        ob 3 (.mov (.t 48)) (rg 0 33)] true)))
    (.reg [o 10 (.mov (.t 4)),
    o 11 (.bin .add (.t 10) (.c (.int .i64 1))),
    o 4 (.mov (.t 11))] false))
def Q1hr : IR :=
  .seq (.reg [o 2 (.zero [.int .i64 0, .int .i64 0, .str ⟨#[]⟩, .ns 5, .ns 6])] false)
  (.seq (.reg [o 3 (.mov (.c (.ns 5)))] false)
  (.seq (.seq (.reg [o 4 (.mov (.c (.int .i64 0)))] false)
    (.block 0 (.loop Qil Q19n)))
  (.seq (.reg [o 49 (.mov (.t 3)),
    o 50 (.call false (.f 138) [.t 49]),
    ⟨none, none, .store 5 (.t 2) (.t 50), []⟩] false)
  (.ret))))
def K2x : IFn := ⟨1, 51, [.cell 2 5 true], false, Q1hr⟩
def Q1iu : IR :=
  .seq (.reg [o 2 (.zero [.int .i64 0, .int .i64 0, .str ⟨#[]⟩, .ns 5, .ns 6])] false)
  (.seq (.reg [o 3 (.mov (.t 0)),
    o 4 (.build [.int .i64 0, .int .i64 0, .str ⟨#[]⟩, .ns 5, .ns 6] [(0, 1, .c (.int .i64 3)), (2, 1, .t 3)]),
    ⟨none, none, .store 5 (.t 2) (.t 4), []⟩] false)
  (.ret))
def K3c : IFn := ⟨1, 5, [.cell 2 5 true], false, Q1iu⟩
def Qh2 : List Nat := [100055, 0, 2, 3, 4]
def Q1aq : IR :=
  .seq (.seq (.reg [o 5 (.mov (.t 4)),
        o 6 (.mov (.t 0)),
        o 7 (.len false (.t 6)),
        o 8 (.bin .lss (.t 5) (.t 7))] false)
      (.cond (.t 8) (.skip)
        (.exit 0)))
    (.seq (.block 1 (.reg [o 11 (.mov (.t 3)),
        o 12 (.mov (.t 0)),
        o 13 (.mov (.t 4)),
        ob 14 (.iaddr 3 (.t 12) (.t 13)) [1, 2],
        ob 15 (.faddr 0 (.t 14)) [1, 2, 3],
        ob 16 (.load 1 false (.t 15)) [1, 2, 3, 4],
        ob 17 (.call false (.f 125) [.t 16]) (rg 1 6),
        ob 18 (.call false (.f 71) [.c (.str ⟨#[107, 101, 121]⟩), .t 17]) (rg 1 7),
        o 19 (.mov (.t 0)),
        o 20 (.mov (.t 4)),
        ob 21 (.iaddr 3 (.t 19) (.t 20)) [8, 9],
        ob 22 (.faddr 1 (.t 21)) [8, 9, 10],
        ob 23 (.load 1 false (.t 22)) [8, 9, 10, 11],
        ob 24 (.call false (.f 74) [.t 23]) (rg 1 13),
        ob 25 (.call false (.f 71) [.c (.str ⟨#[111, 112]⟩), .t 24]) (rg 1 14),
        o 26 (.mov (.t 0)),
        o 27 (.mov (.t 4)),
        ob 28 (.iaddr 3 (.t 26) (.t 27)) [15, 16],
        ob 29 (.faddr 2 (.t 28)) [15, 16, 17],
        ob 30 (.load 1 false (.t 29)) [15, 16, 17, 18],
        ob 31 (.call false (.f 150) [.t 30]) (rg 1 20),
        ob 32 (.call false (.f 71) [.c (.str ⟨#[118, 97, 108, 117, 101, 115]⟩), .t 31]) (rg 1 21),
        ob 33 (.lit 6 3 [.str ⟨#[]⟩, .int .i64 0, .int .i64 0, .str ⟨#[]⟩, .ns 5, .ns 6] [(0, .t 18), (1, .t 25), (2, .t 32)]) (rg 1 22),
        ob 34 (.call false (.f 70) [.t 33]) (rg 1 23),
        ob 35 (.lit 5 1 [.int .i64 0, .int .i64 0, .str ⟨#[]⟩, .ns 5, .ns 6] [(0, .t 34)]) (rg 1 24),
        ob 36 (.append 5 80 (.t 11) (.t 35)) (rg 0 25),
        ob 3 (.mov (.t 36)) (rg 0 26)] true))
    (.reg [o 9 (.mov (.t 4)),
    o 10 (.bin .add (.t 9) (.c (.int .i64 1))),
    o 4 (.mov (.t 10))] false))
def Q1hh : IR :=
  .seq (.reg [o 2 (.zero [.int .i64 0, .int .i64 0, .str ⟨#[]⟩, .ns 5, .ns 6])] false)
  (.seq (.reg [o 3 (.mov (.c (.ns 5)))] false)
  (.seq (.seq (.reg [o 4 (.mov (.c (.int .i64 0)))] false)
    (.block 0 (.loop Qh2 Q1aq)))
  (.seq (.reg [o 37 (.mov (.t 3)),
    o 38 (.call false (.f 138) [.t 37]),
    ⟨none, none, .store 5 (.t 2) (.t 38), []⟩] false)
  (.ret))))
def K2c : IFn := ⟨1, 39, [.cell 2 5 true], false, Q1hh⟩
def Qgr : List Nat := [100056, 0, 2, 3, 4]
def Q1a2 : IR :=
  .seq (.seq (.reg [o 5 (.mov (.t 4)),
        o 6 (.mov (.t 0)),
        o 7 (.len false (.t 6)),
        o 8 (.bin .lss (.t 5) (.t 7))] false)
      (.cond (.t 8) (.skip)
        (.exit 0)))
    (.seq (.block 1 (.reg [o 11 (.mov (.t 3)),
        o 12 (.mov (.t 0)),
        o 13 (.mov (.t 4)),
        ob 14 (.iaddr 3 (.t 12) (.t 13)) [1, 2],
        ob 15 (.faddr 0 (.t 14)) [1, 2, 3],
        ob 16 (.load 1 false (.t 15)) [1, 2, 3, 4],
        ob 17 (.call false (.f 73) [.t 16]) (rg 1 6),
        ob 18 (.call false (.f 71) [.c (.str ⟨#[114, 101, 113, 117, 105, 114, 101, 100]⟩), .t 17]) (rg 1 7),
        o 19 (.mov (.t 0)),
        o 20 (.mov (.t 4)),
        ob 21 (.iaddr 3 (.t 19) (.t 20)) [8, 9],
        ob 22 (.faddr 1 (.t 21)) [8, 9, 10],
        ob 23 (.load 1 false (.t 22)) [8, 9, 10, 11],
        ob 24 (.call false (.f 126) [.t 23]) (rg 1 13),
        ob 25 (.call false (.f 71) [.c (.str ⟨#[115, 101, 108, 101, 99, 116, 111, 114]⟩), .t 24]) (rg 1 14),
        o 26 (.mov (.t 0)),
        o 27 (.mov (.t 4)),
        ob 28 (.iaddr 3 (.t 26) (.t 27)) [15, 16],
        ob 29 (.faddr 2 (.t 28)) [15, 16, 17],
        ob 30 (.load 1 false (.t 29)) [15, 16, 17, 18],
        ob 31 (.call false (.f 74) [.t 30]) (rg 1 20),
        ob 32 (.call false (.f 71) [.c (.str ⟨#[119, 101, 105, 103, 104, 116]⟩), .t 31]) (rg 1 21),
        ob 33 (.lit 6 3 [.str ⟨#[]⟩, .int .i64 0, .int .i64 0, .str ⟨#[]⟩, .ns 5, .ns 6] [(0, .t 18), (1, .t 25), (2, .t 32)]) (rg 1 22),
        ob 34 (.call false (.f 70) [.t 33]) (rg 1 23),
        ob 35 (.lit 5 1 [.int .i64 0, .int .i64 0, .str ⟨#[]⟩, .ns 5, .ns 6] [(0, .t 34)]) (rg 1 24),
        ob 36 (.append 5 80 (.t 11) (.t 35)) (rg 0 25),
        ob 3 (.mov (.t 36)) (rg 0 26)] true))
    (.reg [o 9 (.mov (.t 4)),
    o 10 (.bin .add (.t 9) (.c (.int .i64 1))),
    o 4 (.mov (.t 10))] false))
def Q1jw : IR :=
  .seq (.reg [o 2 (.zero [.int .i64 0, .int .i64 0, .str ⟨#[]⟩, .ns 5, .ns 6])] false)
  (.seq (.reg [o 3 (.mov (.c (.ns 5)))] false)
  (.seq (.seq (.reg [o 4 (.mov (.c (.int .i64 0)))] false)
    (.block 0 (.loop Qgr Q1a2)))
  (.seq (.reg [o 37 (.mov (.t 3)),
    o 38 (.call false (.f 138) [.t 37]),
    ⟨none, none, .store 5 (.t 2) (.t 38), []⟩] false)
  (.ret))))
def K30 : IFn := ⟨1, 39, [.cell 2 5 true], false, Q1jw⟩
def Qjb : List Nat := [100057, 0, 2, 3, 4]
def Q1ak : IR :=
  .seq (.seq (.reg [o 5 (.mov (.t 4)),
        o 6 (.mov (.t 0)),
        o 7 (.len false (.t 6)),
        o 8 (.bin .lss (.t 5) (.t 7))] false)
      (.cond (.t 8) (.skip)
        (.exit 0)))
    (.seq (.block 1 (.reg [o 11 (.mov (.t 3)),
        o 12 (.mov (.t 0)),
        o 13 (.mov (.t 4)),
        ob 14 (.iaddr 5 (.t 12) (.t 13)) [1, 2],
        ob 15 (.faddr 1 (.t 14)) [1, 2, 3],
        ob 16 (.load 1 false (.t 15)) [1, 2, 3, 4],
        ob 17 (.call false (.f 73) [.t 16]) (rg 1 6),
        ob 18 (.call false (.f 71) [.c (.str ⟨#[97, 110, 116, 105]⟩), .t 17]) (rg 1 7),
        o 19 (.mov (.t 0)),
        o 20 (.mov (.t 4)),
        ob 21 (.iaddr 5 (.t 19) (.t 20)) [8, 9],
        ob 22 (.faddr 0 (.t 21)) [8, 9, 10],
        ob 23 (.load 1 false (.t 22)) [8, 9, 10, 11],
        ob 24 (.call false (.f 73) [.t 23]) (rg 1 13),
        ob 25 (.call false (.f 71) [.c (.str ⟨#[114, 101, 113, 117, 105, 114, 101, 100]⟩), .t 24]) (rg 1 14),
        o 26 (.mov (.t 0)),
        o 27 (.mov (.t 4)),
        ob 28 (.iaddr 5 (.t 26) (.t 27)) [15, 16],
        ob 29 (.faddr 2 (.t 28)) [15, 16, 17],
        ob 30 (.load 1 false (.t 29)) [15, 16, 17, 18],
        ob 31 (.call false (.f 126) [.t 30]) (rg 1 20),
        ob 32 (.call false (.f 71) [.c (.str ⟨#[115, 101, 108, 101, 99, 116, 111, 114]⟩), .t 31]) (rg 1 21),
        o 33 (.mov (.t 0)),
        o 34 (.mov (.t 4)),
        ob 35 (.iaddr 5 (.t 33) (.t 34)) [22, 23],
        ob 36 (.faddr 3 (.t 35)) [22, 23, 24],
        ob 37 (.load 1 false (.t 36)) [22, 23, 24, 25],
        ob 38 (.call false (.f 125) [.t 37]) (rg 1 27),
        ob 39 (.call false (.f 71) [.c (.str ⟨#[116, 111, 112, 111, 108, 111, 103, 121]⟩), .t 38]) (rg 1 28),
        o 40 (.mov (.t 0)),
        o 41 (.mov (.t 4)),
        ob 42 (.iaddr 5 (.t 40) (.t 41)) [29, 30],
        ob 43 (.faddr 4 (.t 42)) [29, 30, 31],
        ob 44 (.load 1 false (.t 43)) [29, 30, 31, 32],
        ob 45 (.call false (.f 74) [.t 44]) (rg 1 34),
        ob 46 (.call false (.f 71) [.c (.str ⟨#[119, 101, 105, 103, 104, 116]⟩), .t 45]) (rg 1 35),
        ob 47 (.lit 6 5 [.str ⟨#[]⟩, .int .i64 0, .int .i64 0, .str ⟨#[]⟩, .ns 5, .ns 6] [(0, .t 18), (1, .t 25), (2, .t 32), (3, .t 39), (4, .t 46)]) (rg 1 36),
        ob 48 (.call false (.f 70) [.t 47]) (rg 1 37),
        ob 49 (.lit 5 1 [.int .i64 0, .int .i64 0, .str ⟨#[]⟩, .ns 5, .ns 6] [(0, .t 48)]) (rg 1 38),
        ob 50 (.append 5 80 (.t 11) (.t 49)) (rg 0 39),
        ob 3 (.mov (.t 50)) (rg 0 40)] true))
    (.reg [o 9 (.mov (.t 4)),
    o 10 (.bin .add (.t 9) (.c (.int .i64 1))),
    o 4 (.mov (.t 10))] false))
def Q1gc : IR :=
  .seq (.reg [o 2 (.zero [.int .i64 0, .int .i64 0, .str ⟨#[]⟩, .ns 5, .ns 6])] false)
  (.seq (.reg [o 3 (.mov (.c (.ns 5)))] false)
  (.seq (.seq (.reg [o 4 (.mov (.c (.int .i64 0)))] false)
    (.block 0 (.loop Qjb Q1ak)))
  (.seq (.reg [o 51 (.mov (.t 3)),
    o 52 (.call false (.f 138) [.t 51]),
    ⟨none, none, .store 5 (.t 2) (.t 52), []⟩] false)
  (.ret))))
def K31 : IFn := ⟨1, 53, [.cell 2 5 true], false, Q1gc⟩
def Qho : List Nat := [100058, 0, 2, 3, 4]
def Q1al : IR :=
  .seq (.seq (.reg [o 5 (.mov (.t 4)),
        o 6 (.mov (.t 0)),
        o 7 (.len false (.t 6)),
        o 8 (.bin .lss (.t 5) (.t 7))] false)
      (.cond (.t 8) (.skip)
        (.exit 0)))
    (.seq (.block 1 (.reg [o 11 (.mov (.t 3)),
        o 12 (.mov (.t 0)),
        o 13 (.mov (.t 4)),
        ob 14 (.iaddr 4 (.t 12) (.t 13)) [1, 2],
        ob 15 (.faddr 0 (.t 14)) [1, 2, 3],
        ob 16 (.load 1 false (.t 15)) [1, 2, 3, 4],
        ob 17 (.call false (.f 74) [.t 16]) (rg 1 6),
        ob 18 (.call false (.f 71) [.c (.str ⟨#[109, 97, 120, 83, 107, 101, 119]⟩), .t 17]) (rg 1 7),
        o 19 (.mov (.t 0)),
        o 20 (.mov (.t 4)),
        ob 21 (.iaddr 4 (.t 19) (.t 20)) [8, 9],
        ob 22 (.faddr 3 (.t 21)) [8, 9, 10],
        ob 23 (.load 1 false (.t 22)) [8, 9, 10, 11],
        ob 24 (.call false (.f 73) [.t 23]) (rg 1 13),
        ob 25 (.call false (.f 71) [.c (.str ⟨#[114, 101, 113, 117, 105, 114, 101, 100]⟩), .t 24]) (rg 1 14),
        o 26 (.mov (.t 0)),
        o 27 (.mov (.t 4)),
        ob 28 (.iaddr 4 (.t 26) (.t 27)) [15, 16],
        ob 29 (.faddr 2 (.t 28)) [15, 16, 17],
        ob 30 (.load 1 false (.t 29)) [15, 16, 17, 18],
        ob 31 (.call false (.f 126) [.t 30]) (rg 1 20),
        ob 32 (.call false (.f 71) [.c (.str ⟨#[115, 101, 108, 101, 99, 116, 111, 114]⟩), .t 31]) (rg 1 21),
        o 33 (.mov (.t 0)),
        o 34 (.mov (.t 4)),
        ob 35 (.iaddr 4 (.t 33) (.t 34)) [22, 23],
        ob 36 (.faddr 1 (.t 35)) [22, 23, 24],
        ob 37 (.load 1 false (.t 36)) [22, 23, 24, 25],
        ob 38 (.call false (.f 125) [.t 37]) (rg 1 27),
        ob 39 (.call false (.f 71) [.c (.str ⟨#[116, 111, 112, 111, 108, 111, 103, 121]⟩), .t 38]) (rg 1 28),
        ob 40 (.lit 6 4 [.str ⟨#[]⟩, .int .i64 0, .int .i64 0, .str ⟨#[]⟩, .ns 5, .ns 6] [(0, .t 18), (1, .t 25), (2, .t 32), (3, .t 39)]) (rg 1 29),
        ob 41 (.call false (.f 70) [.t 40]) (rg 1 30),
        ob 42 (.lit 5 1 [.int .i64 0, .int .i64 0, .str ⟨#[]⟩, .ns 5, .ns 6] [(0, .t 41)]) (rg 1 31),
        ob 43 (.append 5 80 (.t 11) (.t 42)) (rg 0 32),
        ob 3 (.mov (.t 43)) (rg 0 33)] true))
    (.reg [o 9 (.mov (.t 4)),
    o 10 (.bin .add (.t 9) (.c (.int .i64 1))),
    o 4 (.mov (.t 10))] false))
def Q1ia : IR :=
  .seq (.reg [o 2 (.zero [.int .i64 0, .int .i64 0, .str ⟨#[]⟩, .ns 5, .ns 6])] false)
  (.seq (.reg [o 3 (.mov (.c (.ns 5)))] false)
  (.seq (.seq (.reg [o 4 (.mov (.c (.int .i64 0)))] false)
    (.block 0 (.loop Qho Q1al)))
  (.seq (.reg [o 44 (.mov (.t 3)),
    o 45 (.call false (.f 138) [.t 44]),
    ⟨none, none, .store 5 (.t 2) (.t 45), []⟩] false)
  (.ret))))
def K34 : IFn := ⟨1, 46, [.cell 2 5 true], false, Q1ia⟩
def Qkn : List Nat := [100059, 0, 2, 3, 4]
def Q1aa : IR :=
  .seq (.seq (.reg [o 5 (.mov (.t 4)),
        o 6 (.mov (.t 0)),
        o 7 (.len false (.t 6)),
        o 8 (.bin .lss (.t 5) (.t 7))] false)
      (.cond (.t 8) (.skip)
        (.exit 0)))
    (.seq (.block 1 (.reg [o 11 (.mov (.t 3)),
        o 12 (.mov (.t 0)),
        o 13 (.mov (.t 4)),
        ob 14 (.iaddr 5 (.t 12) (.t 13)) [1, 2],
        ob 15 (.faddr 3 (.t 14)) [1, 2, 3],
        ob 16 (.load 1 false (.t 15)) [1, 2, 3, 4],
        ob 17 (.call false (.f 74) [.t 16]) (rg 1 6),
        ob 18 (.call false (.f 71) [.c (.str ⟨#[101, 102, 102, 101, 99, 116]⟩), .t 17]) (rg 1 7),
        o 19 (.mov (.t 0)),
        o 20 (.mov (.t 4)),
        ob 21 (.iaddr 5 (.t 19) (.t 20)) [8, 9],
        ob 22 (.faddr 2 (.t 21)) [8, 9, 10],
        ob 23 (.load 1 false (.t 22)) [8, 9, 10, 11],
        ob 24 (.call false (.f 73) [.t 23]) (rg 1 13),
        ob 25 (.call false (.f 71) [.c (.str ⟨#[101, 120, 105, 115, 116, 115]⟩), .t 24]) (rg 1 14),
        o 26 (.mov (.t 0)),
        o 27 (.mov (.t 4)),
        ob 28 (.iaddr 5 (.t 26) (.t 27)) [15, 16],
        ob 29 (.faddr 0 (.t 28)) [15, 16, 17],
        ob 30 (.load 1 false (.t 29)) [15, 16, 17, 18],
        ob 31 (.call false (.f 125) [.t 30]) (rg 1 20),
        ob 32 (.call false (.f 71) [.c (.str ⟨#[107, 101, 121]⟩), .t 31]) (rg 1 21),
        o 33 (.mov (.t 0)),
        o 34 (.mov (.t 4)),
        ob 35 (.iaddr 5 (.t 33) (.t 34)) [22, 23],
        ob 36 (.faddr 4 (.t 35)) [22, 23, 24],
        ob 37 (.load 1 false (.t 36)) [22, 23, 24, 25],
        ob 38 (.call false (.f 74) [.t 37]) (rg 1 27),
        ob 39 (.call false (.f 71) [.c (.str ⟨#[115, 101, 99, 111, 110, 100, 115]⟩), .t 38]) (rg 1 28),
        o 40 (.mov (.t 0)),
        o 41 (.mov (.t 4)),
        ob 42 (.iaddr 5 (.t 40) (.t 41)) [29, 30],
        ob 43 (.faddr 1 (.t 42)) [29, 30, 31],
        ob 44 (.load 1 false (.t 43)) [29, 30, 31, 32],
        ob 45 (.call false (.f 125) [.t 44]) (rg 1 34),
        ob 46 (.call false (.f 71) [.c (.str ⟨#[118, 97, 108, 117, 101]⟩), .t 45]) (rg 1 35),
        ob 47 (.lit 6 5 [.str ⟨#[]⟩, .int .i64 0, .int .i64 0, .str ⟨#[]⟩, .ns 5, .ns 6] [(0, .t 18), (1, .t 25), (2, .t 32), (3, .t 39), (4, .t 46)]) (rg 1 36),
        ob 48 (.call false (.f 70) [.t 47]) (rg 1 37),
        ob 49 (.lit 5 1 [.int .i64 0, .int .i64 0, .str ⟨#[]⟩, .ns 5, .ns 6] [(0, .t 48)]) (rg 1 38),
        ob 50 (.append 5 80 (.t 11) (.t 49)) (rg 0 39),
        ob 3 (.mov (.t 50)) (rg 0 40)] true))
    (.reg [o 9 (.mov (.t 4)),
    o 10 (.bin .add (.t 9) (.c (.int .i64 1))),
    o 4 (.mov (.t 10))] false))
def Q1jj : IR :=
  .seq (.reg [o 2 (.zero [.int .i64 0, .int .i64 0, .str ⟨#[]⟩, .ns 5, .ns 6])] false)
  (.seq (.reg [o 3 (.mov (.c (.ns 5)))] false)
  (.seq (.seq (.reg [o 4 (.mov (.c (.int .i64 0)))] false)
    (.block 0 (.loop Qkn Q1aa)))
  (.seq (.reg [o 51 (.mov (.t 3)),
    o 52 (.call false (.f 138) [.t 51]),
    ⟨none, none, .store 5 (.t 2) (.t 52), []⟩] false)
  (.ret))))
def K38 : IFn := ⟨1, 53, [.cell 2 5 true], false, Q1jj⟩
def Qix : List Nat := [100060, 0, 2, 3, 4]
def Q19t : IR :=
  .seq (.seq (.reg [o 6 (.mov (.t 4)),
        o 7 (.mov (.t 0)),
        o 8 (.len false (.t 7)),
        o 9 (.bin .lss (.t 6) (.t 8))] false)
      (.cond (.t 9) (.skip)
        (.exit 0)))
    (.seq (.block 1 (.seq (.reg [o 12 (.mov (.t 0)),
          o 13 (.mov (.t 4)),
          o 14 (.iaddr 7 (.t 12) (.t 13)),
          o 15 (.load 7 true (.t 14)),
          o 5 (.zero [.str ⟨#[]⟩, .int .i64 0, .int .i64 0, .int .i64 0, .int .i64 0, .bool false, .bool false]),
          ⟨none, none, .store 7 (.t 5) (.t 15), []⟩] false)
        (.reg [o 16 (.mov (.t 3)),
        o 17 (.faddr 3 (.t 5)),
        ob 18 (.load 1 false (.t 17)) [1],
        ob 19 (.call false (.f 74) [.t 18]) [1, 2],
        ob 20 (.call false (.f 71) [.c (.str ⟨#[101, 120, 105, 116, 67, 111, 100, 101]⟩), .t 19]) [1, 2, 3],
        o 21 (.faddr 0 (.t 5)),
        ob 22 (.load 1 false (.t 21)) [5],
        ob 23 (.call false (.f 125) [.t 22]) (rg 1 7),
        ob 24 (.call false (.f 71) [.c (.str ⟨#[110, 97, 109, 101]⟩), .t 23]) (rg 1 8),
        o 25 (.faddr 5 (.t 5)),
        ob 26 (.load 1 false (.t 25)) [9],
        ob 27 (.call false (.f 73) [.t 26]) (rg 1 11),
        ob 28 (.call false (.f 71) [.c (.str ⟨#[114, 101, 97, 100, 121]⟩), .t 27]) (rg 1 12),
        o 29 (.faddr 2 (.t 5)),
        ob 30 (.load 1 false (.t 29)) [13],
        ob 31 (.call false (.f 74) [.t 30]) (rg 1 15),
        ob 32 (.call false (.f 71) [.c (.str ⟨#[114, 101, 115, 116, 97, 114, 116, 115]⟩), .t 31]) (rg 1 16),
        o 33 (.faddr 4 (.t 5)),
        ob 34 (.load 1 false (.t 33)) [17],
        ob 35 (.call false (.f 74) [.t 34]) (rg 1 19),
        ob 36 (.call false (.f 71) [.c (.str ⟨#[115, 105, 110, 99, 101]⟩), .t 35]) (rg 1 20),
        o 37 (.faddr 6 (.t 5)),
        ob 38 (.load 1 false (.t 37)) [21],
        ob 39 (.call false (.f 73) [.t 38]) (rg 1 23),
        ob 40 (.call false (.f 71) [.c (.str ⟨#[115, 116, 97, 114, 116, 101, 100]⟩), .t 39]) (rg 1 24),
        o 41 (.faddr 1 (.t 5)),
        ob 42 (.load 1 false (.t 41)) [25],
        ob 43 (.call false (.f 74) [.t 42]) (rg 1 27),
        ob 44 (.call false (.f 71) [.c (.str ⟨#[115, 116, 97, 116, 101]⟩), .t 43]) (rg 1 28),
        ob 45 (.lit 6 7 [.str ⟨#[]⟩, .int .i64 0, .int .i64 0, .str ⟨#[]⟩, .ns 5, .ns 6] [(0, .t 20), (1, .t 24), (2, .t 28), (3, .t 32), (4, .t 36), (5, .t 40), (6, .t 44)]) (rg 1 29),
        ob 46 (.call false (.f 70) [.t 45]) (rg 1 30),
        ob 47 (.lit 5 1 [.int .i64 0, .int .i64 0, .str ⟨#[]⟩, .ns 5, .ns 6] [(0, .t 46)]) (rg 1 31),
        ob 48 (.append 5 80 (.t 16) (.t 47)) (rg 0 32),
        ob 3 (.mov (.t 48)) (rg 0 33)] true)))
    (.reg [o 10 (.mov (.t 4)),
    o 11 (.bin .add (.t 10) (.c (.int .i64 1))),
    o 4 (.mov (.t 11))] false))
def Q1jh : IR :=
  .seq (.reg [o 2 (.zero [.int .i64 0, .int .i64 0, .str ⟨#[]⟩, .ns 5, .ns 6])] false)
  (.seq (.reg [o 3 (.mov (.c (.ns 5)))] false)
  (.seq (.seq (.reg [o 4 (.mov (.c (.int .i64 0)))] false)
    (.block 0 (.loop Qix Q19t)))
  (.seq (.reg [o 49 (.mov (.t 3)),
    o 50 (.call false (.f 138) [.t 49]),
    ⟨none, none, .store 5 (.t 2) (.t 50), []⟩] false)
  (.ret))))
def K36 : IFn := ⟨1, 51, [.cell 2 5 true], false, Q1jh⟩
def Q1hg : IR :=
  .reg [o 4 (.mov (.t 0)),
  o 5 (.mov (.t 0)),
  o 6 (.len false (.t 5)),
  o 7 (.mov (.t 1)),
  o 8 (.call true (.f 151) [.t 4, .t 6, .t 7])] false
def K3r : IFn := ⟨2, 9, [], false, Q1hg⟩
def Q1l9 : IR :=
  .seq (.reg [o 2 (.box 6 (.t 0)),
    o 3 (.box 6 (.t 1)),
    o 4 (.mov (.c (.int .i64 0)))] false)
  (.seq (.reg [o 5 (.faddr 0 (.t 2)),
    o 6 (.load 1 false (.t 5)),
    o 7 (.faddr 0 (.t 3)),
    o 8 (.load 1 false (.t 7)),
    o 9 (.call false (.f 135) [.t 6, .t 8]),
    o 4 (.mov (.t 9))] false)
  (.ret))
def K40 : IFn := ⟨2, 10, [.tmp 4], false, Q1l9⟩
def Q1hb : IR :=
  .seq (.reg [o 4 (.mov (.c (.int .i64 0)))] false)
  (.seq (.reg [o 5 (.mov (.t 0)),
    o 6 (.mov (.t 1)),
    o 7 (.call false (.f 152) [.t 5, .t 6]),
    o 4 (.mov (.t 7))] false)
  (.ret))
def K3u : IFn := ⟨2, 8, [.tmp 4], false, Q1hb⟩
def Qik : List Nat := [100062, 1, 2, 31, 32, 33]
def Q1ad : IR :=
  .seq (.reg [o 34 (.bin .lss (.t 33) (.t 32))] false)
    (.seq (.cond (.t 34) (.skip)
        (.exit 2))
    (.seq (.block 3 (.seq (.reg [o 35 (.mov (.t 33)),
          o 36 (.iaddr 6 (.t 31) (.t 33)),
          o 37 (.load 6 true (.t 36)),
          o 6 (.zero [.str ⟨#[]⟩, .int .i64 0, .int .i64 0, .str ⟨#[]⟩, .ns 5, .ns 6]),
          o 5 (.mov (.t 35)),
          ⟨none, none, .store 6 (.t 6) (.t 37), []⟩] false)
        (.reg [o 38 (.faddr 4 (.t 1)),
        ob 39 (.load 1 false (.t 38)) [0],
        o 40 (.mov (.t 5)),
        o 41 (.faddr 1 (.t 6)),
        ob 42 (.load 5 true (.t 41)) [3],
        ob 43 (.call false (.f 136) [.t 42]) [3, 4],
        ob 44 (.iaddr 6 (.t 39) (.t 40)) (rg 0 6),
        ob 45 (.faddr 1 (.t 44)) (rg 0 7),
        ⟨none, none, .store 5 (.t 45) (.t 43), (rg 0 8)⟩] true)))
    (.reg [o 46 (.bin .add (.t 33) (.c (.int .i64 1))),
    o 33 (.mov (.t 46))] false)))
def Qis : List Nat := [100061, 1, 2, 12, 13, 14]
def Q1av : IR :=
  .seq (.reg [o 15 (.bin .lss (.t 14) (.t 13))] false)
    (.seq (.cond (.t 15) (.skip)
        (.exit 0))
    (.seq (.block 1 (.seq (.reg [o 16 (.mov (.t 14)),
          o 17 (.iaddr 5 (.t 12) (.t 14)),
          o 18 (.load 5 true (.t 17)),
          o 4 (.zero [.int .i64 0, .int .i64 0, .str ⟨#[]⟩, .ns 5, .ns 6]),
          o 3 (.mov (.t 16)),
          ⟨none, none, .store 5 (.t 4) (.t 18), []⟩] false)
        (.reg [o 19 (.faddr 3 (.t 1)),
        ob 20 (.load 1 false (.t 19)) [0],
        o 21 (.mov (.t 3)),
        o 22 (.load 5 true (.t 4)),
        ob 23 (.call false (.f 136) [.t 22]) [3],
        ob 24 (.iaddr 5 (.t 20) (.t 21)) (rg 0 5),
        ⟨none, none, .store 5 (.t 24) (.t 23), (rg 0 6)⟩] true)))
    (.reg [o 25 (.bin .add (.t 14) (.c (.int .i64 1))),
    o 14 (.mov (.t 25))] false)))
def Q1jv : IR :=
  .seq (.reg [o 1 (.box 5 (.t 0)),
    o 2 (.zero [.int .i64 0, .int .i64 0, .str ⟨#[]⟩, .ns 5, .ns 6])] false)
  (.seq (.reg [o 7 (.faddr 3 (.t 1)),
    o 8 (.load 1 false (.t 7)),
    o 9 (.call false (.f 153) [.t 8]),
    o 10 (.faddr 3 (.t 1)),
    ⟨none, none, .store 1 (.t 10) (.t 9), []⟩] false)
  (.seq (.seq (.reg [o 11 (.faddr 3 (.t 1)),
      o 12 (.load 1 false (.t 11)),
      o 13 (.len false (.t 12)),
      o 14 (.mov (.c (.int .i64 0)))] false)
    (.block 0 (.loop Qis Q1av)))
  (.seq (.reg [o 26 (.faddr 4 (.t 1)),
    o 27 (.load 1 false (.t 26)),
    o 28 (.call false (.f 132) [.t 27]),
    o 29 (.faddr 4 (.t 1)),
    ⟨none, none, .store 1 (.t 29) (.t 28), []⟩] false)
  (.seq (.seq (.reg [o 30 (.faddr 4 (.t 1)),
      o 31 (.load 1 false (.t 30)),
      o 32 (.len false (.t 31)),
      o 33 (.mov (.c (.int .i64 0)))] false)
    (.block 2 (.loop Qik Q1ad)))
  (.seq (.reg [o 47 (.load 5 true (.t 1)),
    ⟨none, none, .store 5 (.t 2) (.t 47), []⟩] false)
  (.ret))))))
def K42 : IFn := ⟨1, 48, [.cell 2 5 true], false, Q1jv⟩
def Q1gb : IR :=
  .seq (.reg [o 2 (.zero [.int .i64 0, .int .i64 0, .str ⟨#[]⟩, .ns 5, .ns 6])] false)
  (.seq (.reg [o 3 (.mov (.t 0)),
    o 4 (.build [.int .i64 0, .int .i64 0, .str ⟨#[]⟩, .ns 5, .ns 6] [(0, 1, .c (.int .i64 4)), (3, 1, .t 3)]),
    o 5 (.call false (.f 136) [.t 4]),
    ⟨none, none, .store 5 (.t 2) (.t 5), []⟩] false)
  (.ret))
def K3y : IFn := ⟨1, 6, [.cell 2 5 true], false, Q1gb⟩
def Q1g9 : IR :=
  .seq (.reg [o 2 (.zero [.int .i64 0, .int .i64 0, .str ⟨#[]⟩, .ns 5, .ns 6])] false)
  (.seq (.reg [o 3 (.mov (.t 0)),
    o 4 (.build [.int .i64 0, .int .i64 0, .str ⟨#[]⟩, .ns 5, .ns 6] [(0, 1, .c (.int .i64 4)), (3, 1, .t 3)]),
    ⟨none, none, .store 5 (.t 2) (.t 4), []⟩] false)
  (.ret))
def K39 : IFn := ⟨1, 5, [.cell 2 5 true], false, Q1g9⟩
def Qwn : List Nat := [100063, 3, 9, 16, 17, 18]
def Q1f6 : IR :=
  .seq (.reg [o 19 (.bin .lss (.t 18) (.t 17))] false)
    (.seq (.cond (.t 19) (.skip)
        (.exit 0))
    (.seq (.block 1 (.seq (.reg [o 20 (.iaddr 5 (.t 16) (.t 18)),
          o 21 (.load 5 true (.t 20)),
          o 11 (.zero [.int .i64 0, .int .i64 0, .str ⟨#[]⟩, .ns 5, .ns 6]),
          ⟨none, none, .store 5 (.t 11) (.t 21), []⟩] false)
        (.reg [o 22 (.mov (.t 9)),
        o 23 (.mov (.t 3)),
        o 24 (.load 5 true (.t 11)),
        o 25 (.call false (.t 23) [.t 24]),
        o 26 (.lit 4 1 [.int .i64 0, .int .i64 0, .int .i64 0, .int .i64 0] [(0, .t 25)]),
        o 27 (.append 4 32 (.t 22) (.t 26)),
        o 9 (.mov (.t 27))] false)))
    (.reg [o 28 (.bin .add (.t 18) (.c (.int .i64 1))),
    o 18 (.mov (.t 28))] false)))
def Q1kw : IR :=
  .seq (.reg [o 5 (.box 5 (.t 1)),
    o 8 (.mov (.c (.ns 4)))] false)
  (.seq (.reg [o 9 (.mov (.c (.ns 4)))] false)
  (.seq (.seq (.reg [o 12 (.mov (.t 0)),
      o 13 (.load 5 true (.t 5)),
      o 14 (.mov (.t 2)),
      o 15 (.call false (.f 106) [.t 12, .t 13, .t 14, .c (.int .i64 4)]),
      o 16 (.field 3 1 false (.t 15)),
      o 17 (.len false (.t 16)),
      o 18 (.mov (.c (.int .i64 0)))] false)
    (.block 0 (.loop Qwn Q1f6)))
  (.seq (.reg [o 29 (.mov (.t 9)),
    o 8 (.mov (.t 29))] false)
  (.ret))))
def K12 : IFn := ⟨4, 30, [.tmp 8], false, Q1kw⟩
def Kp_c : IR :=
  .seq (.reg [o 3 (.box 5 (.t 1)),
    o 4 (.zero [.int .i64 0, .int .i64 0, .int .i64 0, .int .i64 0])] false)
  (.seq (.reg [o 5 (.mov (.t 0)),
    o 6 (.load 5 true (.t 3)),
    o 7 (.call false (.f 36) [.t 5, .t 6])] false)
  (.seq (.reg [o 8 (.mov (.t 0)),
    o 9 (.load 5 true (.t 3)),
    ob 10 (.call false (.f 39) [.t 8, .t 9, .c (.str ⟨#[100, 101, 108, 97, 121]⟩)]) [0, 1],
    o 11 (.mov (.t 0)),
    o 12 (.load 5 true (.t 3)),
    ob 13 (.call false (.f 39) [.t 11, .t 12, .c (.str ⟨#[112, 101, 114, 105, 111, 100]⟩)]) (rg 0 5),
    o 14 (.mov (.t 0)),
    o 15 (.load 5 true (.t 3)),
    ob 16 (.call false (.f 39) [.t 14, .t 15, .c (.str ⟨#[115, 117, 99, 99, 101, 115, 115]⟩)]) (rg 0 8),
    o 17 (.mov (.t 0)),
    o 18 (.load 5 true (.t 3)),
    ob 19 (.call false (.f 39) [.t 17, .t 18, .c (.str ⟨#[102, 97, 105, 108, 117, 114, 101]⟩)]) (rg 0 11),
    ob 20 (.build [.int .i64 0, .int .i64 0, .int .i64 0, .int .i64 0] [(0, 1, .t 10), (1, 1, .t 13), (2, 1, .t 16), (3, 1, .t 19)]) (rg 0 12),
    ⟨none, none, .store 4 (.t 4) (.t 20), (rg 0 13)⟩] true)
  (.ret)))
def Kp : IFn := ⟨2, 21, [.cell 4 4 true], false, Kp_c⟩
def Qx0 : List Nat := [100064, 3, 9, 16, 17, 18]
def Q1df : IR :=
  .seq (.reg [o 19 (.bin .lss (.t 18) (.t 17))] false)
    (.seq (.cond (.t 19) (.skip)
        (.exit 0))
    (.seq (.block 1 (.seq (.reg [o 20 (.iaddr 5 (.t 16) (.t 18)),
          o 21 (.load 5 true (.t 20)),
          o 11 (.zero [.int .i64 0, .int .i64 0, .str ⟨#[]⟩, .ns 5, .ns 6]),
          ⟨none, none, .store 5 (.t 11) (.t 21), []⟩] false)
        (.reg [o 22 (.mov (.t 9)),
        o 23 (.mov (.t 3)),
        o 24 (.load 5 true (.t 11)),
        o 25 (.call false (.t 23) [.t 24]),
        o 26 (.lit 1 1 [.str ⟨#[]⟩] [(0, .t 25)]),
        o 27 (.append 1 16 (.t 22) (.t 26)),
        o 9 (.mov (.t 27))] false)))
    (.reg [o 28 (.bin .add (.t 18) (.c (.int .i64 1))),
    o 18 (.mov (.t 28))] false)))
def Q1kd : IR :=
  .seq (.reg [o 5 (.box 5 (.t 1)),
    o 8 (.mov (.c (.ns 1)))] false)
  (.seq (.reg [o 9 (.mov (.c (.ns 1)))] false)
  (.seq (.seq (.reg [o 12 (.mov (.t 0)),
      o 13 (.load 5 true (.t 5)),
      o 14 (.mov (.t 2)),
      o 15 (.call false (.f 106) [.t 12, .t 13, .t 14, .c (.int .i64 4)]),
      o 16 (.field 3 1 false (.t 15)),
      o 17 (.len false (.t 16)),
      o 18 (.mov (.c (.int .i64 0)))] false)
    (.block 0 (.loop Qx0 Q1df)))
  (.seq (.reg [o 29 (.mov (.t 9)),
    o 8 (.mov (.t 29))] false)
  (.ret))))
def K13 : IFn := ⟨4, 30, [.tmp 8], false, Q1kd⟩
def Kz_c : IR :=
  .seq (.reg [o 3 (.box 5 (.t 1)),
    o 4 (.mov (.c (.str ⟨#[]⟩)))] false)
  (.seq (.reg [o 5 (.mov (.t 0)),
    o 6 (.mov (.t 0)),
    o 7 (.nilck (.t 6)),
    o 8 (.faddr 0 (.t 7)),
    o 9 (.load 1 false (.t 8)),
    o 10 (.mov (.t 9)),
    ⟨(some 11), (some (10, false)), .faddr 0 (.t 3), []⟩,
    ⟨(some 12), (some (10, false)), .load 1 false (.t 11), []⟩,
    ⟨(some 13), (some (10, false)), .bin .neq (.t 12) (.c (.int .i64 3)), []⟩,
    ⟨(some 14), (some (10, false)), .mov (.t 13), []⟩,
    ⟨(some 15), (some (14, true)), .faddr 0 (.t 3), []⟩,
    ⟨(some 16), (some (14, true)), .load 1 false (.t 15), []⟩,
    ⟨(some 17), (some (14, true)), .bin .neq (.t 16) (.c (.int .i64 0)), []⟩,
    ⟨(some 18), (some (10, false)), .pick (.t 14) (.t 17) (.c (.bool false)), []⟩,
    o 19 (.pick (.t 10) (.c (.bool true)) (.t 18)),
    o 20 (.nilck (.t 5)),
    o 21 (.faddr 0 (.t 20)),
    ⟨none, none, .store 1 (.t 21) (.t 19), []⟩] false)
  (.seq (.seq (.reg [o 22 (.faddr 0 (.t 3)),
      o 23 (.load 1 false (.t 22)),
      o 24 (.bin .neq (.t 23) (.c (.int .i64 3)))] false)
    (.cond (.t 24) (.seq (.reg [o 4 (.mov (.c (.str ⟨#[]⟩)))] false)
      (.ret))
      (.skip)))
  (.seq (.reg [o 25 (.faddr 2 (.t 3)),
    o 26 (.load 1 false (.t 25)),
    o 4 (.mov (.t 26))] false)
  (.ret))))
def Kz : IFn := ⟨2, 27, [.tmp 4], false, Kz_c⟩
def Qx9 : List Nat := [100066, 1, 4, 12, 13, 14]
def Q1dl : IR :=
  .seq (.reg [o 15 (.bin .lss (.t 14) (.t 13))] false)
    (.seq (.cond (.t 15) (.skip)
        (.exit 0))
    (.seq (.block 1 (.seq (.reg [o 16 (.iaddr 6 (.t 12) (.t 14)),
          o 17 (.load 6 true (.t 16)),
          o 7 (.zero [.str ⟨#[]⟩, .int .i64 0, .int .i64 0, .str ⟨#[]⟩, .ns 5, .ns 6]),
          ⟨none, none, .store 6 (.t 7) (.t 17), []⟩] false)
        (.seq (.reg [o 18 (.faddr 0 (.t 7)),
          o 19 (.load 1 false (.t 18)),
          o 20 (.mov (.t 1)),
          o 21 (.bin .eql (.t 19) (.t 20))] false)
        (.cond (.t 21) (.seq (.reg [o 22 (.faddr 1 (.t 7)),
            o 23 (.load 5 true (.t 22)),
            o 24 (.call false (.f 136) [.t 23]),
            ⟨none, none, .store 5 (.t 4) (.t 24), []⟩,
            o 5 (.mov (.c (.bool true)))] false)
          (.ret))
          (.skip)))))
    (.reg [o 25 (.bin .add (.t 14) (.c (.int .i64 1))),
    o 14 (.mov (.t 25))] false)))
def Q1jc : IR :=
  .seq (.reg [o 2 (.box 5 (.t 0)),
    o 4 (.zero [.int .i64 0, .int .i64 0, .str ⟨#[]⟩, .ns 5, .ns 6]),
    o 5 (.mov (.c (.bool false)))] false)
  (.seq (.seq (.reg [o 8 (.faddr 0 (.t 2)),
      o 9 (.load 1 false (.t 8)),
      o 10 (.bin .eql (.t 9) (.c (.int .i64 5)))] false)
    (.cond (.t 10) (.seq (.reg [o 11 (.faddr 4 (.t 2)),
        o 12 (.load 1 false (.t 11)),
        o 13 (.len false (.t 12)),
        o 14 (.mov (.c (.int .i64 0)))] false)
      (.block 0 (.loop Qx9 Q1dl)))
      (.skip)))
  (.seq (.reg [o 26 (.build [.int .i64 0, .int .i64 0, .str ⟨#[]⟩, .ns 5, .ns 6] []),
    ⟨none, none, .store 5 (.t 4) (.t 26), []⟩,
    o 5 (.mov (.c (.bool false)))] false)
  (.ret)))
def K3w : IFn := ⟨2, 27, [.cell 4 5 true, .tmp 5], false, Q1jc⟩
def Qgs : List Nat := [100067, 1, 4, 5, 8, 9, 10]
def Q1aw : IR :=
  .seq (.reg [o 11 (.bin .lss (.t 10) (.t 9))] false)
    (.seq (.cond (.t 11) (.skip)
        (.exit 0))
    (.seq (.block 1 (.seq (.reg [o 12 (.iaddr 4 (.t 8) (.t 10)),
          o 13 (.load 4 true (.t 12)),
          o 7 (.zero [.int .i64 0, .int .i64 0, .int .i64 0, .int .i64 0]),
          ⟨none, none, .store 4 (.t 7) (.t 13), []⟩] false)
        (.reg [o 14 (.mov (.t 5)),
        o 15 (.mov (.t 1)),
        o 16 (.load 4 true (.t 7)),
        o 17 (.call false (.t 15) [.t 16]),
        o 18 (.lit 5 1 [.int .i64 0, .int .i64 0, .str ⟨#[]⟩, .ns 5, .ns 6] [(0, .t 17)]),
        o 19 (.append 5 80 (.t 14) (.t 18)),
        o 5 (.mov (.t 19))] false)))
    (.reg [o 20 (.bin .add (.t 10) (.c (.int .i64 1))),
    o 10 (.mov (.t 20))] false)))
def Q1jp : IR :=
  .seq (.reg [o 4 (.zero [.int .i64 0, .int .i64 0, .str ⟨#[]⟩, .ns 5, .ns 6])] false)
  (.seq (.reg [o 5 (.mov (.c (.ns 5)))] false)
  (.seq (.seq (.reg [o 8 (.mov (.t 0)),
      o 9 (.len false (.t 8)),
      o 10 (.mov (.c (.int .i64 0)))] false)
    (.block 0 (.loop Qgs Q1aw)))
  (.seq (.reg [o 21 (.mov (.t 5)),
    o 22 (.call false (.f 137) [.t 21]),
    ⟨none, none, .store 5 (.t 4) (.t 22), []⟩] false)
  (.ret))))
def K20 : IFn := ⟨2, 23, [.cell 4 5 true], false, Q1jp⟩
def Q1gr : IR :=
  .seq (.reg [o 1 (.box 4 (.t 0)),
    o 2 (.zero [.int .i64 0, .int .i64 0, .str ⟨#[]⟩, .ns 5, .ns 6])] false)
  (.seq (.reg [o 3 (.faddr 0 (.t 1)),
    ob 4 (.load 1 false (.t 3)) [0],
    ob 5 (.call false (.f 65) [.t 4]) [0, 1],
    ob 6 (.call false (.f 62) [.c (.str ⟨#[100, 101, 108, 97, 121]⟩), .t 5]) [0, 1, 2],
    o 7 (.faddr 3 (.t 1)),
    ob 8 (.load 1 false (.t 7)) [4],
    ob 9 (.call false (.f 65) [.t 8]) (rg 0 6),
    ob 10 (.call false (.f 62) [.c (.str ⟨#[102, 97, 105, 108, 117, 114, 101]⟩), .t 9]) (rg 0 7),
    o 11 (.faddr 1 (.t 1)),
    ob 12 (.load 1 false (.t 11)) [8],
    ob 13 (.call false (.f 65) [.t 12]) (rg 0 10),
    ob 14 (.call false (.f 62) [.c (.str ⟨#[112, 101, 114, 105, 111, 100]⟩), .t 13]) (rg 0 11),
    o 15 (.faddr 2 (.t 1)),
    ob 16 (.load 1 false (.t 15)) [12],
    ob 17 (.call false (.f 65) [.t 16]) (rg 0 14),
    ob 18 (.call false (.f 62) [.c (.str ⟨#[115, 117, 99, 99, 101, 115, 115]⟩), .t 17]) (rg 0 15),
    ob 19 (.lit 6 4 [.str ⟨#[]⟩, .int .i64 0, .int .i64 0, .str ⟨#[]⟩, .ns 5, .ns 6] [(0, .t 6), (1, .t 10), (2, .t 14), (3, .t 18)]) (rg 0 16),
    ob 20 (.call false (.f 61) [.t 19]) (rg 0 17),
    ⟨none, none, .store 5 (.t 2) (.t 20), (rg 0 18)⟩] true)
  (.ret))
def K1j : IFn := ⟨1, 21, [.cell 2 5 true], false, Q1gr⟩
def Qhm : List Nat := [100068, 1, 4, 5, 8, 9, 10]
def Q1ae : IR :=
  .seq (.reg [o 11 (.bin .lss (.t 10) (.t 9))] false)
    (.seq (.cond (.t 11) (.skip)
        (.exit 0))
    (.seq (.block 1 (.seq (.reg [o 12 (.iaddr 1 (.t 8) (.t 10)),
          o 13 (.load 1 false (.t 12)),
          o 7 (.mov (.t 13))] false)
        (.reg [o 14 (.mov (.t 5)),
        o 15 (.mov (.t 1)),
        o 16 (.mov (.t 7)),
        o 17 (.call false (.t 15) [.t 16]),
        o 18 (.lit 5 1 [.int .i64 0, .int .i64 0, .str ⟨#[]⟩, .ns 5, .ns 6] [(0, .t 17)]),
        o 19 (.append 5 80 (.t 14) (.t 18)),
        o 5 (.mov (.t 19))] false)))
    (.reg [o 20 (.bin .add (.t 10) (.c (.int .i64 1))),
    o 10 (.mov (.t 20))] false)))
def Q1l8 : IR :=
  .seq (.reg [o 4 (.zero [.int .i64 0, .int .i64 0, .str ⟨#[]⟩, .ns 5, .ns 6])] false)
  (.seq (.reg [o 5 (.mov (.c (.ns 5)))] false)
  (.seq (.seq (.reg [o 8 (.mov (.t 0)),
      o 9 (.len false (.t 8)),
      o 10 (.mov (.c (.int .i64 0)))] false)
    (.block 0 (.loop Qhm Q1ae)))
  (.seq (.reg [o 21 (.mov (.t 5)),
    o 22 (.call false (.f 137) [.t 21]),
    ⟨none, none, .store 5 (.t 4) (.t 22), []⟩] false)
  (.ret))))
def K21 : IFn := ⟨2, 23, [.cell 4 5 true], false, Q1l8⟩
def Qja : List Nat := [100069, 0, 2, 3, 4]
def Q1ap : IR :=
  .seq (.seq (.reg [o 5 (.mov (.t 4)),
        o 6 (.mov (.t 0)),
        o 7 (.len false (.t 6)),
        o 8 (.bin .lss (.t 5) (.t 7))] false)
      (.cond (.t 8) (.skip)
        (.exit 0)))
    (.seq (.block 1 (.reg [o 11 (.mov (.t 3)),
        o 12 (.mov (.t 0)),
        o 13 (.mov (.t 4)),
        ob 14 (.iaddr 4 (.t 12) (.t 13)) [1, 2],
        ob 15 (.faddr 0 (.t 14)) [1, 2, 3],
        ob 16 (.load 1 false (.t 15)) [1, 2, 3, 4],
        ob 17 (.call false (.f 74) [.t 16]) (rg 1 6),
        ob 18 (.call false (.f 71) [.c (.str ⟨#[100, 101, 108, 97, 121]⟩), .t 17]) (rg 1 7),
        o 19 (.mov (.t 0)),
        o 20 (.mov (.t 4)),
        ob 21 (.iaddr 4 (.t 19) (.t 20)) [8, 9],
        ob 22 (.faddr 3 (.t 21)) [8, 9, 10],
        ob 23 (.load 1 false (.t 22)) [8, 9, 10, 11],
        ob 24 (.call false (.f 74) [.t 23]) (rg 1 13),
        ob 25 (.call false (.f 71) [.c (.str ⟨#[102, 97, 105, 108, 117, 114, 101]⟩), .t 24]) (rg 1 14),
        o 26 (.mov (.t 0)),
        o 27 (.mov (.t 4)),
        ob 28 (.iaddr 4 (.t 26) (.t 27)) [15, 16],
        ob 29 (.faddr 1 (.t 28)) [15, 16, 17],
        ob 30 (.load 1 false (.t 29)) [15, 16, 17, 18],
        ob 31 (.call false (.f 74) [.t 30]) (rg 1 20),
        ob 32 (.call false (.f 71) [.c (.str ⟨#[112, 101, 114, 105, 111, 100]⟩), .t 31]) (rg 1 21),
        o 33 (.mov (.t 0)),
        o 34 (.mov (.t 4)),
        ob 35 (.iaddr 4 (.t 33) (.t 34)) [22, 23],
        ob 36 (.faddr 2 (.t 35)) [22, 23, 24],
        ob 37 (.load 1 false (.t 36)) [22, 23, 24, 25],
        ob 38 (.call false (.f 74) [.t 37]) (rg 1 27),
        ob 39 (.call false (.f 71) [.c (.str ⟨#[115, 117, 99, 99, 101, 115, 115]⟩), .t 38]) (rg 1 28),
        ob 40 (.lit 6 4 [.str ⟨#[]⟩, .int .i64 0, .int .i64 0, .str ⟨#[]⟩, .ns 5, .ns 6] [(0, .t 18), (1, .t 25), (2, .t 32), (3, .t 39)]) (rg 1 29),
        ob 41 (.call false (.f 70) [.t 40]) (rg 1 30),
        ob 42 (.lit 5 1 [.int .i64 0, .int .i64 0, .str ⟨#[]⟩, .ns 5, .ns 6] [(0, .t 41)]) (rg 1 31),
        ob 43 (.append 5 80 (.t 11) (.t 42)) (rg 0 32),
        ob 3 (.mov (.t 43)) (rg 0 33)] true))
    (.reg [o 9 (.mov (.t 4)),
    o 10 (.bin .add (.t 9) (.c (.int .i64 1))),
    o 4 (.mov (.t 10))] false))
def Q1ir : IR :=
  .seq (.reg [o 2 (.zero [.int .i64 0, .int .i64 0, .str ⟨#[]⟩, .ns 5, .ns 6])] false)
  (.seq (.reg [o 3 (.mov (.c (.ns 5)))] false)
  (.seq (.seq (.reg [o 4 (.mov (.c (.int .i64 0)))] false)
    (.block 0 (.loop Qja Q1ap)))
  (.seq (.reg [o 44 (.mov (.t 3)),
    o 45 (.call false (.f 138) [.t 44]),
    ⟨none, none, .store 5 (.t 2) (.t 45), []⟩] false)
  (.ret))))
def K32 : IFn := ⟨1, 46, [.cell 2 5 true], false, Q1ir⟩
def Qhd : List Nat := [100070, 0, 2, 3, 4]
def Q19v : IR :=
  .seq (.seq (.reg [o 5 (.mov (.t 4)),
        o 6 (.mov (.t 0)),
        o 7 (.len false (.t 6)),
        o 8 (.bin .lss (.t 5) (.t 7))] false)
      (.cond (.t 8) (.skip)
        (.exit 0)))
    (.seq (.block 1 (.reg [o 11 (.mov (.t 3)),
        o 12 (.mov (.t 0)),
        o 13 (.mov (.t 4)),
        o 14 (.iaddr 1 (.t 12) (.t 13)),
        o 15 (.load 1 false (.t 14)),
        o 16 (.call false (.f 125) [.t 15]),
        o 17 (.lit 5 1 [.int .i64 0, .int .i64 0, .str ⟨#[]⟩, .ns 5, .ns 6] [(0, .t 16)]),
        o 18 (.append 5 80 (.t 11) (.t 17)),
        o 3 (.mov (.t 18))] false))
    (.reg [o 9 (.mov (.t 4)),
    o 10 (.bin .add (.t 9) (.c (.int .i64 1))),
    o 4 (.mov (.t 10))] false))
def Q1lh : IR :=
  .seq (.reg [o 2 (.zero [.int .i64 0, .int .i64 0, .str ⟨#[]⟩, .ns 5, .ns 6])] false)
  (.seq (.reg [o 3 (.mov (.c (.ns 5)))] false)
  (.seq (.seq (.reg [o 4 (.mov (.c (.int .i64 0)))] false)
    (.block 0 (.loop Qhd Q19v)))
  (.seq (.reg [o 19 (.mov (.t 3)),
    o 20 (.call false (.f 138) [.t 19]),
    ⟨none, none, .store 5 (.t 2) (.t 20), []⟩] false)
  (.ret))))
def K2e : IFn := ⟨1, 21, [.cell 2 5 true], false, Q1lh⟩
def Qxi : List Nat := [100073, 0, 1, 2, 6, 7, 8]
def Q1fi : IR :=
  .seq (.seq (.reg [o 33 (.mov (.t 8)),
        o 34 (.mov (.t 1)),
        o 35 (.bin .leq (.t 33) (.t 34))] false)
      (.cond (.t 35) (.skip)
        (.exit 4)))
    (.block 5 (.seq (.reg [o 36 (.mov (.t 0)),
        o 37 (.mov (.t 7)),
        o 38 (.mov (.t 7)),
        o 39 (.mov (.t 6)),
        o 40 (.bin .add (.t 38) (.t 39)),
        o 41 (.mov (.t 8)),
        o 42 (.mov (.t 2)),
        o 43 (.call false (.f 156) [.t 36, .t 37, .t 40, .t 41, .t 42])] false)
      (.seq (.reg [o 44 (.mov (.t 8)),
        o 7 (.mov (.t 44))] false)
      (.reg [o 45 (.mov (.t 8)),
      o 46 (.mov (.t 6)),
      o 47 (.bin .mul (.c (.int .i64 2)) (.t 46)),
      o 48 (.bin .add (.t 45) (.t 47)),
      o 8 (.mov (.t 48))] false))))
def Qhl : List Nat := [100072, 0, 1, 2, 6]
def Q1a7 : IR :=
  .seq (.seq (.reg [o 28 (.mov (.t 6)),
        o 29 (.mov (.t 1)),
        o 30 (.bin .lss (.t 28) (.t 29))] false)
      (.cond (.t 30) (.skip)
        (.exit 2)))
    (.block 3 (.seq (.reg [o 31 (.mov (.t 6)),
        o 32 (.bin .mul (.c (.int .i64 2)) (.t 31)),
        o 7 (.mov (.c (.int .i64 0))),
        o 8 (.mov (.t 32))] false)
      (.seq (.block 4 (.loop Qxi Q1fi))
      (.seq (.seq (.reg [o 49 (.mov (.t 7)),
          o 50 (.mov (.t 6)),
          o 51 (.bin .add (.t 49) (.t 50)),
          o 9 (.mov (.t 51))] false)
        (.seq (.reg [o 52 (.mov (.t 9)),
          o 53 (.mov (.t 1)),
          o 54 (.bin .lss (.t 52) (.t 53))] false)
        (.cond (.t 54) (.reg [o 55 (.mov (.t 0)),
          o 56 (.mov (.t 7)),
          o 57 (.mov (.t 9)),
          o 58 (.mov (.t 1)),
          o 59 (.mov (.t 2)),
          o 60 (.call false (.f 156) [.t 55, .t 56, .t 57, .t 58, .t 59])] false)
          (.skip))))
      (.reg [o 61 (.mov (.t 6)),
      o 62 (.bin .mul (.t 61) (.c (.int .i64 2))),
      o 6 (.mov (.t 62))] false)))))
def Qkq : List Nat := [100071, 0, 1, 2, 6, 7, 8]
def Q1ag : IR :=
  .seq (.seq (.reg [o 11 (.mov (.t 8)),
        o 12 (.mov (.t 1)),
        o 13 (.bin .leq (.t 11) (.t 12))] false)
      (.cond (.t 13) (.skip)
        (.exit 0)))
    (.block 1 (.seq (.reg [o 14 (.mov (.t 0)),
        o 15 (.mov (.t 7)),
        o 16 (.mov (.t 8)),
        o 17 (.mov (.t 2)),
        o 18 (.call true (.f 155) [.t 14, .t 15, .t 16, .t 17])] false)
      (.seq (.reg [o 19 (.mov (.t 8)),
        o 7 (.mov (.t 19))] false)
      (.reg [o 20 (.mov (.t 8)),
      o 21 (.mov (.t 6)),
      o 22 (.bin .add (.t 20) (.t 21)),
      o 8 (.mov (.t 22))] false))))
def Q1jd : IR :=
  .seq (.reg [o 6 (.mov (.c (.int .i64 20)))] false)
  (.seq (.reg [o 10 (.mov (.t 6)),
    o 7 (.mov (.c (.int .i64 0))),
    o 8 (.mov (.t 10))] false)
  (.seq (.block 0 (.loop Qkq Q1ag))
  (.seq (.reg [o 23 (.mov (.t 0)),
    o 24 (.mov (.t 7)),
    o 25 (.mov (.t 1)),
    o 26 (.mov (.t 2)),
    o 27 (.call true (.f 155) [.t 23, .t 24, .t 25, .t 26])] false)
  (.block 2 (.loop Qhl Q1a7)))))
def K3t : IFn := ⟨3, 63, [], false, Q1jd⟩
def Qh7 : List Nat := [100076, 0, 1, 2, 3, 8, 9]
def Q19q : IR :=
  .seq (.seq (.reg [o 18 (.mov (.t 9)),
        o 19 (.mov (.t 1)),
        ob 20 (.bin .gtr (.t 18) (.t 19)) [0, 1],
        ob 21 (.mov (.t 20)) [0, 1, 2],
        ⟨(some 22), (some (21, true)), .mov (.t 3), [0, 1, 2, 3]⟩,
        ⟨(some 23), (some (21, true)), .mov (.t 0), [0, 1, 2, 3]⟩,
        ⟨(some 24), (some (21, true)), .mov (.t 9), [0, 1, 2, 3]⟩,
        ⟨(some 25), (some (21, true)), .iaddr 6 (.t 23) (.t 24), (rg 0 4 ++ [5, 6])⟩,
        ⟨(some 26), (some (21, true)), .load 6 true (.t 25), (rg 0 4 ++ [5, 6, 7])⟩,
        ⟨(some 27), (some (21, true)), .mov (.t 0), [0, 1, 2, 3]⟩,
        ⟨(some 28), (some (21, true)), .mov (.t 9), [0, 1, 2, 3]⟩,
        ⟨(some 29), (some (21, true)), .bin .sub (.t 28) (.c (.int .i64 1)), (rg 0 4 ++ [10])⟩,
        ⟨(some 30), (some (21, true)), .iaddr 6 (.t 27) (.t 29), (rg 0 4 ++ [9, 10, 11])⟩,
        ⟨(some 31), (some (21, true)), .load 6 true (.t 30), (rg 0 4 ++ rg 9 13)⟩,
        ⟨(some 32), (some (21, true)), .call false (.t 22) [.t 26, .t 31], (rg 0 14)⟩,
        ⟨(some 33), (some (21, true)), .bin .lss (.t 32) (.c (.int .i64 0)), (rg 0 15)⟩,
        ob 34 (.pick (.t 21) (.t 33) (.c (.bool false))) (rg 0 16)] true)
      (.cond (.t 34) (.skip)
        (.exit 2)))
    (.seq (.block 3 (.reg [o 37 (.mov (.t 0)),
        o 38 (.mov (.t 9)),
        o 39 (.mov (.t 0)),
        o 40 (.mov (.t 9)),
        ob 41 (.bin .sub (.t 40) (.c (.int .i64 1))) [3],
        o 42 (.mov (.t 0)),
        o 43 (.mov (.t 9)),
        ob 44 (.bin .sub (.t 43) (.c (.int .i64 1))) [6],
        ob 45 (.iaddr 6 (.t 42) (.t 44)) [5, 6, 7],
        ob 46 (.load 6 true (.t 45)) [5, 6, 7, 8],
        o 47 (.mov (.t 0)),
        o 48 (.mov (.t 9)),
        ob 49 (.iaddr 6 (.t 47) (.t 48)) [10, 11],
        ob 50 (.load 6 true (.t 49)) [10, 11, 12],
        ob 51 (.iaddr 6 (.t 37) (.t 38)) ([0, 1] ++ rg 5 14),
        ⟨none, none, .store 6 (.t 51) (.t 46), ([0, 1] ++ rg 5 15)⟩,
        ob 52 (.iaddr 6 (.t 39) (.t 41)) (rg 0 16),
        ⟨none, none, .store 6 (.t 52) (.t 50), (rg 0 17)⟩] true))
    (.reg [o 35 (.mov (.t 9)),
    o 36 (.bin .sub (.t 35) (.c (.int .i64 1))),
    o 9 (.mov (.t 36))] false))
def Qhi : List Nat := [100075, 0, 1, 2, 3, 8]
def Q1a9 : IR :=
  .seq (.seq (.reg [o 12 (.mov (.t 8)),
        o 13 (.mov (.t 2)),
        o 14 (.bin .lss (.t 12) (.t 13))] false)
      (.cond (.t 14) (.skip)
        (.exit 0)))
    (.seq (.block 1 (.seq (.reg [o 17 (.mov (.t 8)),
          o 9 (.mov (.t 17))] false)
        (.block 2 (.loop Qh7 Q19q))))
    (.reg [o 15 (.mov (.t 8)),
    o 16 (.bin .add (.t 15) (.c (.int .i64 1))),
    o 8 (.mov (.t 16))] false))
def Q1ho : IR :=
  .seq (.reg [o 10 (.mov (.t 1)),
    o 11 (.bin .add (.t 10) (.c (.int .i64 1))),
    o 8 (.mov (.t 11))] false)
  (.block 0 (.loop Qhi Q1a9))
def K3s : IFn := ⟨4, 53, [], false, Q1ho⟩
def table : List (Nat × Fun) :=
  [(6, .ir K2),
   (8, .ir K5),
   (9, .ir K27),
   (10, .ir K7),
   (11, .ir Kd),
   (13, .ir Kc),
   (20, .ir K6),
   (21, .ir Ka),
   (23, .ir K26),
   (24, .ir K2l),
   (25, .ir K2b),
   (26, .ir K9),
   (27, .ir K2a),
   (28, .ir Kb),
   (29, .ir K2f),
   (30, .ir K28),
   (31, .ir Kf),
   (32, .ir Ks),
   (33, .ir Ku),
   (36, .ir Kw),
   (37, .ir Kr),
   (38, .ir Kx),
   (39, .ir Kn),
   (40, .ir Ki),
   (41, .ir K11),
   (42, .ir Ky),
   (43, .ir K14),
   (44, .ir Kk),
   (56, .ir K1m),
   (57, .ir K1o),
   (58, .ir K2j),
   (59, .ir K2d),
   (60, .ir K35),
   (61, .ir K3z),
   (62, .ir K1r),
   (63, .ir K1l),
   (64, .ir K3v),
   (65, .ir K3x),
   (66, .ir K1s),
   (67, .ir K1p),
   (68, .ir K22),
   (69, .ir K1f),
   (70, .ir K3b),
   (71, .ir K2w),
   (72, .ir K33),
   (73, .ir K3q),
   (74, .ir K3a),
   (75, .ir K37),
   (76, .ir K2y),
   (77, .ir K23),
   (78, .ir K1g),
   (79, .ir K2z),
   (80, .ax (Qla 2 32)),
   (81, .ax (Qla 5 48)),
   (82, .ax (Qla 1 16)),
   (83, .ax (Qjf 2 40)),
   (84, .ir Kv),
   (85, .ir K16),
   (86, .ir Kg),
   (87, .ir K17),
   (88, .ir Kq),
   (89, .ir K18),
   (90, .ir Km),
   (91, .ir K19),
   (92, .ir Ko),
   (93, .ir K1a),
   (94, .ir Kt),
   (95, .ir K1b),
   (96, .ir K10),
   (97, .ir K1c),
   (98, .ir Kh),
   (106, .ir Kj),
   (107, .ir K1t),
   (108, .ir K1d),
   (109, .ir K41),
   (110, .ir K1u),
   (111, .ir K1k),
   (112, .ir K1v),
   (113, .ir K1h),
   (114, .ir K1w),
   (115, .ir K1i),
   (116, .ir K1x),
   (117, .ir K1n),
   (118, .ir K1y),
   (119, .ir K1q),
   (120, .ir K1z),
   (121, .ir K1e),
   (122, .ir K24),
   (123, .ir K25),
   (124, .ir K2x),
   (125, .ir K3c),
   (126, .ir K2c),
   (127, .ir K30),
   (128, .ir K31),
   (129, .ir K34),
   (130, .ir K38),
   (131, .ir K36),
   (132, .ax (Qjf 6 96)),
   (133, .ir K3r),
   (134, .ir K40),
   (135, .ir K3u),
   (136, .ir K42),
   (137, .ir K3y),
   (138, .ir K39),
   (139, .ir K12),
   (140, .ir Kp),
   (141, .ir K13),
   (142, .ir Kz),
   (145, .ir K3w),
   (146, .ir K20),
   (147, .ir K1j),
   (148, .ir K21),
   (149, .ir K32),
   (150, .ir K2e),
   (151, .ir K3t),
   (152, .cmpstr),
   (153, .ax (Qjf 5 80)),
   (155, .ir K3s)]
end Go.Proofs.YtiflaadeikaghaaGreat.Ir
end

section
/- The printed functions are the given ones. -/
namespace Go.Proofs.YtiflaadeikaghaaGreat
open Go.Pv
theorem c3 : Q17 Tryz.prog Tryz.f3 Ir.K1 = true := by kernel_rfl
theorem c4 : Q17 Tryz.prog Tryz.f4 Ir.K3 = true := by kernel_rfl
theorem c5 : Q17 Tryz.prog Tryz.f5 Ir.K4 = true := by kernel_rfl
theorem c6 : Q17 Tryz.prog Tryz.f6 Ir.K2 = true := by kernel_rfl
theorem c8 : Q17 Tryz.prog Tryz.f8 Ir.K5 = true := by kernel_rfl
theorem c9 : Q17 Tryz.prog Tryz.f9 Ir.K27 = true := by kernel_rfl
theorem c10 : Q17 Tryz.prog Tryz.f10 Ir.K7 = true := by kernel_rfl
theorem c11 : Q17 Tryz.prog Tryz.f11 Ir.Kd = true := by kernel_rfl
theorem c13 : Q17 Tryz.prog Tryz.f13 Ir.Kc = true := by kernel_rfl
theorem c20 : Q17 Tryz.prog Tryz.f20 Ir.K6 = true := by kernel_rfl
theorem c21 : Q17 Tryz.prog Tryz.f21 Ir.Ka = true := by kernel_rfl
theorem c23 : Q17 Tryz.prog Tryz.f23 Ir.K26 = true := by kernel_rfl
theorem c24 : Q17 Tryz.prog Tryz.f24 Ir.K2l = true := by kernel_rfl
theorem c25 : Q17 Tryz.prog Tryz.f25 Ir.K2b = true := by kernel_rfl
theorem c26 : Q17 Tryz.prog Tryz.f26 Ir.K9 = true := by kernel_rfl
theorem c27 : Q17 Tryz.prog Tryz.f27 Ir.K2a = true := by kernel_rfl
theorem c28 : Q17 Tryz.prog Tryz.f28 Ir.Kb = true := by kernel_rfl
theorem c29 : Q17 Tryz.prog Tryz.f29 Ir.K2f = true := by kernel_rfl
theorem c30 : Q17 Tryz.prog Tryz.f30 Ir.K28 = true := by kernel_rfl
theorem c31 : Q17 Tryz.prog Tryz.f31 Ir.Kf = true := by kernel_rfl
theorem c32 : Q17 Tryz.prog Tryz.f32 Ir.Ks = true := by kernel_rfl
theorem c33 : Q17 Tryz.prog Tryz.f33 Ir.Ku = true := by kernel_rfl
theorem c36 : Q17 Tryz.prog Tryz.f36 Ir.Kw = true := by kernel_rfl
theorem c37 : Q17 Tryz.prog Tryz.f37 Ir.Kr = true := by kernel_rfl
theorem c38 : Q17 Tryz.prog Tryz.f38 Ir.Kx = true := by kernel_rfl
theorem c39 : Q17 Tryz.prog Tryz.f39 Ir.Kn = true := by kernel_rfl
theorem c40 : Q17 Tryz.prog Tryz.f40 Ir.Ki = true := by kernel_rfl
theorem c41 : Q17 Tryz.prog Tryz.f41 Ir.K11 = true := by kernel_rfl
theorem c42 : Q17 Tryz.prog Tryz.f42 Ir.Ky = true := by kernel_rfl
theorem c43 : Q17 Tryz.prog Tryz.f43 Ir.K14 = true := by kernel_rfl
theorem c44 : Q17 Tryz.prog Tryz.f44 Ir.Kk = true := by kernel_rfl
theorem c56 : Q17 Tryz.prog Tryz.f56 Ir.K1m = true := by kernel_rfl
theorem c57 : Q17 Tryz.prog Tryz.f57 Ir.K1o = true := by kernel_rfl
theorem c58 : Q17 Tryz.prog Tryz.f58 Ir.K2j = true := by kernel_rfl
theorem c59 : Q17 Tryz.prog Tryz.f59 Ir.K2d = true := by kernel_rfl
theorem c60 : Q17 Tryz.prog Tryz.f60 Ir.K35 = true := by kernel_rfl
theorem c61 : Q17 Tryz.prog Tryz.f61 Ir.K3z = true := by kernel_rfl
theorem c62 : Q17 Tryz.prog Tryz.f62 Ir.K1r = true := by kernel_rfl
theorem c63 : Q17 Tryz.prog Tryz.f63 Ir.K1l = true := by kernel_rfl
theorem c64 : Q17 Tryz.prog Tryz.f64 Ir.K3v = true := by kernel_rfl
theorem c65 : Q17 Tryz.prog Tryz.f65 Ir.K3x = true := by kernel_rfl
theorem c66 : Q17 Tryz.prog Tryz.f66 Ir.K1s = true := by kernel_rfl
theorem c67 : Q17 Tryz.prog Tryz.f67 Ir.K1p = true := by kernel_rfl
theorem c68 : Q17 Tryz.prog Tryz.f68 Ir.K22 = true := by kernel_rfl
theorem c69 : Q17 Tryz.prog Tryz.f69 Ir.K1f = true := by kernel_rfl
theorem c70 : Q17 Tryz.prog Tryz.f70 Ir.K3b = true := by kernel_rfl
theorem c71 : Q17 Tryz.prog Tryz.f71 Ir.K2w = true := by kernel_rfl
theorem c72 : Q17 Tryz.prog Tryz.f72 Ir.K33 = true := by kernel_rfl
theorem c73 : Q17 Tryz.prog Tryz.f73 Ir.K3q = true := by kernel_rfl
theorem c74 : Q17 Tryz.prog Tryz.f74 Ir.K3a = true := by kernel_rfl
theorem c75 : Q17 Tryz.prog Tryz.f75 Ir.K37 = true := by kernel_rfl
theorem c76 : Q17 Tryz.prog Tryz.f76 Ir.K2y = true := by kernel_rfl
theorem c77 : Q17 Tryz.prog Tryz.f77 Ir.K23 = true := by kernel_rfl
theorem c78 : Q17 Tryz.prog Tryz.f78 Ir.K1g = true := by kernel_rfl
theorem c79 : Q17 Tryz.prog Tryz.f79 Ir.K2z = true := by kernel_rfl
theorem c84 : Q17 Tryz.prog Tryz.f84 Ir.Kv = true := by kernel_rfl
theorem c85 : Q17 Tryz.prog Tryz.f85 Ir.K16 = true := by kernel_rfl
theorem c86 : Q17 Tryz.prog Tryz.f86 Ir.Kg = true := by kernel_rfl
theorem c87 : Q17 Tryz.prog Tryz.f87 Ir.K17 = true := by kernel_rfl
theorem c88 : Q17 Tryz.prog Tryz.f88 Ir.Kq = true := by kernel_rfl
theorem c89 : Q17 Tryz.prog Tryz.f89 Ir.K18 = true := by kernel_rfl
theorem c90 : Q17 Tryz.prog Tryz.f90 Ir.Km = true := by kernel_rfl
theorem c91 : Q17 Tryz.prog Tryz.f91 Ir.K19 = true := by kernel_rfl
theorem c92 : Q17 Tryz.prog Tryz.f92 Ir.Ko = true := by kernel_rfl
theorem c93 : Q17 Tryz.prog Tryz.f93 Ir.K1a = true := by kernel_rfl
theorem c94 : Q17 Tryz.prog Tryz.f94 Ir.Kt = true := by kernel_rfl
theorem c95 : Q17 Tryz.prog Tryz.f95 Ir.K1b = true := by kernel_rfl
theorem c96 : Q17 Tryz.prog Tryz.f96 Ir.K10 = true := by kernel_rfl
theorem c97 : Q17 Tryz.prog Tryz.f97 Ir.K1c = true := by kernel_rfl
theorem c98 : Q17 Tryz.prog Tryz.f98 Ir.Kh = true := by kernel_rfl
theorem c106 : Q17 Tryz.prog Tryz.f106 Ir.Kj = true := by kernel_rfl
theorem c107 : Q17 Tryz.prog Tryz.f107 Ir.K1t = true := by kernel_rfl
theorem c108 : Q17 Tryz.prog Tryz.f108 Ir.K1d = true := by kernel_rfl
theorem c109 : Q17 Tryz.prog Tryz.f109 Ir.K41 = true := by kernel_rfl
theorem c110 : Q17 Tryz.prog Tryz.f110 Ir.K1u = true := by kernel_rfl
theorem c111 : Q17 Tryz.prog Tryz.f111 Ir.K1k = true := by kernel_rfl
theorem c112 : Q17 Tryz.prog Tryz.f112 Ir.K1v = true := by kernel_rfl
theorem c113 : Q17 Tryz.prog Tryz.f113 Ir.K1h = true := by kernel_rfl
theorem c114 : Q17 Tryz.prog Tryz.f114 Ir.K1w = true := by kernel_rfl
theorem c115 : Q17 Tryz.prog Tryz.f115 Ir.K1i = true := by kernel_rfl
theorem c116 : Q17 Tryz.prog Tryz.f116 Ir.K1x = true := by kernel_rfl
theorem c117 : Q17 Tryz.prog Tryz.f117 Ir.K1n = true := by kernel_rfl
theorem c118 : Q17 Tryz.prog Tryz.f118 Ir.K1y = true := by kernel_rfl
theorem c119 : Q17 Tryz.prog Tryz.f119 Ir.K1q = true := by kernel_rfl
theorem c120 : Q17 Tryz.prog Tryz.f120 Ir.K1z = true := by kernel_rfl
theorem c121 : Q17 Tryz.prog Tryz.f121 Ir.K1e = true := by kernel_rfl
theorem c122 : Q17 Tryz.prog Tryz.f122 Ir.K24 = true := by kernel_rfl
theorem c123 : Q17 Tryz.prog Tryz.f123 Ir.K25 = true := by kernel_rfl
theorem c124 : Q17 Tryz.prog Tryz.f124 Ir.K2x = true := by kernel_rfl
theorem c125 : Q17 Tryz.prog Tryz.f125 Ir.K3c = true := by kernel_rfl
theorem c126 : Q17 Tryz.prog Tryz.f126 Ir.K2c = true := by kernel_rfl
theorem c127 : Q17 Tryz.prog Tryz.f127 Ir.K30 = true := by kernel_rfl
theorem c128 : Q17 Tryz.prog Tryz.f128 Ir.K31 = true := by kernel_rfl
theorem c129 : Q17 Tryz.prog Tryz.f129 Ir.K34 = true := by kernel_rfl
theorem c130 : Q17 Tryz.prog Tryz.f130 Ir.K38 = true := by kernel_rfl
theorem c131 : Q17 Tryz.prog Tryz.f131 Ir.K36 = true := by kernel_rfl
theorem c133 : Q17 Tryz.prog Tryz.f133 Ir.K3r = true := by kernel_rfl
theorem c134 : Q17 Tryz.prog Tryz.f134 Ir.K40 = true := by kernel_rfl
theorem c135 : Q17 Tryz.prog Tryz.f135 Ir.K3u = true := by kernel_rfl
theorem c136 : Q17 Tryz.prog Tryz.f136 Ir.K42 = true := by kernel_rfl
theorem c137 : Q17 Tryz.prog Tryz.f137 Ir.K3y = true := by kernel_rfl
theorem c138 : Q17 Tryz.prog Tryz.f138 Ir.K39 = true := by kernel_rfl
theorem c139 : Q17 Tryz.prog Tryz.f139 Ir.K12 = true := by kernel_rfl
theorem c140 : Q17 Tryz.prog Tryz.f140 Ir.Kp = true := by kernel_rfl
theorem c141 : Q17 Tryz.prog Tryz.f141 Ir.K13 = true := by kernel_rfl
theorem c142 : Q17 Tryz.prog Tryz.f142 Ir.Kz = true := by kernel_rfl
theorem c145 : Q17 Tryz.prog Tryz.f145 Ir.K3w = true := by kernel_rfl
theorem c146 : Q17 Tryz.prog Tryz.f146 Ir.K20 = true := by kernel_rfl
theorem c147 : Q17 Tryz.prog Tryz.f147 Ir.K1j = true := by kernel_rfl
theorem c148 : Q17 Tryz.prog Tryz.f148 Ir.K21 = true := by kernel_rfl
theorem c149 : Q17 Tryz.prog Tryz.f149 Ir.K32 = true := by kernel_rfl
theorem c150 : Q17 Tryz.prog Tryz.f150 Ir.K2e = true := by kernel_rfl
theorem c151 : Q17 Tryz.prog Tryz.f151 Ir.K3t = true := by kernel_rfl
theorem c155 : Q17 Tryz.prog Tryz.f155 Ir.K3s = true := by kernel_rfl
theorem k80 : Q5e Tryz.prog Tryz.f80 2 32 [.str ⟨#[]⟩, .str ⟨#[]⟩] = true := by kernel_rfl
theorem k81 : Q5e Tryz.prog Tryz.f81 5 48 [.str ⟨#[]⟩, .str ⟨#[]⟩, .int .i64 0, .bool false, .bool false] = true := by kernel_rfl
theorem k82 : Q5e Tryz.prog Tryz.f82 1 16 [.str ⟨#[]⟩] = true := by kernel_rfl
theorem k83 : Q5e Tryz.prog Tryz.f83 2 40 [.str ⟨#[]⟩, .ns 1] = true := by kernel_rfl
theorem k132 : Q5e Tryz.prog Tryz.f132 6 96 [.str ⟨#[]⟩, .int .i64 0, .int .i64 0, .str ⟨#[]⟩, .ns 5, .ns 6] = true := by kernel_rfl
theorem k153 : Q5e Tryz.prog Tryz.f153 5 80 [.int .i64 0, .int .i64 0, .str ⟨#[]⟩, .ns 5, .ns 6] = true := by kernel_rfl
theorem mixed : Tryz.prog.follows .mixedOrders = true := by kernel_rfl
theorem own : ownKnob Tryz.prog.godebug = none := by kernel_rfl
theorem laidOut : laidOutB Tryz.prog = true := by kernel_rfl
theorem tie (cmp : Q18h Tryz.prog 152) : Tie Tryz.prog (tabG Ir.table) :=
  Qq Tryz.func6 c6 <| Qq Tryz.func8 c8 <| Qq Tryz.func9 c9 <| Qq Tryz.func10 c10 <| Qq Tryz.func11 c11 <| Qq Tryz.func13 c13 <| Qq Tryz.func20 c20 <| Qq Tryz.func21 c21 <| Qq Tryz.func23 c23 <| Qq Tryz.func24 c24 <| Qq Tryz.func25 c25 <| Qq Tryz.func26 c26 <| Qq Tryz.func27 c27 <| Qq Tryz.func28 c28 <| Qq Tryz.func29 c29 <| Qq Tryz.func30 c30 <| Qq Tryz.func31 c31 <| Qq Tryz.func32 c32 <| Qq Tryz.func33 c33 <| Qq Tryz.func36 c36 <| Qq Tryz.func37 c37 <| Qq Tryz.func38 c38 <| Qq Tryz.func39 c39 <| Qq Tryz.func40 c40 <| Qq Tryz.func41 c41 <| Qq Tryz.func42 c42 <| Qq Tryz.func43 c43 <| Qq Tryz.func44 c44 <| Qq Tryz.func56 c56 <| Qq Tryz.func57 c57 <| Qq Tryz.func58 c58 <| Qq Tryz.func59 c59 <| Qq Tryz.func60 c60 <| Qq Tryz.func61 c61 <| Qq Tryz.func62 c62 <| Qq Tryz.func63 c63 <| Qq Tryz.func64 c64 <| Qq Tryz.func65 c65 <| Qq Tryz.func66 c66 <| Qq Tryz.func67 c67 <| Qq Tryz.func68 c68 <| Qq Tryz.func69 c69 <| Qq Tryz.func70 c70 <| Qq Tryz.func71 c71 <| Qq Tryz.func72 c72 <| Qq Tryz.func73 c73 <| Qq Tryz.func74 c74 <| Qq Tryz.func75 c75 <| Qq Tryz.func76 c76 <| Qq Tryz.func77 c77 <| Qq Tryz.func78 c78 <| Qq Tryz.func79 c79 <| (fun h => Q8v h (Qh1 mixed Tryz.func80 k80)) <| (fun h => Q8v h (Qh1 mixed Tryz.func81 k81)) <| (fun h => Q8v h (Qh1 mixed Tryz.func82 k82)) <| (fun h => Q8v h (Qq4 mixed Tryz.func83 k83)) <| Qq Tryz.func84 c84 <| Qq Tryz.func85 c85 <| Qq Tryz.func86 c86 <| Qq Tryz.func87 c87 <| Qq Tryz.func88 c88 <| Qq Tryz.func89 c89 <| Qq Tryz.func90 c90 <| Qq Tryz.func91 c91 <| Qq Tryz.func92 c92 <| Qq Tryz.func93 c93 <| Qq Tryz.func94 c94 <| Qq Tryz.func95 c95 <| Qq Tryz.func96 c96 <| Qq Tryz.func97 c97 <| Qq Tryz.func98 c98 <| Qq Tryz.func106 c106 <| Qq Tryz.func107 c107 <| Qq Tryz.func108 c108 <| Qq Tryz.func109 c109 <| Qq Tryz.func110 c110 <| Qq Tryz.func111 c111 <| Qq Tryz.func112 c112 <| Qq Tryz.func113 c113 <| Qq Tryz.func114 c114 <| Qq Tryz.func115 c115 <| Qq Tryz.func116 c116 <| Qq Tryz.func117 c117 <| Qq Tryz.func118 c118 <| Qq Tryz.func119 c119 <| Qq Tryz.func120 c120 <| Qq Tryz.func121 c121 <| Qq Tryz.func122 c122 <| Qq Tryz.func123 c123 <| Qq Tryz.func124 c124 <| Qq Tryz.func125 c125 <| Qq Tryz.func126 c126 <| Qq Tryz.func127 c127 <| Qq Tryz.func128 c128 <| Qq Tryz.func129 c129 <| Qq Tryz.func130 c130 <| Qq Tryz.func131 c131 <| (fun h => Q8v h (Qq4 mixed Tryz.func132 k132)) <| Qq Tryz.func133 c133 <| Qq Tryz.func134 c134 <| Qq Tryz.func135 c135 <| Qq Tryz.func136 c136 <| Qq Tryz.func137 c137 <| Qq Tryz.func138 c138 <| Qq Tryz.func139 c139 <| Qq Tryz.func140 c140 <| Qq Tryz.func141 c141 <| Qq Tryz.func142 c142 <| Qq Tryz.func145 c145 <| Qq Tryz.func146 c146 <| Qq Tryz.func147 c147 <| Qq Tryz.func148 c148 <| Qq Tryz.func149 c149 <| Qq Tryz.func150 c150 <| Qq Tryz.func151 c151 <| (fun h => Q8v h cmp) <| (fun h => Q8v h (Qq4 mixed Tryz.func153 k153)) <| Qq Tryz.func155 c155 <| Q1cf
end Go.Proofs.YtiflaadeikaghaaGreat
end

section
/-
  Runs along a trace, over views: operations, regions, code, calls, loops' rounds.
-/
namespace Go.Pv
def Seen (o : Option Ob) (rows : List (List PV)) : Prop := ∃ ob, o = some ob ∧ ViewOK ob.sz ob.cells rows
theorem Q3j {ob : Ob} {rows : List (List PV)} (h : ViewOK ob.sz ob.cells rows) : Seen (some ob) rows := ⟨ob, rfl, h⟩
def putV (vw : Views) (cut : List Nat) (new : Views) : Views := new ++ vw.filter fun x => !(has cut x.1)
theorem Qwo {vw : Views} {cut : List Nat} {id : Nat} {rows : List (List PV)} (h : look (vw.filter fun x => !(has cut x.1)) id = some rows) : look vw id = some rows ∧ has cut id = false := by
  induction vw with
  | nil => cases h
  | cons x r ih =>
    obtain ⟨k, rs⟩ := x
    simp only [List.filter_cons] at h
    cases hc : has cut k with
    | true =>
      rw [hc] at h
      simp only [Bool.not_true, Bool.false_eq_true, if_false] at h
      obtain ⟨h1, h2⟩ := ih h
      refine ⟨?_, h2⟩
      simp only [look]
      cases c : Nat.beq k id with
      | true =>
        have := Nat.eq_of_beq_eq_true c
        subst this
        rw [hc] at h2
        cases h2
      | false => exact h1
    | false =>
      rw [hc] at h
      simp only [Bool.not_false, if_true, look] at h ⊢
      cases c : Nat.beq k id with
      | true =>
        rw [c] at h
        have := Nat.eq_of_beq_eq_true c
        subst this
        exact ⟨h, hc⟩
      | false =>
        rw [c] at h
        exact ih h
theorem Qtf {l : List Nat} {id : Nat} (h : has l id = false) : id ∉ l := by
  induction l with
  | nil => exact List.not_mem_nil
  | cons k r ih =>
    simp only [has] at h
    cases c : Nat.beq k id with
    | true => rw [c] at h; cases h
    | false =>
      rw [c] at h
      simp only [cond_false] at h
      intro hm
      rcases List.mem_cons.1 hm with rfl | hm
      · simp at c
      · exact ih h hm
theorem Qid {vw new : Views} {cut : List Nat} {id : Nat} {rows : List (List PV)} (h : look (putV vw cut new) id = some rows) : look new id = some rows ∨ (look vw id = some rows ∧ id ∉ cut) := by
  unfold putV at h
  rw [Qpm] at h
  cases hn : look new id with
  | some r => rw [hn] at h; exact .inl h
  | none =>
    rw [hn] at h
    obtain ⟨h1, h2⟩ := Qwo h
    exact .inr ⟨h1, Qtf h2⟩
theorem Qwd {α : Type} {l : List (Nat × α)} {id : Nat} {x : α} (h : look l id = some x) : (id, x) ∈ l := by
  induction l with
  | nil => cases h
  | cons y r ih =>
    obtain ⟨k, z⟩ := y
    simp only [look] at h
    cases c : Nat.beq k id with
    | true =>
      rw [c] at h
      have := Nat.eq_of_beq_eq_true c
      subst this
      simp only [cond_true, Option.some.injEq] at h
      subst h
      exact List.mem_cons_self
    | false =>
      rw [c] at h
      exact List.mem_cons_of_mem _ (ih h)
def Turned (H : Nat → Option Ob) (vw : Views) (e : EV) : Prop := VOK (upH H e.eff.hw) (putV vw e.cut e.new)
theorem Q10i {ws : List (Nat × Option Ob)} {H : Nat → Option Ob} {id : Nat} {o : Option Ob} (hn : (ws.map (·.1)).Nodup) (h : (id, o) ∈ ws) : upH H ws id = o := by
  induction ws generalizing H with
  | nil => cases h
  | cons x r ih =>
    obtain ⟨k, z⟩ := x
    simp only [List.map_cons, List.nodup_cons] at hn
    rw [upH]
    rcases List.mem_cons.1 h with e | h
    · injection e with e1 e2
      subst e1 e2
      rw [Q65 (fun y hy e => hn.1 (by rw [← e]; exact List.mem_map_of_mem hy))]
      simp
    · exact ih hn.2 h
def nodupB : List Nat → Bool
  | [] => true
  | k :: r => !(has r k) && nodupB r
theorem Qti : ∀ {l : List Nat}, nodupB l = true → l.Nodup
  | [], _ => List.nodup_nil
  | k :: r, h => by
    simp only [nodupB, Bool.and_eq_true, Bool.not_eq_true'] at h
    exact List.nodup_cons.2 ⟨Qtf h.1, Qti h.2⟩
theorem Qvi {H : Nat → Option Ob} : ∀ (l : List Nat) (cl : List (Nat × Option Ob)), shut H l = some cl → ∀ id o, (id, o) ∈ cl → ∃ ob ob', H id = some ob ∧ o = some ob' ∧ ob'.sz = ob.sz ∧ ob'.cells = ob.cells
  | [], cl, h, id, o, hm => by
    simp only [shut, Option.some.injEq] at h
    subst h
    cases hm
  | k :: r, cl, h, id, o, hm => by
    simp only [shut] at h
    obtain ⟨ob, hob, h⟩ := Qj h
    obtain ⟨m, hm', h⟩ := Qj h
    simp only [Option.some.injEq] at h
    subst h
    rcases List.mem_cons.1 hm with e | hm
    · injection e with e1 e2
      subst e1 e2
      exact ⟨ob, _, hob, rfl, rfl, rfl⟩
    · exact Qvi r m hm' id o hm
def Q17n (H : Nat → Option Ob) (vw : Views) (fr : Nat) (byRef : Bool) (f : Nat) (args : List PV) (az : List Ans) : Option EV :=
  (Q1a8 H vw fr byRef f args az).bind fun e => bif nodupB (e.eff.hw.map (·.1)) then some e else none
theorem Qt0 {G : Nat → Option Fun} {H : Nat → Option Ob} {vw : Views} (hv : VOK H vw) {fr : Nat} {byRef : Bool} {f : Nat} {args : List PV} {az : List Ans} {e : EV} (h : Q17n H vw fr byRef f args az = some e) (hm : Met e.owed) (hq : Told G e.asked) : Qdu (lim G) H fr byRef f args = some e.eff ∧ Turned H vw e := by
  unfold Q17n at h
  obtain ⟨e', h0, h'⟩ := Qj h
  clear h
  cases hnd : nodupB (e'.eff.hw.map (·.1)) with
  | false => rw [hnd] at h'; cases h'
  | true =>
  rw [hnd] at h'
  simp only [cond_true, Option.some.injEq] at h'
  subst h'
  have hnd := Qti hnd
  unfold Q1a8 at h0
  unfold Qdu
  obtain ⟨y, hy, h⟩ := Qj h0
  clear h0
  obtain ⟨z, hz, h⟩ := Qj h
  simp only at h
  cases hd : disj (y.1.2.2 ++ z.1.2.2) z.1.2.1 with
  | false => rw [hd] at h; cases h
  | true =>
    rw [hd] at h
    simp only [cond_true] at h
    cases az with
    | nil => cases h
    | cons a az' =>
      obtain ⟨r, avw⟩ := a
      cases r with
      | st _ _ => cases h
      | ret v hh =>
        simp only at h
        cases hb : (Nat.ble z.1.2.1.length hh.length && Nat.ble (hh.length - z.1.2.1.length) 64) with
        | false => rw [hb] at h; cases h
        | true =>
          rw [hb] at h
          simp only [cond_true] at h
          obtain ⟨v', hv', h⟩ := Qj h
          obtain ⟨ws, hws, h⟩ := Qj h
          have key : ∀ (hy' : Met y.2) (hz' : Met z.2) (hw' : Met ws.2.1) (ht : Q6 G (.call f y.1.1 z.1.1) (.ret v hh)) (E : Eff),
              (bif flat 8 v && hh.all (fun ob => ob.cells.all (flat 8)) then some ⟨v', ws.1, z.1.2.1 ++ (y.1.2.2 ++ z.1.2.2)⟩ else (shut H (y.1.2.2 ++ z.1.2.2)).bind fun cl => some ⟨v', ws.1 ++ cl, z.1.2.1 ++ (y.1.2.2 ++ z.1.2.2)⟩) = some E →
              ((Q4t (pass H byRef 8) args []).bind fun y => (Q2i H false false 16 0 y.2.1).bind fun z =>
                let ids := z.2.1
                let lent := y.2.2 ++ z.2.2
                bif disj lent ids then
                  (lim G (.call f y.1 z.1)).bind fun r =>
                    match r with
                    | .ret v h =>
                      bif Nat.ble ids.length h.length && Nat.ble (h.length - ids.length) 64 then
                        (back (ren ids fr) 8 v).bind fun v' => (Q7m (ren ids fr) 0 h).bind fun ws =>
                          bif flat 8 v && h.all (fun ob => ob.cells.all (flat 8)) then some ⟨v', ws, ids ++ lent⟩
                          else (shut H lent).bind fun cl => some ⟨v', ws ++ cl, ids ++ lent⟩
                      else none
                    | _ => none
                else none) = some E := by
            intro hy' hz' hw' ht E hE
            rw [Q31 (Q68 hv 8) _ _ y hy hy', Option.bind_some, Q43 hv 16 _ _ z hz hz', Option.bind_some]
            simp only
            rw [hd]
            simp only [cond_true]
            rw [Q1ar ht, Option.bind_some]
            simp only
            rw [hb]
            simp only [cond_true]
            rw [hv', Option.bind_some, Q6v hh 0 ws hws hw', Option.bind_some]
            exact hE
          have turn : ∀ (cl : List (Nat × Option Ob)) (hcl : ∀ id o, (id, o) ∈ cl → ∃ ob ob', H id = some ob ∧ o = some ob' ∧ ob'.sz = ob.sz ∧ ob'.cells = ob.cells) (hn : ((ws.1 ++ cl).map (·.1)).Nodup) (hw' : Met ws.2.1) , VOK (upH H (ws.1 ++ cl)) (putV vw (ws.1.map (·.1)) ws.2.2) := by
            intro cl hcl hn hw' id rows hl
            rcases Qid hl with hl | ⟨hl, hc⟩
            · obtain ⟨ob, hob, hok⟩ := Q70 hh 0 ws hws hw' id rows (Qwd hl)
              exact ⟨ob, Q10i hn (List.mem_append_left _ hob), hok⟩
            · obtain ⟨ob, hob, hok⟩ := hv id rows hl
              by_cases hx : ∃ o, (id, o) ∈ cl
              · obtain ⟨o, ho⟩ := hx
                obtain ⟨ob1, ob', h1, rfl, h2, h3⟩ := hcl id o ho
                rw [hob] at h1
                injection h1 with h1
                subst h1
                refine ⟨ob', Q10i hn (List.mem_append_right _ ho), ?_⟩
                rw [h2, h3]
                exact hok
              · refine ⟨ob, ?_, hok⟩
                rw [Q65 (fun y hy e => ?_)]
                · exact hob
                · rcases List.mem_append.1 hy with hy | hy
                  · exact hc (by rw [← e]; exact List.mem_map_of_mem hy)
                  · exact hx ⟨y.2, by rw [← e]; exact hy⟩
          cases hlent : y.1.2.2 ++ z.1.2.2 with
          | nil =>
            rw [hlent] at h
            simp only [Option.some.injEq] at h
            subst h
            simp only at hm hq hnd
            refine ⟨key hm.left hm.right.left hm.right.right (hq _ List.mem_cons_self) _ ?_, ?_⟩
            · rw [hlent]
              cases (flat 8 v && hh.all (fun ob => ob.cells.all (flat 8))) <;> simp [shut]
            · have := turn [] (fun _ _ h => by cases h) (by simpa using hnd) hm.right.right
              rw [List.append_nil] at this
              exact this
          | cons l0 lr =>
            rw [hlent] at h
            simp only at h
            cases hf : (flat 8 v && hh.all (fun ob => ob.cells.all (flat 8))) with
            | true =>
              rw [hf] at h
              simp only [cond_true, Option.some.injEq] at h
              subst h
              simp only at hm hq hnd
              refine ⟨key hm.left hm.right.left hm.right.right (hq _ List.mem_cons_self) _ ?_, ?_⟩
              · rw [hlent, hf]
                rfl
              · have := turn [] (fun _ _ h => by cases h) (by simpa using hnd) hm.right.right
                rw [List.append_nil] at this
                exact this
            | false =>
              rw [hf] at h
              simp only [cond_false] at h
              obtain ⟨cl, hcl, h⟩ := Qj h
              simp only [Option.some.injEq] at h
              subst h
              simp only at hm hq hnd
              refine ⟨key hm.left hm.right.left hm.right.right (hq _ List.mem_cons_self) _ ?_, ?_⟩
              · rw [hlent, hf]
                simp only [cond_false]
                rw [hcl, Option.bind_some]
              · exact turn cl (Qvi _ _ hcl) hnd hm.right.right
def mute : Orc := fun _ => none
theorem Q108 {X : Orc} {e : Nat → PV} {H : Nat → Option Ob} {fr : Nat} {o : IOp} {x : Eff} (h : iop mute e H fr o = some x) : iop X e H fr o = some x := by
  cases o with
  | call b f xs =>
    simp only [iop] at h
    obtain ⟨t, _, h⟩ := Qj h
    unfold Qdu at h
    obtain ⟨y, _, h⟩ := Qj h
    obtain ⟨z, _, h⟩ := Qj h
    simp only at h
    cases hd : disj (y.2.2 ++ z.2.2) z.2.1 with
    | false => rw [hd] at h; cases h
    | true =>
      rw [hd] at h
      simp only [cond_true] at h
      obtain ⟨_, h, _⟩ := Qj h
      cases h
  | _ => exact h
theorem Q14b {X : Orc} {e : Nat → PV} {H : Nat → Option Ob} {fr : Nat} {o : IOper} {x : Eff} (h : Q6z mute e H fr o = some x) : Q6z X e H fr o = some x := by
  unfold Q6z at h ⊢
  obtain ⟨w, hw, h⟩ := Qj h
  rw [hw, Option.bind_some]
  cases w with
  | true => exact Q108 h
  | false => exact h
def iopV (e : Nat → PV) (H : Nat → Option Ob) (vw : Views) (fr : Nat) (az : List Ans) : IOp → Option EV
  | .call byRef f args => (target (f.ev e) (evs e args)).bind fun t => Q17n H vw fr byRef t.1 t.2 az
  | o => (iop mute e H fr o).bind fun x => some ⟨x, x.hw.map (·.1), [], az, [], []⟩
def Q101 (e : Nat → PV) (H : Nat → Option Ob) (vw : Views) (fr : Nat) (az : List Ans) (o : IOper) : Option EV :=
  (o.wanted e).bind fun w => bif w then iopV e H vw fr az o.op else some ⟨⟨.tup [], [], []⟩, [], [], az, [], []⟩
theorem Qde {H : Nat → Option Ob} {vw : Views} (hv : VOK H vw) {x : Eff} {az : List Ans} : Turned H vw ⟨x, x.hw.map (·.1), [], az, [], []⟩ := by
  intro id rows hl
  rcases Qid hl with hl | ⟨hl, hc⟩
  · cases hl
  · obtain ⟨ob, hob, hok⟩ := hv id rows hl
    refine ⟨ob, ?_, hok⟩
    rw [Q65 (fun y hy e => hc (by rw [← e]; exact List.mem_map_of_mem hy))]
    exact hob
theorem Qdg {G : Nat → Option Fun} {e : Nat → PV} {H : Nat → Option Ob} {vw : Views} (hv : VOK H vw) {fr : Nat} {az : List Ans} {o : IOper} {y : EV} (h : Q101 e H vw fr az o = some y) (hm : Met y.owed) (hq : Told G y.asked) : Q6z (lim G) e H fr o = some y.eff ∧ Turned H vw y := by
  unfold Q101 at h
  obtain ⟨w, hw, h⟩ := Qj h
  unfold Q6z
  rw [hw, Option.bind_some]
  cases w with
  | false =>
    simp only [cond_false, Option.some.injEq] at h
    subst h
    exact ⟨rfl, Qde hv (x := ⟨.tup [], [], []⟩)⟩
  | true =>
    simp only [cond_true] at h ⊢
    have gen : ((iop mute e H fr o.op).bind fun x => some (⟨x, x.hw.map (·.1), [], az, [], []⟩ : EV)) = some y → iop (lim G) e H fr o.op = some y.eff ∧ Turned H vw y := by
      intro h
      obtain ⟨x, hx, h⟩ := Qj h
      simp only [Option.some.injEq] at h
      subst h
      exact ⟨Q108 hx, Qde hv⟩
    cases ho : o.op with
    | call b f xs =>
      rw [ho] at h
      simp only [iopV] at h
      obtain ⟨t, ht, h⟩ := Qj h
      simp only [iop]
      rw [ht, Option.bind_some]
      exact Qt0 hv h hm hq
    | _ =>
      rw [ho] at h gen
      exact gen h
abbrev Q6i := List (Nat × (Eff × Views))
structure TV where
  env : List PV
  heap : List (Nat × Ob)
  vw : Views
  effs : List Eff
  hs : Q6i
  az : List Ans
  owed : List Prop
  asked : Q9y
def nobody : Nat → Option Ob := fun _ => none
def Qs3 (nx : Nat) : Nat → List IOper → Q6i → List Ans → List PV → List (Nat × Ob) → Views → Option TV
  | _, [], hs, az, env, h, vw => some ⟨env, h, vw, [], hs, az, [], []⟩
  | i, o :: r, hs, az, env, h, vw =>
    match hs with
    | [] => (Q101 (envF env) (look h) vw (nx + 64 * i) az o).bind fun x => (Qs3 nx (i + 1) r [] x.az (put env o.dst x.eff.v) (hput h x.eff.hw) (putV vw x.cut x.new)).bind fun y => some ⟨y.env, y.heap, y.vw, x.eff :: y.effs, y.hs, y.az, x.owed ++ y.owed, x.asked ++ y.asked⟩
    | (k + 1, z) :: hs' => (Q101 (envF env) (look h) vw (nx + 64 * i) az o).bind fun x => (Qs3 nx (i + 1) r ((k, z) :: hs') x.az (put env o.dst x.eff.v) (hput h x.eff.hw) (putV vw x.cut x.new)).bind fun y => some ⟨y.env, y.heap, y.vw, x.eff :: y.effs, y.hs, y.az, x.owed ++ y.owed, x.asked ++ y.asked⟩
    | (0, x) :: hs' => (Qs3 nx (i + 1) r hs' az (put env o.dst x.1.v) (hput h x.1.hw) (putV vw (x.1.hw.map (·.1)) x.2)).bind fun y => some ⟨y.env, y.heap, y.vw, x.1 :: y.effs, y.hs, y.az, (Q6z mute (envF env) (look h) (nx + 64 * i) o = some x.1) :: ((x.2.map fun p => Seen (upH nobody x.1.hw p.1) p.2) ++ y.owed), y.asked⟩
theorem VOK.turned {h : List (Nat × Ob)} {vw : Views} {y : EV} (ht : Turned (look h) vw y) : VOK (look (hput h y.eff.hw)) (putV vw y.cut y.new) := by
  rw [Q62]
  exact ht
theorem Q12i {ws : List (Nat × Option Ob)} {H : Nat → Option Ob} {id : Nat} {ob : Ob} (h : upH nobody ws id = some ob) : upH H ws id = some ob := by
  by_cases c : ∃ x ∈ ws, x.1 = id
  · rw [Qkw (H' := nobody) c]
    exact h
  · rw [Q65 (fun y hy e => c ⟨y, hy, e⟩)] at h
    cases h
theorem Ql2 {G : Nat → Option Fun} {nx : Nat} : ∀ (ops : List IOper) (i : Nat) (hs : Q6i) (az : List Ans) (env : List PV) (h : List (Nat × Ob)) (vw : Views) (t : TV), Qs3 nx i ops hs az env h vw = some t → VOK (look h) vw → Met t.owed → Told G t.asked → Q54 (lim G) nx i ops env h = some (t.env, t.heap, t.effs) ∧ VOK (look t.heap) t.vw
  | [], i, hs, az, env, h, vw, t, ht, hv, _, _ => by
    simp only [Qs3, Option.some.injEq] at ht
    subst ht
    exact ⟨rfl, hv⟩
  | o :: r, i, hs, az, env, h, vw, t, ht, hv, hm, hq => by
    have go : ∀ (x : EV) (hs' : Q6i) (vw' : Views), Q6z (lim G) (envF env) (look h) (nx + 64 * i) o = some x.eff → VOK (look (hput h x.eff.hw)) vw' → ∀ (y : TV), Qs3 nx (i + 1) r hs' x.az (put env o.dst x.eff.v) (hput h x.eff.hw) vw' = some y → Met y.owed → Told G y.asked → y.env = t.env → y.heap = t.heap → y.vw = t.vw → x.eff :: y.effs = t.effs → Q54 (lim G) nx i (o :: r) env h = some (t.env, t.heap, t.effs) ∧ VOK (look t.heap) t.vw := by
      intro x hs' vw' hx hvx y hy hmy hqy e1 e2 e3 e4
      obtain ⟨r1, r2⟩ := Ql2 r (i + 1) hs' _ _ _ _ y hy hvx hmy hqy
      simp only [Q54]
      rw [hx, Option.bind_some, r1, Option.bind_some, ← e1, ← e2, ← e3, ← e4]
      exact ⟨rfl, r2⟩
    unfold Qs3 at ht
    split at ht
    · obtain ⟨x, hx, ht⟩ := Qj ht
      obtain ⟨y, hy, ht⟩ := Qj ht
      simp only [Option.some.injEq] at ht
      subst ht
      obtain ⟨s1, s2⟩ := Qdg hv hx hm.left hq.left
      exact go x _ _ s1 (VOK.turned s2) y hy hm.right hq.right rfl rfl rfl rfl
    · obtain ⟨x, hx, ht⟩ := Qj ht
      obtain ⟨y, hy, ht⟩ := Qj ht
      simp only [Option.some.injEq] at ht
      subst ht
      obtain ⟨s1, s2⟩ := Qdg hv hx hm.left hq.left
      exact go x _ _ s1 (VOK.turned s2) y hy hm.right hq.right rfl rfl rfl rfl
    · rename_i x hs'
      obtain ⟨y, hy, ht⟩ := Qj ht
      simp only [Option.some.injEq] at ht
      subst ht
      have hx : Q6z (lim G) (envF env) (look h) (nx + 64 * i) o = some x.1 := Q14b hm.head
      have hseen : Met (x.2.map fun p => Seen (upH nobody x.1.hw p.1) p.2) := hm.tail.left
      have hvx : VOK (look (hput h x.1.hw)) (putV vw (x.1.hw.map (·.1)) x.2) := by
        rw [Q62]
        intro id rows hl
        rcases Qid hl with hl | ⟨hl, hc⟩
        · obtain ⟨ob, hob, hok⟩ := hseen _ (List.mem_map_of_mem (f := fun p : Nat × List (List PV) => Seen (upH nobody x.1.hw p.1) p.2) (Qwd hl))
          exact ⟨ob, Q12i hob, hok⟩
        · obtain ⟨ob, hob, hok⟩ := hv id rows hl
          refine ⟨ob, ?_, hok⟩
          rw [Q65 (fun y hy e => hc (by rw [← e]; exact List.mem_map_of_mem hy))]
          exact hob
      exact go ⟨x.1, x.1.hw.map (·.1), x.2, az, [], []⟩ hs' _ hx hvx y hy hm.tail.right hq rfl rfl rfl rfl
structure CV where
  ex : Ex
  st : St
  vw : Views
  hs : Q6i
  az : List Ans
  owed : List Prop
  asked : Q9y
def Q5i (m : Nat) : IR → Q6i → List Ans → Views → St → Option CV
  | .skip, hs, az, vw, s => some ⟨.normal, s, vw, hs, az, [], []⟩
  | .reg ops draw, hs, az, vw, s => (Qs3 s.nx 0 ops hs az s.env s.heap vw).bind fun y => bif !draw || calm (ops.zip y.effs) 0 (ops.zip y.effs) then some ⟨.normal, ⟨y.env, y.heap, s.nx + 64 * ops.length⟩, y.vw, y.hs, y.az, y.owed, y.asked⟩ else none
  | .seq a b, hs, az, vw, s => (Q5i m a hs az vw s).bind fun x => (match x.ex with | .normal => (Q5i m b x.hs x.az x.vw x.st).bind fun y => some ⟨y.ex, y.st, y.vw, y.hs, y.az, x.owed ++ y.owed, x.asked ++ y.asked⟩ | _ => some x)
  | .cond c a b, hs, az, vw, s => (match c.ev (envF s.env) with | .bool t => (bif t then Q5i m a hs az vw s else Q5i m b hs az vw s) | _ => none)
  | .block id b, hs, az, vw, s => (Q5i m b hs az vw s).bind fun x => (match x.ex with | .exit j => (bif Nat.beq j id then some ⟨.normal, x.st, x.vw, x.hs, x.az, x.owed, x.asked⟩ else some x) | _ => some x)
  | .loop live b, hs, az, vw, s => (gcV vw m live s).bind fun y => (match az with
    | [] => none
    | a :: az' => (match a.r with | .st e s' => some ⟨e, s', a.vw, hs, az', y.2 ++ (a.vw.map fun p => Seen (look s'.heap p.1) p.2), [(.loop m live b y.1.1 y.1.2, a.r)]⟩ | _ => none))
  | .exit id, hs, az, vw, s => some ⟨.exit id, s, vw, hs, az, [], []⟩
  | .ret, hs, az, vw, s => some ⟨.ret, s, vw, hs, az, [], []⟩
theorem Q1z {G : Nat → Option Fun} {m : Nat} : ∀ (c : IR) (hs : Q6i) (az : List Ans) (vw : Views) (s : St) (t : CV), Q5i m c hs az vw s = some t → VOK (look s.heap) vw → Met t.owed → Told G t.asked → Q42 (lim G) m c s = some (t.ex, t.st) ∧ VOK (look t.st.heap) t.vw
  | .skip, hs, az, vw, s, t, ht, hv, _, _ => by
    simp only [Q5i, Option.some.injEq] at ht
    subst ht
    exact ⟨rfl, hv⟩
  | .reg ops draw, hs, az, vw, s, t, ht, hv, hm, hq => by
    simp only [Q5i] at ht
    obtain ⟨y, hy, ht⟩ := Qj ht
    cases hc : (!draw || calm (ops.zip y.effs) 0 (ops.zip y.effs)) with
    | false => rw [hc] at ht; cases ht
    | true =>
      rw [hc] at ht
      simp only [cond_true, Option.some.injEq] at ht
      subst ht
      obtain ⟨r1, r2⟩ := Ql2 ops 0 hs az s.env s.heap vw y hy hv hm hq
      have h1 : ireg (lim G) ops draw s = some ⟨y.env, y.heap, s.nx + 64 * ops.length⟩ := by
        unfold ireg
        rw [r1, Option.bind_some]
        simp only
        rw [hc]
        rfl
      simp only [Q42]
      rw [h1]
      exact ⟨rfl, r2⟩
  | .seq a b, hs, az, vw, s, t, ht, hv, hm, hq => by
    simp only [Q5i] at ht
    obtain ⟨x, hx, ht⟩ := Qj ht
    obtain ⟨ex, st, vw1, hs1, as1, ow1, ak1⟩ := x
    simp only [Q42]
    cases ex with
    | normal =>
      simp only at ht
      obtain ⟨y, hy, ht⟩ := Qj ht
      simp only [Option.some.injEq] at ht
      subst ht
      obtain ⟨r1, r2⟩ := Q1z a hs az vw s _ hx hv hm.left hq.left
      rw [r1, Option.bind_some]
      exact Q1z b _ _ _ _ y hy r2 hm.right hq.right
    | exit j =>
      simp only [Option.some.injEq] at ht
      subst ht
      obtain ⟨r1, r2⟩ := Q1z a hs az vw s _ hx hv hm hq
      rw [r1, Option.bind_some]
      exact ⟨rfl, r2⟩
    | ret =>
      simp only [Option.some.injEq] at ht
      subst ht
      obtain ⟨r1, r2⟩ := Q1z a hs az vw s _ hx hv hm hq
      rw [r1, Option.bind_some]
      exact ⟨rfl, r2⟩
  | .cond c a b, hs, az, vw, s, t, ht, hv, hm, hq => by
    simp only [Q5i] at ht
    simp only [Q42]
    split at ht
    · rename_i q hq'
      rw [hq']
      simp only
      cases q with
      | true => exact Q1z a hs az vw s t ht hv hm hq
      | false => exact Q1z b hs az vw s t ht hv hm hq
    · cases ht
  | .block id b, hs, az, vw, s, t, ht, hv, hm, hq => by
    simp only [Q5i] at ht
    obtain ⟨x, hx, ht⟩ := Qj ht
    obtain ⟨ex, st, vw1, hs1, as1, ow1, ak1⟩ := x
    simp only [Q42]
    cases ex with
    | normal =>
      simp only [Option.some.injEq] at ht
      subst ht
      obtain ⟨r1, r2⟩ := Q1z b hs az vw s _ hx hv hm hq
      rw [r1, Option.bind_some]
      exact ⟨rfl, r2⟩
    | ret =>
      simp only [Option.some.injEq] at ht
      subst ht
      obtain ⟨r1, r2⟩ := Q1z b hs az vw s _ hx hv hm hq
      rw [r1, Option.bind_some]
      exact ⟨rfl, r2⟩
    | exit j =>
      simp only at ht
      cases hj : Nat.beq j id with
      | true =>
        rw [hj] at ht
        simp only [cond_true, Option.some.injEq] at ht
        subst ht
        obtain ⟨r1, r2⟩ := Q1z b hs az vw s _ hx hv hm hq
        rw [r1, Option.bind_some]
        simp only
        rw [hj]
        exact ⟨rfl, r2⟩
      | false =>
        rw [hj] at ht
        simp only [cond_false, Option.some.injEq] at ht
        subst ht
        obtain ⟨r1, r2⟩ := Q1z b hs az vw s _ hx hv hm hq
        rw [r1, Option.bind_some]
        simp only
        rw [hj]
        exact ⟨rfl, r2⟩
  | .loop live b, hs, az, vw, s, t, ht, hv, hm, hq => by
    simp only [Q5i] at ht
    obtain ⟨y, hy, ht⟩ := Qj ht
    simp only [Q42]
    cases az with
    | nil => cases ht
    | cons a az' =>
      obtain ⟨r, avw⟩ := a
      cases r with
      | ret _ _ => cases ht
      | st e s' =>
        simp only [Option.some.injEq] at ht
        subst ht
        rw [Qvv hv hy hm.left, Option.bind_some, Q1ar (hq _ List.mem_cons_self), Option.bind_some]
        refine ⟨rfl, fun id rows hl => ?_⟩
        exact hm.right _ (List.mem_map_of_mem (f := fun p : Nat × List (List PV) => Seen (look s'.heap p.1) p.2) (Qwd hl))
  | .exit id, hs, az, vw, s, t, ht, hv, _, _ => by
    simp only [Q5i, Option.some.injEq] at ht
    subst ht
    exact ⟨rfl, hv⟩
  | .ret, hs, az, vw, s, t, ht, hv, _, _ => by
    simp only [Q5i, Option.some.injEq] at ht
    subst ht
    exact ⟨rfl, hv⟩
def finV (fn : IFn) (m : Nat) (vw : Views) (s : St) : Option (Rs × List Prop) :=
  (mapO (rv s) fn.res).bind fun vs =>
    let a := bif fn.keep then Q41 s.nx vs else (vs, s.nx, [])
    let H := look (s.heap ++ a.2.2)
    (Q82 (Qam H vw fn.keep 8) a.1 (upTo m)).bind fun y =>
      (Q7q H vw false true 32 0 y.1.2.1).bind fun z =>
        bif disj (y.1.2.2 ++ z.1.2.2) z.1.2.1 then some (.ret (match y.1.1 with | [v] => v | l => .tup l) (regr m z.1.1), y.2 ++ z.2) else none
theorem Qll {fn : IFn} {m : Nat} {vw : Views} {s : St} (hv : VOK (look s.heap) vw) {y : Rs × List Prop} (h : finV fn m vw s = some y) (hm : Met y.2) : fin fn m s = some y.1 := by
  unfold finV at h
  unfold fin
  obtain ⟨vs, hvs, h⟩ := Qj h
  rw [hvs, Option.bind_some]
  simp only at h ⊢
  have hv' : VOK (look (s.heap ++ (bif fn.keep then Q41 s.nx vs else (vs, s.nx, [])).2.2)) vw := by
    intro id rows hl
    obtain ⟨ob, hob, hok⟩ := hv id rows hl
    refine ⟨ob, ?_, hok⟩
    rw [Qpm, hob]
  obtain ⟨x, hx, h⟩ := Qj h
  obtain ⟨z, hz, h⟩ := Qj h
  cases hd : disj (x.1.2.2 ++ z.1.2.2) z.1.2.1 with
  | false => rw [hd] at h; cases h
  | true =>
    rw [hd] at h
    simp only [cond_true, Option.some.injEq] at h
    subst h
    rw [Q31 (Q68 hv' 8) _ _ x hx hm.left, Option.bind_some, Q43 hv' 32 _ _ z hz hm.right, Option.bind_some, hd]
    rfl
def Q1bg (fn : IFn) (args : List PV) (h : List Ob) (vw : Views) (hs : Q6i) (az : List Ans) : Option (Rs × List Prop × Q9y) :=
  bif Nat.beq args.length fn.np then
    (Q5i h.length fn.body hs az vw ⟨args ++ nuns (fn.nt - fn.np), number 0 h, h.length⟩).bind fun x =>
      (match x.ex with
       | .exit _ => none
       | _ => (finV fn h.length x.vw x.st).bind fun r => some (r.1, x.owed ++ r.2, x.asked))
  else none
theorem Q1bq {G : Nat → Option Fun} {f : Nat} {fn : IFn} (hG : G f = some (.ir fn)) {args : List PV} {h : List Ob} {vw : Views} (hv : VOK (look (number 0 h)) vw) {hs : Q6i} {az : List Ans} {r : Rs} {ow : List Prop} {ak : Q9y} (hp : Met ow) (hq : Told G ak) (ht : Q1bg fn args h vw hs az = some (r, ow, ak)) : Q6 G (.call f args h) r := by
  refine Q17d Qe3 ?_
  unfold Q1bg at ht
  simp only [phi, hG]
  cases hl : Nat.beq args.length fn.np with
  | false => rw [hl] at ht; cases ht
  | true =>
    rw [hl] at ht
    simp only [cond_true] at ht ⊢
    obtain ⟨x, hx, ht⟩ := Qj ht
    obtain ⟨ex, st, vw1, hs1, as1, ow1, ak1⟩ := x
    cases ex with
    | exit j => cases ht
    | normal =>
      simp only at ht
      obtain ⟨r', hr, ht⟩ := Qj ht
      simp only [Option.some.injEq, Prod.mk.injEq] at ht
      obtain ⟨rfl, rfl, rfl⟩ := ht
      obtain ⟨r1, r2⟩ := Q1z _ hs az vw _ _ hx hv hp.left hq
      rw [r1, Option.bind_some]
      exact Qll r2 hr hp.right
    | ret =>
      simp only at ht
      obtain ⟨r', hr, ht⟩ := Qj ht
      simp only [Option.some.injEq, Prod.mk.injEq] at ht
      obtain ⟨rfl, rfl, rfl⟩ := ht
      obtain ⟨r1, r2⟩ := Q1z _ hs az vw _ _ hx hv hp.left hq
      rw [r1, Option.bind_some]
      exact Qll r2 hr hp.right
theorem VOK.nil {H : Nat → Option Ob} : VOK H [] := fun _ _ h => by cases h
def Q1cs (m : Nat) (live : List Nat) (b : IR) (env : List PV) (h : List Ob) (vw : Views) (hs : Q6i) (az : List Ans) : Option ((List PV × List Ob) × List Prop × Q9y) :=
  (Q5i m b hs az vw ⟨env, number 0 h, h.length⟩).bind fun x => (match x.ex with | .normal => (gcV x.vw m live x.st).bind fun y => some (y.1, x.owed ++ y.2, x.asked) | _ => none)
theorem Qwu {G : Nat → Option Fun} {m : Nat} {live : List Nat} {b : IR} {env : List PV} {h : List Ob} {vw : Views} (hv : VOK (look (number 0 h)) vw) {hs : Q6i} {az : List Ans} {y : List PV × List Ob} {ow : List Prop} {ak : Q9y} {r : Rs} (hp : Met ow) (hq : Told G ak) (ht : Q1cs m live b env h vw hs az = some (y, ow, ak)) (hr : Q6 G (.loop m live b y.1 y.2) r) : Q6 G (.loop m live b env h) r := by
  unfold Q1cs at ht
  obtain ⟨x, hx, ht⟩ := Qj ht
  obtain ⟨ex, st, vw1, hs1, as1, ow1, ak1⟩ := x
  cases ex with
  | normal =>
    simp only at ht
    obtain ⟨y', hg, ht⟩ := Qj ht
    simp only [Option.some.injEq, Prod.mk.injEq] at ht
    obtain ⟨rfl, rfl, rfl⟩ := ht
    obtain ⟨r1, r2⟩ := Q1z _ hs az vw _ _ hx hv hp.left hq
    exact Q12x Qe3 r1 (Qvv r2 hg hp.right) hr
  | exit j => cases ht
  | ret => cases ht
def Q15g (m : Nat) (b : IR) (env : List PV) (h : List Ob) (vw : Views) (hs : Q6i) (az : List Ans) : Option ((Ex × St) × List Prop × Q9y) :=
  (Q5i m b hs az vw ⟨env, number 0 h, h.length⟩).bind fun x => (match x.ex with | .normal => none | e => some ((e, x.st), x.owed, x.asked))
theorem Q120 {G : Nat → Option Fun} {m : Nat} {live : List Nat} {b : IR} {env : List PV} {h : List Ob} {vw : Views} (hv : VOK (look (number 0 h)) vw) {hs : Q6i} {az : List Ans} {x : Ex × St} {ow : List Prop} {ak : Q9y} (hp : Met ow) (hq : Told G ak) (ht : Q15g m b env h vw hs az = some (x, ow, ak)) : Q6 G (.loop m live b env h) (.st x.1 x.2) := by
  unfold Q15g at ht
  obtain ⟨y, hy, ht⟩ := Qj ht
  obtain ⟨ex, st, vw1, hs1, as1, ow1, ak1⟩ := y
  cases ex with
  | normal => cases ht
  | exit j =>
    simp only [Option.some.injEq, Prod.mk.injEq] at ht
    obtain ⟨rfl, rfl, rfl⟩ := ht
    exact Qit Qe3 (by intro h; cases h) (Q1z _ hs az vw _ _ hy hv hp hq).1
  | ret =>
    simp only [Option.some.injEq, Prod.mk.injEq] at ht
    obtain ⟨rfl, rfl, rfl⟩ := ht
    exact Qit Qe3 (by intro h; cases h) (Q1z _ hs az vw _ _ hy hv hp hq).1
end Go.Pv
end

