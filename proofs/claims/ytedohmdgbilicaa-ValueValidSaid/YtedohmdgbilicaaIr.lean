/- The seat's functions as the evaluator takes them; printed by a program, checked against the given ones in YtedohmdgbilicaaTie. -/
import Derived.Test.YtedohmdgbilicaaPvX11
namespace Go.Proofs.Ytedohmdgbilicaa.Ir
open Go.Pv

def o (d : Nat) (op : IOp) : IOper := ⟨some d, none, op, []⟩
def ob (d : Nat) (op : IOp) (b : List Nat) : IOper := ⟨some d, none, op, b⟩
def rg1 (a : Nat) : Nat → List Nat
  | 0 => []
  | n + 1 => a :: rg1 (a + 1) n
def rg (a b : Nat) : List Nat := rg1 a (b - a)

/-- function 3: orchestrator/ orchestratorlaw04.ValueValid -/
def law04_ValueValid_c : IR :=
  .seq (.reg [o 1 (.box 5 (.t 0)),
    o 2 (.mov (.c (.bool false)))] false)
  (.seq (.seq (.reg [o 3 (.load 5 true (.t 1)),
      o 4 (.call false (.f 9) [.t 3]),
      o 5 (.un .not (.t 4))] false)
    (.cond (.t 5) (.seq (.reg [o 6 (.call false (.f 10) []),
        o 2 (.mov (.t 6))] false)
      (.ret))
      (.skip)))
  (.seq (.reg [o 7 (.load 5 true (.t 1)),
    ob 8 (.call false (.f 11) [.t 7]) [0],
    o 9 (.load 5 true (.t 1)),
    ob 10 (.call false (.f 12) [.t 9]) [0, 1, 2],
    ob 11 (.eqb false (.t 8) (.t 10)) [0, 1, 2, 3],
    ob 12 (.mov (.t 11)) (rg 0 5),
    ⟨(some 13), (some (12, true)), .load 5 true (.t 1), (rg 0 6)⟩,
    ⟨(some 14), (some (12, true)), .call false (.f 13) [.t 13], (rg 0 7)⟩,
    ⟨(some 15), (some (12, true)), .load 5 true (.t 1), (rg 0 6)⟩,
    ⟨(some 16), (some (12, true)), .call false (.f 14) [.t 15], (rg 0 9)⟩,
    ⟨(some 17), (some (12, true)), .bin .eql (.t 14) (.t 16), (rg 0 10)⟩,
    ob 18 (.pick (.t 12) (.t 17) (.c (.bool false))) (rg 0 11),
    ob 19 (.mov (.t 18)) (rg 0 12),
    ⟨(some 20), (some (19, true)), .load 5 true (.t 1), (rg 0 13)⟩,
    ⟨(some 21), (some (19, true)), .call false (.f 15) [.t 20], (rg 0 14)⟩,
    ⟨(some 22), (some (19, true)), .load 5 true (.t 1), (rg 0 13)⟩,
    ⟨(some 23), (some (19, true)), .call false (.f 16) [.t 22], (rg 0 16)⟩,
    ⟨(some 24), (some (19, true)), .bin .eql (.t 21) (.t 23), (rg 0 17)⟩,
    ob 25 (.pick (.t 19) (.t 24) (.c (.bool false))) (rg 0 18),
    ob 26 (.mov (.t 25)) (rg 0 19),
    ⟨(some 27), (some (26, true)), .call false (.f 10) [], (rg 0 20)⟩,
    ob 28 (.pick (.t 26) (.t 27) (.c (.bool false))) (rg 0 21),
    ob 2 (.mov (.t 28)) (rg 0 22)] true)
  (.ret)))
def law04_ValueValid : IFn := ⟨1, 29, [.tmp 2], false, law04_ValueValid_c⟩

/-- function 4: orchestrator/ orchestratorlaw04.ValueCompares -/
def law04_ValueCompares_c : IR :=
  .seq (.reg [o 2 (.box 5 (.t 0)),
    o 3 (.box 5 (.t 1)),
    o 4 (.mov (.c (.bool false)))] false)
  (.seq (.seq (.reg [o 5 (.load 5 true (.t 2)),
      o 6 (.call false (.f 9) [.t 5]),
      o 7 (.un .not (.t 6)),
      o 8 (.mov (.t 7)),
      ⟨(some 9), (some (8, false)), .load 5 true (.t 3), []⟩,
      ⟨(some 10), (some (8, false)), .call false (.f 9) [.t 9], []⟩,
      ⟨(some 11), (some (8, false)), .un .not (.t 10), []⟩,
      o 12 (.pick (.t 8) (.c (.bool true)) (.t 11))] false)
    (.cond (.t 12) (.seq (.reg [o 13 (.call false (.f 10) []),
        o 4 (.mov (.t 13))] false)
      (.ret))
      (.skip)))
  (.seq (.reg [o 14 (.load 5 true (.t 2)),
    o 15 (.load 5 true (.t 3)),
    ob 16 (.call false (.f 17) [.t 14, .t 15]) [0, 1],
    o 17 (.load 5 true (.t 2)),
    o 18 (.load 5 true (.t 3)),
    ob 19 (.call false (.f 18) [.t 17, .t 18]) (rg 0 5),
    ob 20 (.bin .eql (.t 16) (.t 19)) (rg 0 6),
    ob 21 (.mov (.t 20)) (rg 0 7),
    ⟨(some 22), (some (21, true)), .load 5 true (.t 2), (rg 0 8)⟩,
    ⟨(some 23), (some (21, true)), .load 5 true (.t 3), (rg 0 8)⟩,
    ⟨(some 24), (some (21, true)), .call false (.f 19) [.t 22, .t 23], (rg 0 10)⟩,
    ⟨(some 25), (some (21, true)), .load 5 true (.t 2), (rg 0 8)⟩,
    ⟨(some 26), (some (21, true)), .load 5 true (.t 3), (rg 0 8)⟩,
    ⟨(some 27), (some (21, true)), .call false (.f 20) [.t 25, .t 26], (rg 0 13)⟩,
    ⟨(some 28), (some (21, true)), .eqb false (.t 24) (.t 27), (rg 0 14)⟩,
    ob 29 (.pick (.t 21) (.t 28) (.c (.bool false))) (rg 0 15),
    ob 30 (.mov (.t 29)) (rg 0 16),
    ⟨(some 31), (some (30, true)), .load 5 true (.t 2), (rg 0 17)⟩,
    ⟨(some 32), (some (30, true)), .load 5 true (.t 2), (rg 0 17)⟩,
    ⟨(some 33), (some (30, true)), .call false (.f 19) [.t 31, .t 32], (rg 0 19)⟩,
    ob 34 (.pick (.t 30) (.t 33) (.c (.bool false))) (rg 0 20),
    ob 35 (.mov (.t 34)) (rg 0 21),
    ⟨(some 36), (some (35, true)), .call false (.f 10) [], (rg 0 22)⟩,
    ob 37 (.pick (.t 35) (.t 36) (.c (.bool false))) (rg 0 23),
    ob 4 (.mov (.t 37)) (rg 0 24)] true)
  (.ret)))
def law04_ValueCompares : IFn := ⟨2, 38, [.tmp 4], false, law04_ValueCompares_c⟩

/-- function 5: orchestrator/ orchestratorlaw04.ValueOrder -/
def law04_ValueOrder_c : IR :=
  .seq (.reg [o 3 (.box 5 (.t 0)),
    o 4 (.box 5 (.t 1)),
    o 5 (.box 5 (.t 2)),
    o 6 (.mov (.c (.bool false)))] false)
  (.seq (.seq (.reg [o 10 (.load 5 true (.t 3)),
      o 11 (.call false (.f 9) [.t 10]),
      o 12 (.un .not (.t 11)),
      o 13 (.mov (.t 12)),
      ⟨(some 14), (some (13, false)), .load 5 true (.t 4), []⟩,
      ⟨(some 15), (some (13, false)), .call false (.f 9) [.t 14], []⟩,
      ⟨(some 16), (some (13, false)), .un .not (.t 15), []⟩,
      o 17 (.pick (.t 13) (.c (.bool true)) (.t 16)),
      o 18 (.mov (.t 17)),
      ⟨(some 19), (some (18, false)), .load 5 true (.t 5), []⟩,
      ⟨(some 20), (some (18, false)), .call false (.f 9) [.t 19], []⟩,
      ⟨(some 21), (some (18, false)), .un .not (.t 20), []⟩,
      o 22 (.pick (.t 18) (.c (.bool true)) (.t 21))] false)
    (.cond (.t 22) (.seq (.reg [o 23 (.call false (.f 10) []),
        o 6 (.mov (.t 23))] false)
      (.ret))
      (.skip)))
  (.seq (.reg [o 24 (.load 5 true (.t 3)),
    o 25 (.load 5 true (.t 4)),
    ob 26 (.call false (.f 17) [.t 24, .t 25]) [0, 1],
    o 27 (.load 5 true (.t 4)),
    o 28 (.load 5 true (.t 5)),
    ob 29 (.call false (.f 17) [.t 27, .t 28]) (rg 0 5),
    o 30 (.load 5 true (.t 3)),
    o 31 (.load 5 true (.t 5)),
    ob 32 (.call false (.f 17) [.t 30, .t 31]) (rg 0 8),
    ob 7 (.mov (.t 26)) (rg 0 9),
    ob 8 (.mov (.t 29)) (rg 0 10),
    ob 9 (.mov (.t 32)) (rg 0 11)] true)
  (.seq (.seq (.reg [o 33 (.load 5 true (.t 4)),
      o 34 (.load 5 true (.t 3)),
      o 35 (.call false (.f 17) [.t 33, .t 34]),
      o 36 (.mov (.t 7)),
      o 37 (.un .neg (.t 36)),
      o 38 (.bin .neq (.t 35) (.t 37)),
      o 39 (.mov (.t 38)),
      ⟨(some 40), (some (39, false)), .mov (.t 7), []⟩,
      ⟨(some 41), (some (39, false)), .bin .lss (.t 40) (.c (.int .i64 (-1))), []⟩,
      o 42 (.pick (.t 39) (.c (.bool true)) (.t 41)),
      o 43 (.mov (.t 42)),
      ⟨(some 44), (some (43, false)), .mov (.t 7), []⟩,
      ⟨(some 45), (some (43, false)), .bin .gtr (.t 44) (.c (.int .i64 1)), []⟩,
      o 46 (.pick (.t 43) (.c (.bool true)) (.t 45)),
      o 47 (.mov (.t 46)),
      ⟨(some 48), (some (47, false)), .load 5 true (.t 3), []⟩,
      ⟨(some 49), (some (47, false)), .load 5 true (.t 4), []⟩,
      ⟨(some 50), (some (47, false)), .call false (.f 19) [.t 48, .t 49], []⟩,
      ⟨(some 51), (some (47, false)), .mov (.t 7), []⟩,
      ⟨(some 52), (some (47, false)), .bin .eql (.t 51) (.c (.int .i64 0)), []⟩,
      ⟨(some 53), (some (47, false)), .eqb true (.t 50) (.t 52), []⟩,
      o 54 (.pick (.t 47) (.c (.bool true)) (.t 53)),
      o 55 (.mov (.t 54)),
      ⟨(some 56), (some (55, false)), .load 5 true (.t 3), []⟩,
      ⟨(some 57), (some (55, false)), .load 5 true (.t 3), []⟩,
      ⟨(some 58), (some (55, false)), .call false (.f 17) [.t 56, .t 57], []⟩,
      ⟨(some 59), (some (55, false)), .bin .neq (.t 58) (.c (.int .i64 0)), []⟩,
      o 60 (.pick (.t 55) (.c (.bool true)) (.t 59))] false)
    (.cond (.t 60) (.seq (.reg [o 6 (.mov (.c (.bool false)))] false)
      (.ret))
      (.skip)))
  (.seq (.seq (.reg [o 61 (.mov (.t 7)),
      o 62 (.bin .leq (.t 61) (.c (.int .i64 0))),
      o 63 (.mov (.t 62)),
      ⟨(some 64), (some (63, true)), .mov (.t 8), []⟩,
      ⟨(some 65), (some (63, true)), .bin .leq (.t 64) (.c (.int .i64 0)), []⟩,
      o 66 (.pick (.t 63) (.t 65) (.c (.bool false))),
      o 67 (.mov (.t 66)),
      ⟨(some 68), (some (67, true)), .mov (.t 9), []⟩,
      ⟨(some 69), (some (67, true)), .bin .gtr (.t 68) (.c (.int .i64 0)), []⟩,
      o 70 (.pick (.t 67) (.t 69) (.c (.bool false))),
      o 71 (.mov (.t 70)),
      ⟨(some 72), (some (71, false)), .mov (.t 7), []⟩,
      ⟨(some 73), (some (71, false)), .bin .geq (.t 72) (.c (.int .i64 0)), []⟩,
      ⟨(some 74), (some (71, false)), .mov (.t 73), []⟩,
      ⟨(some 75), (some (74, true)), .mov (.t 8), []⟩,
      ⟨(some 76), (some (74, true)), .bin .geq (.t 75) (.c (.int .i64 0)), []⟩,
      ⟨(some 77), (some (71, false)), .pick (.t 74) (.t 76) (.c (.bool false)), []⟩,
      ⟨(some 78), (some (71, false)), .mov (.t 77), []⟩,
      ⟨(some 79), (some (78, true)), .mov (.t 9), []⟩,
      ⟨(some 80), (some (78, true)), .bin .lss (.t 79) (.c (.int .i64 0)), []⟩,
      ⟨(some 81), (some (71, false)), .pick (.t 78) (.t 80) (.c (.bool false)), []⟩,
      o 82 (.pick (.t 71) (.c (.bool true)) (.t 81)),
      o 83 (.mov (.t 82)),
      ⟨(some 84), (some (83, false)), .mov (.t 7), []⟩,
      ⟨(some 85), (some (83, false)), .bin .eql (.t 84) (.c (.int .i64 0)), []⟩,
      ⟨(some 86), (some (83, false)), .mov (.t 85), []⟩,
      ⟨(some 87), (some (86, true)), .mov (.t 8), []⟩,
      ⟨(some 88), (some (86, true)), .mov (.t 9), []⟩,
      ⟨(some 89), (some (86, true)), .bin .neq (.t 87) (.t 88), []⟩,
      ⟨(some 90), (some (83, false)), .pick (.t 86) (.t 89) (.c (.bool false)), []⟩,
      o 91 (.pick (.t 83) (.c (.bool true)) (.t 90))] false)
    (.cond (.t 91) (.seq (.reg [o 6 (.mov (.c (.bool false)))] false)
      (.ret))
      (.skip)))
  (.seq (.reg [o 92 (.call false (.f 10) []),
    o 6 (.mov (.t 92))] false)
  (.ret))))))
def law04_ValueOrder : IFn := ⟨3, 93, [.tmp 6], false, law04_ValueOrder_c⟩

/-- function 6: orchestrator/ orchestratorlaw04.ValueBuilds -/
def law04_ValueBuilds_b1_live : List Nat := [100002, 0, 1, 2, 3, 4, 12, 14]
def law04_ValueBuilds_b1 : IR :=
  .seq (.seq (.reg [o 66 (.mov (.t 14)),
        o 67 (.faddr 4 (.t 12)),
        o 68 (.load 1 false (.t 67)),
        o 69 (.len false (.t 68)),
        o 70 (.bin .lss (.t 66) (.t 69))] false)
      (.cond (.t 70) (.skip)
        (.exit 2)))
    (.seq (.block 3 (.reg [o 73 (.faddr 4 (.t 12)),
        ob 74 (.load 1 false (.t 73)) [0],
        o 75 (.mov (.t 14)),
        o 76 (.faddr 4 (.t 12)),
        ob 77 (.load 1 false (.t 76)) [3],
        o 78 (.mov (.t 14)),
        ob 79 (.iaddr 6 (.t 77) (.t 78)) [3, 4, 5],
        ob 80 (.faddr 0 (.t 79)) [3, 4, 5, 6],
        ob 81 (.load 1 false (.t 80)) (rg 3 8),
        ob 82 (.bin .add (.t 81) (.c (.str ⟨#[120]⟩))) (rg 3 9),
        ob 83 (.iaddr 6 (.t 74) (.t 75)) (rg 0 10),
        ob 84 (.faddr 0 (.t 83)) (rg 0 11),
        ⟨none, none, .store 1 (.t 84) (.t 82), (rg 0 12)⟩] true))
    (.reg [o 71 (.mov (.t 14)),
    o 72 (.bin .add (.t 71) (.c (.int .i64 1))),
    o 14 (.mov (.t 72))] false))
def law04_ValueBuilds_b0_live : List Nat := [100001, 0, 1, 2, 3, 4, 11, 12, 13]
def law04_ValueBuilds_b0 : IR :=
  .seq (.seq (.reg [o 47 (.mov (.t 13)),
        o 48 (.faddr 3 (.t 11)),
        o 49 (.load 1 false (.t 48)),
        o 50 (.len false (.t 49)),
        o 51 (.bin .lss (.t 47) (.t 50))] false)
      (.cond (.t 51) (.skip)
        (.exit 0)))
    (.seq (.block 1 (.reg [o 54 (.faddr 3 (.t 11)),
        ob 55 (.load 1 false (.t 54)) [0],
        o 56 (.mov (.t 13)),
        o 57 (.faddr 3 (.t 11)),
        ob 58 (.load 1 false (.t 57)) [3],
        o 59 (.mov (.t 13)),
        ob 60 (.iaddr 5 (.t 58) (.t 59)) [3, 4, 5],
        ob 61 (.faddr 1 (.t 60)) [3, 4, 5, 6],
        ob 62 (.load 1 false (.t 61)) (rg 3 8),
        ob 63 (.bin .xor (.t 62) (.c (.int .i64 1))) (rg 3 9),
        ob 64 (.iaddr 5 (.t 55) (.t 56)) (rg 0 10),
        ob 65 (.faddr 1 (.t 64)) (rg 0 11),
        ⟨none, none, .store 1 (.t 65) (.t 63), (rg 0 12)⟩] true))
    (.reg [o 52 (.mov (.t 13)),
    o 53 (.bin .add (.t 52) (.c (.int .i64 1))),
    o 13 (.mov (.t 53))] false))
def law04_ValueBuilds_c : IR :=
  .seq (.reg [o 10 (.mov (.c (.bool false)))] false)
  (.seq (.seq (.reg [o 15 (.mov (.t 0)),
      o 16 (.len false (.t 15)),
      o 17 (.bin .gtr (.t 16) (.c (.int .i64 40))),
      o 18 (.mov (.t 17)),
      ⟨(some 19), (some (18, false)), .mov (.t 1), []⟩,
      ⟨(some 20), (some (18, false)), .len false (.t 19), []⟩,
      ⟨(some 21), (some (18, false)), .bin .gtr (.t 20) (.c (.int .i64 40)), []⟩,
      o 22 (.pick (.t 18) (.c (.bool true)) (.t 21)),
      o 23 (.mov (.t 22)),
      ⟨(some 24), (some (23, false)), .mov (.t 0), []⟩,
      ⟨(some 25), (some (23, false)), .mov (.t 1), []⟩,
      ⟨(some 26), (some (23, false)), .build [.int .i64 0, .int .i64 0, .str ⟨#[]⟩, .ns 5, .ns 6] [(3, 1, .t 24), (4, 1, .t 25)], []⟩,
      ⟨(some 27), (some (23, false)), .call false (.f 9) [.t 26], []⟩,
      ⟨(some 28), (some (23, false)), .un .not (.t 27), []⟩,
      o 29 (.pick (.t 23) (.c (.bool true)) (.t 28))] false)
    (.cond (.t 29) (.seq (.reg [o 30 (.call false (.f 10) []),
        o 10 (.mov (.t 30))] false)
      (.ret))
      (.skip)))
  (.seq (.reg [o 31 (.mov (.t 0)),
    o 32 (.call false (.f 21) [.t 31]),
    o 33 (.mov (.t 1)),
    o 34 (.call false (.f 22) [.t 33]),
    o 11 (.zero [.int .i64 0, .int .i64 0, .str ⟨#[]⟩, .ns 5, .ns 6]),
    o 12 (.zero [.int .i64 0, .int .i64 0, .str ⟨#[]⟩, .ns 5, .ns 6]),
    ⟨none, none, .store 5 (.t 11) (.t 32), []⟩,
    ⟨none, none, .store 5 (.t 12) (.t 34), []⟩] false)
  (.seq (.seq (.reg [o 35 (.load 5 true (.t 11)),
      o 36 (.mov (.t 0)),
      ob 37 (.call false (.f 23) [.t 36]) [1],
      ob 38 (.call false (.f 20) [.t 35, .t 37]) [0, 1, 2],
      ob 39 (.un .not (.t 38)) [0, 1, 2, 3],
      ob 40 (.mov (.t 39)) (rg 0 5),
      ⟨(some 41), (some (40, false)), .load 5 true (.t 12), (rg 0 6)⟩,
      ⟨(some 42), (some (40, false)), .mov (.t 1), (rg 0 6)⟩,
      ⟨(some 43), (some (40, false)), .call false (.f 24) [.t 42], (rg 0 6 ++ [7])⟩,
      ⟨(some 44), (some (40, false)), .call false (.f 20) [.t 41, .t 43], (rg 0 9)⟩,
      ⟨(some 45), (some (40, false)), .un .not (.t 44), (rg 0 10)⟩,
      ob 46 (.pick (.t 40) (.c (.bool true)) (.t 45)) (rg 0 11)] true)
    (.cond (.t 46) (.seq (.reg [o 10 (.mov (.c (.bool false)))] false)
      (.ret))
      (.skip)))
  (.seq (.seq (.reg [o 13 (.mov (.c (.int .i64 0)))] false)
    (.block 0 (.loop law04_ValueBuilds_b0_live law04_ValueBuilds_b0)))
  (.seq (.seq (.reg [o 14 (.mov (.c (.int .i64 0)))] false)
    (.block 2 (.loop law04_ValueBuilds_b1_live law04_ValueBuilds_b1)))
  (.seq (.seq (.reg [o 85 (.mov (.t 0)),
      o 86 (.call false (.f 21) [.t 85]),
      o 87 (.mov (.t 0)),
      o 88 (.call false (.f 23) [.t 87]),
      o 89 (.call false (.f 20) [.t 86, .t 88]),
      o 90 (.un .not (.t 89)),
      o 91 (.mov (.t 90)),
      ⟨(some 92), (some (91, false)), .mov (.t 1), []⟩,
      ⟨(some 93), (some (91, false)), .call false (.f 22) [.t 92], []⟩,
      ⟨(some 94), (some (91, false)), .mov (.t 1), []⟩,
      ⟨(some 95), (some (91, false)), .call false (.f 24) [.t 94], []⟩,
      ⟨(some 96), (some (91, false)), .call false (.f 20) [.t 93, .t 95], []⟩,
      ⟨(some 97), (some (91, false)), .un .not (.t 96), []⟩,
      o 98 (.pick (.t 91) (.c (.bool true)) (.t 97))] false)
    (.cond (.t 98) (.seq (.reg [o 10 (.mov (.c (.bool false)))] false)
      (.ret))
      (.skip)))
  (.seq (.reg [o 99 (.mov (.t 2)),
    o 100 (.call false (.f 25) [.t 99]),
    o 101 (.mov (.t 2)),
    o 102 (.call false (.f 26) [.t 101]),
    o 103 (.call false (.f 20) [.t 100, .t 102]),
    o 104 (.mov (.t 103)),
    ⟨(some 105), (some (104, true)), .mov (.t 3), []⟩,
    ⟨(some 106), (some (104, true)), .call false (.f 27) [.t 105], []⟩,
    ⟨(some 107), (some (104, true)), .mov (.t 3), []⟩,
    ⟨(some 108), (some (104, true)), .call false (.f 28) [.t 107], []⟩,
    ⟨(some 109), (some (104, true)), .call false (.f 20) [.t 106, .t 108], []⟩,
    o 110 (.pick (.t 104) (.t 109) (.c (.bool false))),
    o 111 (.mov (.t 110)),
    ⟨(some 112), (some (111, true)), .mov (.t 4), []⟩,
    ⟨(some 113), (some (111, true)), .call false (.f 29) [.t 112], []⟩,
    ⟨(some 114), (some (111, true)), .mov (.t 4), []⟩,
    ⟨(some 115), (some (111, true)), .call false (.f 30) [.t 114], []⟩,
    ⟨(some 116), (some (111, true)), .call false (.f 20) [.t 113, .t 115], []⟩,
    o 117 (.pick (.t 111) (.t 116) (.c (.bool false))),
    o 118 (.mov (.t 117)),
    ⟨(some 119), (some (118, true)), .call false (.f 10) [], []⟩,
    o 120 (.pick (.t 118) (.t 119) (.c (.bool false))),
    o 10 (.mov (.t 120))] false)
  (.ret))))))))
def law04_ValueBuilds : IFn := ⟨5, 121, [.tmp 10], false, law04_ValueBuilds_c⟩

/-- function 7: orchestrator/ orchestratorlaw04.ValueFields -/
def law04_ValueFields_c : IR :=
  .seq (.reg [o 3 (.box 5 (.t 0)),
    o 5 (.box 5 (.t 2)),
    o 6 (.mov (.c (.bool false)))] false)
  (.seq (.seq (.reg [o 11 (.load 5 true (.t 3)),
      o 12 (.call false (.f 9) [.t 11]),
      o 13 (.un .not (.t 12)),
      o 14 (.mov (.t 13)),
      ⟨(some 15), (some (14, false)), .load 5 true (.t 5), []⟩,
      ⟨(some 16), (some (14, false)), .call false (.f 9) [.t 15], []⟩,
      ⟨(some 17), (some (14, false)), .un .not (.t 16), []⟩,
      o 18 (.pick (.t 14) (.c (.bool true)) (.t 17)),
      o 19 (.mov (.t 18)),
      ⟨(some 20), (some (19, false)), .mov (.t 1), []⟩,
      ⟨(some 21), (some (19, false)), .len true (.t 20), []⟩,
      ⟨(some 22), (some (19, false)), .bin .gtr (.t 21) (.c (.int .i64 200)), []⟩,
      o 23 (.pick (.t 19) (.c (.bool true)) (.t 22))] false)
    (.cond (.t 23) (.seq (.reg [o 24 (.call false (.f 10) []),
        o 6 (.mov (.t 24))] false)
      (.ret))
      (.skip)))
  (.seq (.reg [o 26 (.load 5 true (.t 3)),
    o 27 (.mov (.t 1)),
    o 28 (.call false (.f 31) [.t 26, .t 27]),
    o 25 (.mov (.t 28)),
    o 29 (.extract (.t 25) 0),
    o 30 (.extract (.t 25) 1),
    o 7 (.zero [.int .i64 0, .int .i64 0, .str ⟨#[]⟩, .ns 5, .ns 6]),
    ⟨none, none, .store 5 (.t 7) (.t 29), []⟩,
    o 8 (.mov (.t 30))] false)
  (.seq (.reg [o 32 (.load 5 true (.t 3)),
    o 33 (.mov (.t 1)),
    o 34 (.call false (.f 32) [.t 32, .t 33]),
    o 31 (.mov (.t 34)),
    o 35 (.extract (.t 31) 0),
    o 36 (.extract (.t 31) 1),
    o 9 (.zero [.int .i64 0, .int .i64 0, .str ⟨#[]⟩, .ns 5, .ns 6]),
    ⟨none, none, .store 5 (.t 9) (.t 35), []⟩,
    o 10 (.mov (.t 36))] false)
  (.seq (.reg [o 37 (.load 5 true (.t 7)),
    o 38 (.load 5 true (.t 9)),
    ob 39 (.call false (.f 20) [.t 37, .t 38]) [0, 1],
    ob 40 (.mov (.t 39)) [0, 1, 2],
    ⟨(some 41), (some (40, true)), .mov (.t 8), [0, 1, 2, 3]⟩,
    ⟨(some 42), (some (40, true)), .mov (.t 10), [0, 1, 2, 3]⟩,
    ⟨(some 43), (some (40, true)), .eqb false (.t 41) (.t 42), (rg 0 6)⟩,
    ob 44 (.pick (.t 40) (.t 43) (.c (.bool false))) (rg 0 7),
    ob 45 (.mov (.t 44)) (rg 0 8),
    ⟨(some 46), (some (45, true)), .load 5 true (.t 3), (rg 0 9)⟩,
    ⟨(some 47), (some (45, true)), .mov (.t 1), (rg 0 9)⟩,
    ⟨(some 48), (some (45, true)), .load 5 true (.t 5), (rg 0 9)⟩,
    ⟨(some 49), (some (45, true)), .call false (.f 33) [.t 46, .t 47, .t 48], (rg 0 12)⟩,
    ⟨(some 50), (some (45, true)), .load 5 true (.t 3), (rg 0 9)⟩,
    ⟨(some 51), (some (45, true)), .mov (.t 1), (rg 0 9)⟩,
    ⟨(some 52), (some (45, true)), .load 5 true (.t 5), (rg 0 9)⟩,
    ⟨(some 53), (some (45, true)), .call false (.f 34) [.t 50, .t 51, .t 52], (rg 0 16)⟩,
    ⟨(some 54), (some (45, true)), .call false (.f 20) [.t 49, .t 53], (rg 0 17)⟩,
    ob 55 (.pick (.t 45) (.t 54) (.c (.bool false))) (rg 0 18),
    ob 56 (.mov (.t 55)) (rg 0 19),
    ⟨(some 57), (some (56, true)), .load 5 true (.t 3), (rg 0 20)⟩,
    ⟨(some 58), (some (56, true)), .mov (.t 1), (rg 0 20)⟩,
    ⟨(some 59), (some (56, true)), .call false (.f 35) [.t 57, .t 58], (rg 0 22)⟩,
    ⟨(some 60), (some (56, true)), .load 5 true (.t 3), (rg 0 20)⟩,
    ⟨(some 61), (some (56, true)), .mov (.t 1), (rg 0 20)⟩,
    ⟨(some 62), (some (56, true)), .call false (.f 36) [.t 60, .t 61], (rg 0 25)⟩,
    ⟨(some 63), (some (56, true)), .call false (.f 20) [.t 59, .t 62], (rg 0 26)⟩,
    ob 64 (.pick (.t 56) (.t 63) (.c (.bool false))) (rg 0 27),
    ob 65 (.mov (.t 64)) (rg 0 28),
    ⟨(some 66), (some (65, true)), .call false (.f 10) [], (rg 0 29)⟩,
    ob 67 (.pick (.t 65) (.t 66) (.c (.bool false))) (rg 0 30),
    ob 6 (.mov (.t 67)) (rg 0 31)] true)
  (.ret)))))
def law04_ValueFields : IFn := ⟨3, 68, [.tmp 6], false, law04_ValueFields_c⟩

/-- function 8: orchestrator/ orchestratorlaw04.ValueMaps -/
def law04_ValueMaps_c : IR :=
  .seq (.reg [o 4 (.box 5 (.t 0)),
    o 7 (.box 5 (.t 3)),
    o 8 (.mov (.c (.bool false)))] false)
  (.seq (.seq (.reg [o 20 (.load 5 true (.t 4)),
      o 21 (.call false (.f 9) [.t 20]),
      o 22 (.un .not (.t 21)),
      o 23 (.mov (.t 22)),
      ⟨(some 24), (some (23, false)), .load 5 true (.t 7), []⟩,
      ⟨(some 25), (some (23, false)), .call false (.f 9) [.t 24], []⟩,
      ⟨(some 26), (some (23, false)), .un .not (.t 25), []⟩,
      o 27 (.pick (.t 23) (.c (.bool true)) (.t 26)),
      o 28 (.mov (.t 27)),
      ⟨(some 29), (some (28, false)), .mov (.t 1), []⟩,
      ⟨(some 30), (some (28, false)), .len true (.t 29), []⟩,
      ⟨(some 31), (some (28, false)), .bin .gtr (.t 30) (.c (.int .i64 200)), []⟩,
      o 32 (.pick (.t 28) (.c (.bool true)) (.t 31)),
      o 33 (.mov (.t 32)),
      ⟨(some 34), (some (33, false)), .mov (.t 2), []⟩,
      ⟨(some 35), (some (33, false)), .len true (.t 34), []⟩,
      ⟨(some 36), (some (33, false)), .bin .gtr (.t 35) (.c (.int .i64 200)), []⟩,
      o 37 (.pick (.t 33) (.c (.bool true)) (.t 36)),
      o 38 (.mov (.t 37)),
      ⟨(some 39), (some (38, false)), .load 5 true (.t 4), []⟩,
      ⟨(some 40), (some (38, false)), .call false (.f 11) [.t 39], []⟩,
      ⟨(some 41), (some (38, false)), .un .not (.t 40), []⟩,
      o 42 (.pick (.t 38) (.c (.bool true)) (.t 41)),
      o 43 (.mov (.t 42)),
      ⟨(some 44), (some (43, false)), .faddr 0 (.t 4), []⟩,
      ⟨(some 45), (some (43, false)), .load 1 false (.t 44), []⟩,
      ⟨(some 46), (some (43, false)), .bin .neq (.t 45) (.c (.int .i64 5)), []⟩,
      o 47 (.pick (.t 43) (.c (.bool true)) (.t 46))] false)
    (.cond (.t 47) (.seq (.reg [o 48 (.call false (.f 10) []),
        o 8 (.mov (.t 48))] false)
      (.ret))
      (.skip)))
  (.seq (.reg [o 49 (.load 5 true (.t 4)),
    o 50 (.mov (.t 1)),
    o 51 (.load 5 true (.t 7)),
    o 52 (.call false (.f 33) [.t 49, .t 50, .t 51]),
    o 9 (.zero [.int .i64 0, .int .i64 0, .str ⟨#[]⟩, .ns 5, .ns 6]),
    ⟨none, none, .store 5 (.t 9) (.t 52), []⟩] false)
  (.seq (.reg [o 54 (.load 5 true (.t 9)),
    o 55 (.mov (.t 1)),
    o 56 (.call false (.f 31) [.t 54, .t 55]),
    o 53 (.mov (.t 56)),
    o 57 (.extract (.t 53) 0),
    o 58 (.extract (.t 53) 1),
    o 10 (.zero [.int .i64 0, .int .i64 0, .str ⟨#[]⟩, .ns 5, .ns 6]),
    ⟨none, none, .store 5 (.t 10) (.t 57), []⟩,
    o 11 (.mov (.t 58))] false)
  (.seq (.seq (.reg [o 59 (.mov (.t 11)),
      ob 60 (.un .not (.t 59)) [0],
      ob 61 (.mov (.t 60)) [0, 1],
      ⟨(some 62), (some (61, false)), .load 5 true (.t 10), [0, 1, 2]⟩,
      ⟨(some 63), (some (61, false)), .load 5 true (.t 7), [0, 1, 2]⟩,
      ⟨(some 64), (some (61, false)), .call false (.f 20) [.t 62, .t 63], (rg 0 5)⟩,
      ⟨(some 65), (some (61, false)), .un .not (.t 64), (rg 0 6)⟩,
      ob 66 (.pick (.t 61) (.c (.bool true)) (.t 65)) (rg 0 7),
      ob 67 (.mov (.t 66)) (rg 0 8),
      ⟨(some 68), (some (67, false)), .load 5 true (.t 9), (rg 0 9)⟩,
      ⟨(some 69), (some (67, false)), .mov (.t 1), (rg 0 9)⟩,
      ⟨(some 70), (some (67, false)), .call false (.f 35) [.t 68, .t 69], (rg 0 11)⟩,
      ⟨(some 71), (some (67, false)), .load 5 true (.t 4), (rg 0 9)⟩,
      ⟨(some 72), (some (67, false)), .mov (.t 1), (rg 0 9)⟩,
      ⟨(some 73), (some (67, false)), .call false (.f 35) [.t 71, .t 72], (rg 0 14)⟩,
      ⟨(some 74), (some (67, false)), .call false (.f 20) [.t 70, .t 73], (rg 0 15)⟩,
      ⟨(some 75), (some (67, false)), .un .not (.t 74), (rg 0 16)⟩,
      ob 76 (.pick (.t 67) (.c (.bool true)) (.t 75)) (rg 0 17)] true)
    (.cond (.t 76) (.seq (.reg [o 8 (.mov (.c (.bool false)))] false)
      (.ret))
      (.skip)))
  (.seq (.seq (.reg [o 78 (.load 5 true (.t 4)),
      o 79 (.mov (.t 1)),
      o 80 (.call false (.f 35) [.t 78, .t 79]),
      o 81 (.mov (.t 1)),
      o 82 (.call false (.f 31) [.t 80, .t 81]),
      o 77 (.mov (.t 82)),
      o 83 (.extract (.t 77) 0),
      o 84 (.extract (.t 77) 1),
      o 12 (.zero [.int .i64 0, .int .i64 0, .str ⟨#[]⟩, .ns 5, .ns 6]),
      ⟨none, none, .store 5 (.t 12) (.t 83), []⟩,
      o 13 (.mov (.t 84))] false)
    (.seq (.reg [o 85 (.mov (.t 13))] false)
    (.cond (.t 85) (.seq (.reg [o 8 (.mov (.c (.bool false)))] false)
      (.ret))
      (.skip))))
  (.seq (.seq (.reg [o 87 (.load 5 true (.t 4)),
      o 88 (.mov (.t 1)),
      o 89 (.call false (.f 31) [.t 87, .t 88]),
      o 86 (.mov (.t 89)),
      o 90 (.extract (.t 86) 0),
      o 91 (.extract (.t 86) 1),
      o 14 (.zero [.int .i64 0, .int .i64 0, .str ⟨#[]⟩, .ns 5, .ns 6]),
      ⟨none, none, .store 5 (.t 14) (.t 90), []⟩,
      o 15 (.mov (.t 91))] false)
    (.seq (.reg [o 92 (.mov (.t 15)),
      ob 93 (.mov (.t 92)) [0],
      ⟨(some 94), (some (93, true)), .load 5 true (.t 4), [0, 1]⟩,
      ⟨(some 95), (some (93, true)), .mov (.t 1), [0, 1]⟩,
      ⟨(some 96), (some (93, true)), .load 5 true (.t 14), [0, 1]⟩,
      ⟨(some 97), (some (93, true)), .call false (.f 33) [.t 94, .t 95, .t 96], (rg 0 5)⟩,
      ⟨(some 98), (some (93, true)), .load 5 true (.t 4), [0, 1]⟩,
      ⟨(some 99), (some (93, true)), .call false (.f 20) [.t 97, .t 98], (rg 0 7)⟩,
      ⟨(some 100), (some (93, true)), .un .not (.t 99), (rg 0 8)⟩,
      ob 101 (.pick (.t 93) (.t 100) (.c (.bool false))) (rg 0 9)] true)
    (.cond (.t 101) (.seq (.reg [o 8 (.mov (.c (.bool false)))] false)
      (.ret))
      (.skip))))
  (.seq (.reg [o 103 (.load 5 true (.t 4)),
    o 104 (.mov (.t 2)),
    o 105 (.call false (.f 31) [.t 103, .t 104]),
    o 102 (.mov (.t 105)),
    o 106 (.extract (.t 102) 0),
    o 107 (.extract (.t 102) 1),
    o 16 (.zero [.int .i64 0, .int .i64 0, .str ⟨#[]⟩, .ns 5, .ns 6]),
    ⟨none, none, .store 5 (.t 16) (.t 106), []⟩,
    o 17 (.mov (.t 107))] false)
  (.seq (.reg [o 109 (.load 5 true (.t 9)),
    o 110 (.mov (.t 2)),
    o 111 (.call false (.f 31) [.t 109, .t 110]),
    o 108 (.mov (.t 111)),
    o 112 (.extract (.t 108) 0),
    o 113 (.extract (.t 108) 1),
    o 18 (.zero [.int .i64 0, .int .i64 0, .str ⟨#[]⟩, .ns 5, .ns 6]),
    ⟨none, none, .store 5 (.t 18) (.t 112), []⟩,
    o 19 (.mov (.t 113))] false)
  (.seq (.reg [o 114 (.mov (.t 2)),
    o 115 (.mov (.t 1)),
    o 116 (.bin .eql (.t 114) (.t 115)),
    o 117 (.mov (.t 116)),
    ⟨(some 118), (some (117, false)), .mov (.t 17), []⟩,
    ⟨(some 119), (some (117, false)), .mov (.t 19), []⟩,
    ⟨(some 120), (some (117, false)), .eqb false (.t 118) (.t 119), []⟩,
    ⟨(some 121), (some (117, false)), .mov (.t 120), []⟩,
    ⟨(some 122), (some (121, true)), .load 5 true (.t 16), []⟩,
    ⟨(some 123), (some (121, true)), .load 5 true (.t 18), []⟩,
    ⟨(some 124), (some (121, true)), .call false (.f 20) [.t 122, .t 123], []⟩,
    ⟨(some 125), (some (117, false)), .pick (.t 121) (.t 124) (.c (.bool false)), []⟩,
    o 126 (.pick (.t 117) (.c (.bool true)) (.t 125)),
    o 127 (.mov (.t 126)),
    ⟨(some 128), (some (127, true)), .call false (.f 10) [], []⟩,
    o 129 (.pick (.t 127) (.t 128) (.c (.bool false))),
    o 8 (.mov (.t 129))] false)
  (.ret))))))))))
def law04_ValueMaps : IFn := ⟨4, 130, [.tmp 8], false, law04_ValueMaps_c⟩

/-- function 9: orchestrator/ orchestratorlaw04.small -/
def law04_small_c : IR :=
  .seq (.reg [o 1 (.box 5 (.t 0)),
    o 2 (.mov (.c (.bool false)))] false)
  (.seq (.reg [o 3 (.load 5 true (.t 1)),
    o 4 (.call false (.f 37) [.t 3, .c (.int .i64 400)]),
    o 2 (.mov (.t 4))] false)
  (.ret))
def law04_small : IFn := ⟨1, 5, [.tmp 2], false, law04_small_c⟩

/-- function 10: orchestrator/ orchestratorlaw04.awake -/
def law04_awake_c : IR :=
  .seq (.reg [o 0 (.mov (.c (.bool false)))] false)
  (.seq (.reg [o 4 (.call false (.f 25) [.c (.int .i64 1)]),
    o 5 (.build [.str ⟨#[]⟩, .int .i64 0, .int .i64 0, .str ⟨#[]⟩, .ns 5, .ns 6] [(0, 1, .c (.str ⟨#[98]⟩)), (1, 5, .t 4)]),
    o 6 (.call false (.f 25) [.c (.int .i64 2)]),
    o 7 (.build [.str ⟨#[]⟩, .int .i64 0, .int .i64 0, .str ⟨#[]⟩, .ns 5, .ns 6] [(0, 1, .c (.str ⟨#[97]⟩)), (1, 5, .t 6)]),
    o 8 (.call false (.f 25) [.c (.int .i64 3)]),
    o 9 (.build [.str ⟨#[]⟩, .int .i64 0, .int .i64 0, .str ⟨#[]⟩, .ns 5, .ns 6] [(0, 1, .c (.str ⟨#[98]⟩)), (1, 5, .t 8)]),
    o 10 (.lit 6 3 [.str ⟨#[]⟩, .int .i64 0, .int .i64 0, .str ⟨#[]⟩, .ns 5, .ns 6] [(0, .t 5), (1, .t 7), (2, .t 9)]),
    o 11 (.call false (.f 22) [.t 10]),
    o 1 (.zero [.int .i64 0, .int .i64 0, .str ⟨#[]⟩, .ns 5, .ns 6]),
    ⟨none, none, .store 5 (.t 1) (.t 11), []⟩] false)
  (.seq (.reg [o 13 (.load 5 true (.t 1)),
    o 14 (.call false (.f 31) [.t 13, .c (.str ⟨#[98]⟩)]),
    o 12 (.mov (.t 14)),
    o 15 (.extract (.t 12) 0),
    o 16 (.extract (.t 12) 1),
    o 2 (.zero [.int .i64 0, .int .i64 0, .str ⟨#[]⟩, .ns 5, .ns 6]),
    ⟨none, none, .store 5 (.t 2) (.t 15), []⟩,
    o 3 (.mov (.t 16))] false)
  (.seq (.reg [o 17 (.faddr 4 (.t 1)),
    o 18 (.load 1 false (.t 17)),
    o 19 (.len false (.t 18)),
    o 20 (.bin .eql (.t 19) (.c (.int .i64 2))),
    o 21 (.mov (.t 20)),
    ⟨(some 22), (some (21, true)), .faddr 4 (.t 1), []⟩,
    ⟨(some 23), (some (21, true)), .load 1 false (.t 22), []⟩,
    ⟨(some 24), (some (21, true)), .iaddr 6 (.t 23) (.c (.int .i64 0)), []⟩,
    ⟨(some 25), (some (21, true)), .faddr 0 (.t 24), []⟩,
    ⟨(some 26), (some (21, true)), .load 1 false (.t 25), []⟩,
    ⟨(some 27), (some (21, true)), .bin .eql (.t 26) (.c (.str ⟨#[97]⟩)), []⟩,
    o 28 (.pick (.t 21) (.t 27) (.c (.bool false))),
    o 29 (.mov (.t 28)),
    ⟨(some 30), (some (29, true)), .mov (.t 3), []⟩,
    o 31 (.pick (.t 29) (.t 30) (.c (.bool false))),
    o 32 (.mov (.t 31)),
    ⟨(some 33), (some (32, true)), .faddr 1 (.t 2), []⟩,
    ⟨(some 34), (some (32, true)), .load 1 false (.t 33), []⟩,
    ⟨(some 35), (some (32, true)), .bin .eql (.t 34) (.c (.int .i64 3)), []⟩,
    o 36 (.pick (.t 32) (.t 35) (.c (.bool false))),
    o 37 (.mov (.t 36)),
    ⟨(some 38), (some (37, true)), .faddr 0 (.t 2), []⟩,
    ⟨(some 39), (some (37, true)), .load 1 false (.t 38), []⟩,
    ⟨(some 40), (some (37, true)), .bin .eql (.t 39) (.c (.int .i64 2)), []⟩,
    o 41 (.pick (.t 37) (.t 40) (.c (.bool false))),
    o 42 (.mov (.t 41)),
    ⟨(some 43), (some (42, true)), .load 5 true (.t 1), []⟩,
    ⟨(some 44), (some (42, true)), .call false (.f 13) [.t 43], []⟩,
    ⟨(some 45), (some (42, true)), .bin .eql (.t 44) (.c (.int .i64 3)), []⟩,
    o 46 (.pick (.t 42) (.t 45) (.c (.bool false))),
    o 47 (.mov (.t 46)),
    ⟨(some 48), (some (47, true)), .load 5 true (.t 1), []⟩,
    ⟨(some 49), (some (47, true)), .call false (.f 15) [.t 48], []⟩,
    ⟨(some 50), (some (47, true)), .bin .eql (.t 49) (.c (.int .i64 2)), []⟩,
    o 51 (.pick (.t 47) (.t 50) (.c (.bool false))),
    o 52 (.mov (.t 51)),
    ⟨(some 53), (some (52, true)), .load 5 true (.t 1), []⟩,
    ⟨(some 54), (some (52, true)), .call false (.f 11) [.t 53], []⟩,
    o 55 (.pick (.t 52) (.t 54) (.c (.bool false))),
    o 56 (.mov (.t 55)),
    ⟨(some 57), (some (56, true)), .call false (.f 25) [.c (.int .i64 (-1))], []⟩,
    ⟨(some 58), (some (56, true)), .call false (.f 25) [.c (.int .i64 0)], []⟩,
    ⟨(some 59), (some (56, true)), .call false (.f 17) [.t 57, .t 58], []⟩,
    ⟨(some 60), (some (56, true)), .bin .eql (.t 59) (.c (.int .i64 (-1))), []⟩,
    o 61 (.pick (.t 56) (.t 60) (.c (.bool false))),
    o 62 (.mov (.t 61)),
    ⟨(some 63), (some (62, true)), .call false (.f 27) [.c (.str ⟨#[]⟩)], []⟩,
    ⟨(some 64), (some (62, true)), .call false (.f 25) [.c (.int .i64 5)], []⟩,
    ⟨(some 65), (some (62, true)), .call false (.f 17) [.t 63, .t 64], []⟩,
    ⟨(some 66), (some (62, true)), .bin .eql (.t 65) (.c (.int .i64 1)), []⟩,
    o 67 (.pick (.t 62) (.t 66) (.c (.bool false))),
    o 68 (.mov (.t 67)),
    ⟨(some 69), (some (68, true)), .call false (.f 38) [], []⟩,
    ⟨(some 70), (some (68, true)), .build [.int .i64 0, .int .i64 0, .str ⟨#[]⟩, .ns 5, .ns 6] [], []⟩,
    ⟨(some 71), (some (68, true)), .call false (.f 19) [.t 69, .t 70], []⟩,
    o 72 (.pick (.t 68) (.t 71) (.c (.bool false))),
    o 73 (.mov (.t 72)),
    ⟨(some 74), (some (73, true)), .call false (.f 27) [.c (.str ⟨#[9]⟩)], []⟩,
    ⟨(some 75), (some (73, true)), .call false (.f 11) [.t 74], []⟩,
    ⟨(some 76), (some (73, true)), .un .not (.t 75), []⟩,
    o 77 (.pick (.t 73) (.t 76) (.c (.bool false))),
    o 78 (.mov (.t 77)),
    ⟨(some 79), (some (78, true)), .call false (.f 29) [.c (.bool true)], []⟩,
    ⟨(some 80), (some (78, true)), .field 1 1 false (.t 79), []⟩,
    ⟨(some 81), (some (78, true)), .bin .eql (.t 80) (.c (.int .i64 1)), []⟩,
    o 82 (.pick (.t 78) (.t 81) (.c (.bool false))),
    o 0 (.mov (.t 82))] false)
  (.ret))))
def law04_awake : IFn := ⟨0, 83, [.tmp 0], false, law04_awake_c⟩

/-- function 11: orchestrator/ value.Valid -/
def value_Valid_c : IR :=
  .seq (.reg [o 1 (.box 5 (.t 0)),
    o 2 (.mov (.c (.bool false)))] false)
  (.seq (.reg [o 3 (.load 5 true (.t 1)),
    o 4 (.call false (.f 39) [.t 3, .c (.int .i64 12)]),
    o 5 (.mov (.t 4)),
    ⟨(some 6), (some (5, true)), .load 5 true (.t 1), []⟩,
    ⟨(some 7), (some (5, true)), .call false (.f 13) [.t 6], []⟩,
    ⟨(some 8), (some (5, true)), .bin .leq (.t 7) (.c (.int .i64 600)), []⟩,
    o 9 (.pick (.t 5) (.t 8) (.c (.bool false))),
    o 2 (.mov (.t 9))] false)
  (.ret))
def value_Valid : IFn := ⟨1, 10, [.tmp 2], false, value_Valid_c⟩

/-- function 12: orchestrator/ orchestratorref04.Valid -/
def ref04_Valid_c : IR :=
  .seq (.reg [o 1 (.box 5 (.t 0)),
    o 2 (.mov (.c (.bool false)))] false)
  (.seq (.reg [o 3 (.load 5 true (.t 1)),
    o 4 (.call false (.f 40) [.t 3, .c (.int .i64 12)]),
    o 5 (.mov (.t 4)),
    ⟨(some 6), (some (5, true)), .load 5 true (.t 1), []⟩,
    ⟨(some 7), (some (5, true)), .call false (.f 14) [.t 6], []⟩,
    ⟨(some 8), (some (5, true)), .bin .leq (.t 7) (.c (.int .i64 600)), []⟩,
    o 9 (.pick (.t 5) (.t 8) (.c (.bool false))),
    o 2 (.mov (.t 9))] false)
  (.ret))
def ref04_Valid : IFn := ⟨1, 10, [.tmp 2], false, ref04_Valid_c⟩

/-- function 13: orchestrator/ value.Size -/
def value_Size_b1_live : List Nat := [100004, 3, 21, 22, 23]
def value_Size_b1 : IR :=
  .seq (.reg [o 24 (.bin .lss (.t 23) (.t 22))] false)
    (.seq (.cond (.t 24) (.skip)
        (.exit 2))
    (.seq (.block 3 (.seq (.reg [o 25 (.iaddr 6 (.t 21) (.t 23)),
          o 26 (.load 6 true (.t 25)),
          o 7 (.zero [.str ⟨#[]⟩, .int .i64 0, .int .i64 0, .str ⟨#[]⟩, .ns 5, .ns 6]),
          ⟨none, none, .store 6 (.t 7) (.t 26), []⟩] false)
        (.reg [o 27 (.mov (.t 3)),
        o 28 (.faddr 1 (.t 7)),
        o 29 (.load 5 true (.t 28)),
        o 30 (.call false (.f 13) [.t 29]),
        o 31 (.bin .add (.t 27) (.t 30)),
        o 3 (.mov (.t 31))] false)))
    (.reg [o 32 (.bin .add (.t 23) (.c (.int .i64 1))),
    o 23 (.mov (.t 32))] false)))
def value_Size_b0_live : List Nat := [100003, 1, 3, 9, 10, 11]
def value_Size_b0 : IR :=
  .seq (.reg [o 12 (.bin .lss (.t 11) (.t 10))] false)
    (.seq (.cond (.t 12) (.skip)
        (.exit 0))
    (.seq (.block 1 (.seq (.reg [o 13 (.iaddr 5 (.t 9) (.t 11)),
          o 14 (.load 5 true (.t 13)),
          o 5 (.zero [.int .i64 0, .int .i64 0, .str ⟨#[]⟩, .ns 5, .ns 6]),
          ⟨none, none, .store 5 (.t 5) (.t 14), []⟩] false)
        (.reg [o 15 (.mov (.t 3)),
        o 16 (.load 5 true (.t 5)),
        o 17 (.call false (.f 13) [.t 16]),
        o 18 (.bin .add (.t 15) (.t 17)),
        o 3 (.mov (.t 18))] false)))
    (.reg [o 19 (.bin .add (.t 11) (.c (.int .i64 1))),
    o 11 (.mov (.t 19))] false)))
def value_Size_c : IR :=
  .seq (.reg [o 1 (.box 5 (.t 0)),
    o 2 (.mov (.c (.int .i64 0)))] false)
  (.seq (.reg [o 3 (.mov (.c (.int .i64 1)))] false)
  (.seq (.seq (.reg [o 8 (.faddr 3 (.t 1)),
      o 9 (.load 1 false (.t 8)),
      o 10 (.len false (.t 9)),
      o 11 (.mov (.c (.int .i64 0)))] false)
    (.block 0 (.loop value_Size_b0_live value_Size_b0)))
  (.seq (.seq (.reg [o 20 (.faddr 4 (.t 1)),
      o 21 (.load 1 false (.t 20)),
      o 22 (.len false (.t 21)),
      o 23 (.mov (.c (.int .i64 0)))] false)
    (.block 2 (.loop value_Size_b1_live value_Size_b1)))
  (.seq (.reg [o 33 (.mov (.t 3)),
    o 2 (.mov (.t 33))] false)
  (.ret)))))
def value_Size : IFn := ⟨1, 34, [.tmp 2], false, value_Size_c⟩

/-- function 14: orchestrator/ orchestratorref04.Size -/
def ref04_Size_b1_live : List Nat := [100006, 1, 3, 5]
def ref04_Size_b1 : IR :=
  .seq (.seq (.reg [o 21 (.mov (.t 5)),
        o 22 (.faddr 4 (.t 1)),
        o 23 (.load 1 false (.t 22)),
        o 24 (.len false (.t 23)),
        o 25 (.bin .lss (.t 21) (.t 24))] false)
      (.cond (.t 25) (.skip)
        (.exit 2)))
    (.seq (.block 3 (.reg [o 28 (.mov (.t 3)),
        o 29 (.faddr 4 (.t 1)),
        o 30 (.load 1 false (.t 29)),
        o 31 (.mov (.t 5)),
        o 32 (.iaddr 6 (.t 30) (.t 31)),
        o 33 (.faddr 1 (.t 32)),
        o 34 (.load 5 true (.t 33)),
        o 35 (.call false (.f 14) [.t 34]),
        o 36 (.bin .add (.t 28) (.t 35)),
        o 3 (.mov (.t 36))] false))
    (.reg [o 26 (.mov (.t 5)),
    o 27 (.bin .add (.t 26) (.c (.int .i64 1))),
    o 5 (.mov (.t 27))] false))
def ref04_Size_b0_live : List Nat := [100005, 1, 3, 4]
def ref04_Size_b0 : IR :=
  .seq (.seq (.reg [o 6 (.mov (.t 4)),
        o 7 (.faddr 3 (.t 1)),
        o 8 (.load 1 false (.t 7)),
        o 9 (.len false (.t 8)),
        o 10 (.bin .lss (.t 6) (.t 9))] false)
      (.cond (.t 10) (.skip)
        (.exit 0)))
    (.seq (.block 1 (.reg [o 13 (.mov (.t 3)),
        o 14 (.faddr 3 (.t 1)),
        o 15 (.load 1 false (.t 14)),
        o 16 (.mov (.t 4)),
        o 17 (.iaddr 5 (.t 15) (.t 16)),
        o 18 (.load 5 true (.t 17)),
        o 19 (.call false (.f 14) [.t 18]),
        o 20 (.bin .add (.t 13) (.t 19)),
        o 3 (.mov (.t 20))] false))
    (.reg [o 11 (.mov (.t 4)),
    o 12 (.bin .add (.t 11) (.c (.int .i64 1))),
    o 4 (.mov (.t 12))] false))
def ref04_Size_c : IR :=
  .seq (.reg [o 1 (.box 5 (.t 0)),
    o 2 (.mov (.c (.int .i64 0)))] false)
  (.seq (.reg [o 3 (.mov (.c (.int .i64 1)))] false)
  (.seq (.seq (.reg [o 4 (.mov (.c (.int .i64 0)))] false)
    (.block 0 (.loop ref04_Size_b0_live ref04_Size_b0)))
  (.seq (.seq (.reg [o 5 (.mov (.c (.int .i64 0)))] false)
    (.block 2 (.loop ref04_Size_b1_live ref04_Size_b1)))
  (.seq (.reg [o 37 (.mov (.t 3)),
    o 2 (.mov (.t 37))] false)
  (.ret)))))
def ref04_Size : IFn := ⟨1, 38, [.tmp 2], false, ref04_Size_c⟩

/-- function 15: orchestrator/ value.Depth -/
def value_Depth_b1_live : List Nat := [100008, 3, 21, 22, 23]
def value_Depth_b1 : IR :=
  .seq (.reg [o 24 (.bin .lss (.t 23) (.t 22))] false)
    (.seq (.cond (.t 24) (.skip)
        (.exit 2))
    (.seq (.block 3 (.seq (.reg [o 25 (.iaddr 6 (.t 21) (.t 23)),
          o 26 (.load 6 true (.t 25)),
          o 7 (.zero [.str ⟨#[]⟩, .int .i64 0, .int .i64 0, .str ⟨#[]⟩, .ns 5, .ns 6]),
          ⟨none, none, .store 6 (.t 7) (.t 26), []⟩] false)
        (.reg [o 27 (.mov (.t 3)),
        o 28 (.faddr 1 (.t 7)),
        o 29 (.load 5 true (.t 28)),
        o 30 (.call false (.f 15) [.t 29]),
        o 31 (.mnmx true (.t 27) [.t 30]),
        o 3 (.mov (.t 31))] false)))
    (.reg [o 32 (.bin .add (.t 23) (.c (.int .i64 1))),
    o 23 (.mov (.t 32))] false)))
def value_Depth_b0_live : List Nat := [100007, 1, 3, 9, 10, 11]
def value_Depth_b0 : IR :=
  .seq (.reg [o 12 (.bin .lss (.t 11) (.t 10))] false)
    (.seq (.cond (.t 12) (.skip)
        (.exit 0))
    (.seq (.block 1 (.seq (.reg [o 13 (.iaddr 5 (.t 9) (.t 11)),
          o 14 (.load 5 true (.t 13)),
          o 5 (.zero [.int .i64 0, .int .i64 0, .str ⟨#[]⟩, .ns 5, .ns 6]),
          ⟨none, none, .store 5 (.t 5) (.t 14), []⟩] false)
        (.reg [o 15 (.mov (.t 3)),
        o 16 (.load 5 true (.t 5)),
        o 17 (.call false (.f 15) [.t 16]),
        o 18 (.mnmx true (.t 15) [.t 17]),
        o 3 (.mov (.t 18))] false)))
    (.reg [o 19 (.bin .add (.t 11) (.c (.int .i64 1))),
    o 11 (.mov (.t 19))] false)))
def value_Depth_c : IR :=
  .seq (.reg [o 1 (.box 5 (.t 0)),
    o 2 (.mov (.c (.int .i64 0)))] false)
  (.seq (.reg [o 3 (.mov (.c (.int .i64 0)))] false)
  (.seq (.seq (.reg [o 8 (.faddr 3 (.t 1)),
      o 9 (.load 1 false (.t 8)),
      o 10 (.len false (.t 9)),
      o 11 (.mov (.c (.int .i64 0)))] false)
    (.block 0 (.loop value_Depth_b0_live value_Depth_b0)))
  (.seq (.seq (.reg [o 20 (.faddr 4 (.t 1)),
      o 21 (.load 1 false (.t 20)),
      o 22 (.len false (.t 21)),
      o 23 (.mov (.c (.int .i64 0)))] false)
    (.block 2 (.loop value_Depth_b1_live value_Depth_b1)))
  (.seq (.reg [o 33 (.mov (.t 3)),
    o 34 (.bin .add (.t 33) (.c (.int .i64 1))),
    o 2 (.mov (.t 34))] false)
  (.ret)))))
def value_Depth : IFn := ⟨1, 35, [.tmp 2], false, value_Depth_c⟩

/-- function 16: orchestrator/ orchestratorref04.Depth -/
def ref04_Depth_b1_live : List Nat := [100010, 1, 3, 5]
def ref04_Depth_b1 : IR :=
  .seq (.seq (.reg [o 21 (.mov (.t 5)),
        o 22 (.faddr 4 (.t 1)),
        o 23 (.load 1 false (.t 22)),
        o 24 (.len false (.t 23)),
        o 25 (.bin .lss (.t 21) (.t 24))] false)
      (.cond (.t 25) (.skip)
        (.exit 2)))
    (.seq (.block 3 (.reg [o 28 (.mov (.t 3)),
        o 29 (.faddr 4 (.t 1)),
        o 30 (.load 1 false (.t 29)),
        o 31 (.mov (.t 5)),
        o 32 (.iaddr 6 (.t 30) (.t 31)),
        o 33 (.faddr 1 (.t 32)),
        o 34 (.load 5 true (.t 33)),
        o 35 (.call false (.f 16) [.t 34]),
        o 36 (.mnmx true (.t 28) [.t 35]),
        o 3 (.mov (.t 36))] false))
    (.reg [o 26 (.mov (.t 5)),
    o 27 (.bin .add (.t 26) (.c (.int .i64 1))),
    o 5 (.mov (.t 27))] false))
def ref04_Depth_b0_live : List Nat := [100009, 1, 3, 4]
def ref04_Depth_b0 : IR :=
  .seq (.seq (.reg [o 6 (.mov (.t 4)),
        o 7 (.faddr 3 (.t 1)),
        o 8 (.load 1 false (.t 7)),
        o 9 (.len false (.t 8)),
        o 10 (.bin .lss (.t 6) (.t 9))] false)
      (.cond (.t 10) (.skip)
        (.exit 0)))
    (.seq (.block 1 (.reg [o 13 (.mov (.t 3)),
        o 14 (.faddr 3 (.t 1)),
        o 15 (.load 1 false (.t 14)),
        o 16 (.mov (.t 4)),
        o 17 (.iaddr 5 (.t 15) (.t 16)),
        o 18 (.load 5 true (.t 17)),
        o 19 (.call false (.f 16) [.t 18]),
        o 20 (.mnmx true (.t 13) [.t 19]),
        o 3 (.mov (.t 20))] false))
    (.reg [o 11 (.mov (.t 4)),
    o 12 (.bin .add (.t 11) (.c (.int .i64 1))),
    o 4 (.mov (.t 12))] false))
def ref04_Depth_c : IR :=
  .seq (.reg [o 1 (.box 5 (.t 0)),
    o 2 (.mov (.c (.int .i64 0)))] false)
  (.seq (.reg [o 3 (.mov (.c (.int .i64 0)))] false)
  (.seq (.seq (.reg [o 4 (.mov (.c (.int .i64 0)))] false)
    (.block 0 (.loop ref04_Depth_b0_live ref04_Depth_b0)))
  (.seq (.seq (.reg [o 5 (.mov (.c (.int .i64 0)))] false)
    (.block 2 (.loop ref04_Depth_b1_live ref04_Depth_b1)))
  (.seq (.reg [o 37 (.mov (.t 3)),
    o 38 (.bin .add (.t 37) (.c (.int .i64 1))),
    o 2 (.mov (.t 38))] false)
  (.ret)))))
def ref04_Depth : IFn := ⟨1, 39, [.tmp 2], false, ref04_Depth_c⟩

/-- function 17: orchestrator/ value.Compare -/
def value_Compare_c : IR :=
  .seq (.reg [o 2 (.box 5 (.t 0)),
    o 3 (.box 5 (.t 1)),
    o 4 (.mov (.c (.int .i64 0)))] false)
  (.seq (.reg [o 5 (.faddr 0 (.t 2)),
    ob 6 (.load 1 false (.t 5)) [0],
    o 7 (.faddr 0 (.t 3)),
    ob 8 (.load 1 false (.t 7)) [2],
    ob 9 (.call false (.f 42) [.t 6, .t 8]) [0, 1, 2, 3],
    o 10 (.faddr 1 (.t 2)),
    ob 11 (.load 1 false (.t 10)) [5],
    o 12 (.faddr 1 (.t 3)),
    ob 13 (.load 1 false (.t 12)) [7],
    ob 14 (.call false (.f 42) [.t 11, .t 13]) (rg 0 9),
    o 15 (.faddr 2 (.t 2)),
    ob 16 (.load 1 false (.t 15)) [10],
    o 17 (.faddr 2 (.t 3)),
    ob 18 (.load 1 false (.t 17)) [12],
    ob 19 (.call false (.f 43) [.t 16, .t 18]) (rg 0 14),
    o 20 (.faddr 3 (.t 2)),
    ob 21 (.load 1 false (.t 20)) [15],
    o 22 (.faddr 3 (.t 3)),
    ob 23 (.load 1 false (.t 22)) [17],
    ob 24 (.call false (.f 44) [.t 21, .t 23, .f 17]) (rg 0 19),
    o 25 (.faddr 4 (.t 2)),
    ob 26 (.load 1 false (.t 25)) [20],
    o 27 (.faddr 4 (.t 3)),
    ob 28 (.load 1 false (.t 27)) [22],
    ob 29 (.call false (.f 45) [.t 26, .t 28, .f 46]) (rg 0 24),
    ob 30 (.lit 1 5 [.int .i64 0] [(0, .t 9), (1, .t 14), (2, .t 19), (3, .t 24), (4, .t 29)]) (rg 0 25),
    ob 31 (.call false (.f 41) [.t 30]) (rg 0 26),
    ob 4 (.mov (.t 31)) (rg 0 27)] true)
  (.ret))
def value_Compare : IFn := ⟨2, 32, [.tmp 4], false, value_Compare_c⟩

/-- function 18: orchestrator/ orchestratorref04.Compare -/
def ref04_Compare_b1_live : List Nat := [100012, 2, 3, 5, 7]
def ref04_Compare_b1 : IR :=
  .seq (.seq (.reg [o 91 (.mov (.t 7)),
        o 92 (.faddr 4 (.t 2)),
        o 93 (.load 1 false (.t 92)),
        o 94 (.len false (.t 93)),
        o 95 (.bin .lss (.t 91) (.t 94)),
        o 96 (.mov (.t 95)),
        ⟨(some 97), (some (96, true)), .mov (.t 7), []⟩,
        ⟨(some 98), (some (96, true)), .faddr 4 (.t 3), []⟩,
        ⟨(some 99), (some (96, true)), .load 1 false (.t 98), []⟩,
        ⟨(some 100), (some (96, true)), .len false (.t 99), []⟩,
        ⟨(some 101), (some (96, true)), .bin .lss (.t 97) (.t 100), []⟩,
        o 102 (.pick (.t 96) (.t 101) (.c (.bool false))),
        o 103 (.mov (.t 102)),
        ⟨(some 104), (some (103, true)), .mov (.t 5), []⟩,
        ⟨(some 105), (some (103, true)), .bin .eql (.t 104) (.c (.int .i64 0)), []⟩,
        o 106 (.pick (.t 103) (.t 105) (.c (.bool false)))] false)
      (.cond (.t 106) (.skip)
        (.exit 2)))
    (.seq (.block 3 (.seq (.reg [o 109 (.faddr 4 (.t 2)),
          ob 110 (.load 1 false (.t 109)) [0],
          o 111 (.mov (.t 7)),
          ob 112 (.iaddr 6 (.t 110) (.t 111)) [0, 1, 2],
          ob 113 (.faddr 0 (.t 112)) [0, 1, 2, 3],
          ob 114 (.load 1 false (.t 113)) (rg 0 5),
          o 115 (.faddr 4 (.t 3)),
          ob 116 (.load 1 false (.t 115)) [6],
          o 117 (.mov (.t 7)),
          ob 118 (.iaddr 6 (.t 116) (.t 117)) [6, 7, 8],
          ob 119 (.faddr 0 (.t 118)) [6, 7, 8, 9],
          ob 120 (.load 1 false (.t 119)) (rg 6 11),
          ob 121 (.bin .lss (.t 114) (.t 120)) (rg 0 12),
          o 122 (.faddr 4 (.t 2)),
          ob 123 (.load 1 false (.t 122)) [13],
          o 124 (.mov (.t 7)),
          ob 125 (.iaddr 6 (.t 123) (.t 124)) [13, 14, 15],
          ob 126 (.faddr 0 (.t 125)) [13, 14, 15, 16],
          ob 127 (.load 1 false (.t 126)) (rg 13 18),
          o 128 (.faddr 4 (.t 3)),
          ob 129 (.load 1 false (.t 128)) [19],
          o 130 (.mov (.t 7)),
          ob 131 (.iaddr 6 (.t 129) (.t 130)) [19, 20, 21],
          ob 132 (.faddr 0 (.t 131)) [19, 20, 21, 22],
          ob 133 (.load 1 false (.t 132)) (rg 19 24),
          ob 134 (.bin .gtr (.t 127) (.t 133)) (rg 13 25),
          ob 135 (.call false (.f 47) [.t 121, .t 134]) (rg 0 26),
          ob 5 (.mov (.t 135)) (rg 0 27)] true)
        (.seq (.reg [o 136 (.mov (.t 5)),
          o 137 (.bin .eql (.t 136) (.c (.int .i64 0)))] false)
        (.cond (.t 137) (.reg [o 138 (.faddr 4 (.t 2)),
          ob 139 (.load 1 false (.t 138)) [0],
          o 140 (.mov (.t 7)),
          ob 141 (.iaddr 6 (.t 139) (.t 140)) [0, 1, 2],
          ob 142 (.faddr 1 (.t 141)) [0, 1, 2, 3],
          ob 143 (.load 5 true (.t 142)) (rg 0 5),
          o 144 (.faddr 4 (.t 3)),
          ob 145 (.load 1 false (.t 144)) [6],
          o 146 (.mov (.t 7)),
          ob 147 (.iaddr 6 (.t 145) (.t 146)) [6, 7, 8],
          ob 148 (.faddr 1 (.t 147)) [6, 7, 8, 9],
          ob 149 (.load 5 true (.t 148)) (rg 6 11),
          ob 150 (.call false (.f 18) [.t 143, .t 149]) (rg 0 12),
          ob 5 (.mov (.t 150)) (rg 0 13)] true)
          (.skip)))))
    (.reg [o 107 (.mov (.t 7)),
    o 108 (.bin .add (.t 107) (.c (.int .i64 1))),
    o 7 (.mov (.t 108))] false))
def ref04_Compare_b0_live : List Nat := [100011, 2, 3, 5, 6]
def ref04_Compare_b0 : IR :=
  .seq (.seq (.reg [o 45 (.mov (.t 6)),
        o 46 (.faddr 3 (.t 2)),
        o 47 (.load 1 false (.t 46)),
        o 48 (.len false (.t 47)),
        o 49 (.bin .lss (.t 45) (.t 48)),
        o 50 (.mov (.t 49)),
        ⟨(some 51), (some (50, true)), .mov (.t 6), []⟩,
        ⟨(some 52), (some (50, true)), .faddr 3 (.t 3), []⟩,
        ⟨(some 53), (some (50, true)), .load 1 false (.t 52), []⟩,
        ⟨(some 54), (some (50, true)), .len false (.t 53), []⟩,
        ⟨(some 55), (some (50, true)), .bin .lss (.t 51) (.t 54), []⟩,
        o 56 (.pick (.t 50) (.t 55) (.c (.bool false))),
        o 57 (.mov (.t 56)),
        ⟨(some 58), (some (57, true)), .mov (.t 5), []⟩,
        ⟨(some 59), (some (57, true)), .bin .eql (.t 58) (.c (.int .i64 0)), []⟩,
        o 60 (.pick (.t 57) (.t 59) (.c (.bool false)))] false)
      (.cond (.t 60) (.skip)
        (.exit 0)))
    (.seq (.block 1 (.reg [o 63 (.faddr 3 (.t 2)),
        ob 64 (.load 1 false (.t 63)) [0],
        o 65 (.mov (.t 6)),
        ob 66 (.iaddr 5 (.t 64) (.t 65)) [0, 1, 2],
        ob 67 (.load 5 true (.t 66)) [0, 1, 2, 3],
        o 68 (.faddr 3 (.t 3)),
        ob 69 (.load 1 false (.t 68)) [5],
        o 70 (.mov (.t 6)),
        ob 71 (.iaddr 5 (.t 69) (.t 70)) [5, 6, 7],
        ob 72 (.load 5 true (.t 71)) [5, 6, 7, 8],
        ob 73 (.call false (.f 18) [.t 67, .t 72]) (rg 0 10),
        ob 5 (.mov (.t 73)) (rg 0 11)] true))
    (.reg [o 61 (.mov (.t 6)),
    o 62 (.bin .add (.t 61) (.c (.int .i64 1))),
    o 6 (.mov (.t 62))] false))
def ref04_Compare_c : IR :=
  .seq (.reg [o 2 (.box 5 (.t 0)),
    o 3 (.box 5 (.t 1)),
    o 4 (.mov (.c (.int .i64 0)))] false)
  (.seq (.reg [o 8 (.faddr 0 (.t 2)),
    o 9 (.load 1 false (.t 8)),
    o 10 (.faddr 0 (.t 3)),
    o 11 (.load 1 false (.t 10)),
    o 12 (.bin .lss (.t 9) (.t 11)),
    o 13 (.faddr 0 (.t 2)),
    o 14 (.load 1 false (.t 13)),
    o 15 (.faddr 0 (.t 3)),
    o 16 (.load 1 false (.t 15)),
    o 17 (.bin .gtr (.t 14) (.t 16)),
    o 18 (.call false (.f 47) [.t 12, .t 17]),
    o 5 (.mov (.t 18))] false)
  (.seq (.seq (.reg [o 19 (.mov (.t 5)),
      o 20 (.bin .eql (.t 19) (.c (.int .i64 0)))] false)
    (.cond (.t 20) (.reg [o 21 (.faddr 1 (.t 2)),
      o 22 (.load 1 false (.t 21)),
      o 23 (.faddr 1 (.t 3)),
      o 24 (.load 1 false (.t 23)),
      o 25 (.bin .lss (.t 22) (.t 24)),
      o 26 (.faddr 1 (.t 2)),
      o 27 (.load 1 false (.t 26)),
      o 28 (.faddr 1 (.t 3)),
      o 29 (.load 1 false (.t 28)),
      o 30 (.bin .gtr (.t 27) (.t 29)),
      o 31 (.call false (.f 47) [.t 25, .t 30]),
      o 5 (.mov (.t 31))] false)
      (.skip)))
  (.seq (.seq (.reg [o 32 (.mov (.t 5)),
      o 33 (.bin .eql (.t 32) (.c (.int .i64 0)))] false)
    (.cond (.t 33) (.reg [o 34 (.faddr 2 (.t 2)),
      o 35 (.load 1 false (.t 34)),
      o 36 (.faddr 2 (.t 3)),
      o 37 (.load 1 false (.t 36)),
      o 38 (.bin .lss (.t 35) (.t 37)),
      o 39 (.faddr 2 (.t 2)),
      o 40 (.load 1 false (.t 39)),
      o 41 (.faddr 2 (.t 3)),
      o 42 (.load 1 false (.t 41)),
      o 43 (.bin .gtr (.t 40) (.t 42)),
      o 44 (.call false (.f 47) [.t 38, .t 43]),
      o 5 (.mov (.t 44))] false)
      (.skip)))
  (.seq (.seq (.reg [o 6 (.mov (.c (.int .i64 0)))] false)
    (.block 0 (.loop ref04_Compare_b0_live ref04_Compare_b0)))
  (.seq (.seq (.reg [o 74 (.mov (.t 5)),
      o 75 (.bin .eql (.t 74) (.c (.int .i64 0)))] false)
    (.cond (.t 75) (.reg [o 76 (.faddr 3 (.t 2)),
      o 77 (.load 1 false (.t 76)),
      o 78 (.len false (.t 77)),
      o 79 (.faddr 3 (.t 3)),
      o 80 (.load 1 false (.t 79)),
      o 81 (.len false (.t 80)),
      o 82 (.bin .lss (.t 78) (.t 81)),
      o 83 (.faddr 3 (.t 2)),
      o 84 (.load 1 false (.t 83)),
      o 85 (.len false (.t 84)),
      o 86 (.faddr 3 (.t 3)),
      o 87 (.load 1 false (.t 86)),
      o 88 (.len false (.t 87)),
      o 89 (.bin .gtr (.t 85) (.t 88)),
      o 90 (.call false (.f 47) [.t 82, .t 89]),
      o 5 (.mov (.t 90))] false)
      (.skip)))
  (.seq (.seq (.reg [o 7 (.mov (.c (.int .i64 0)))] false)
    (.block 2 (.loop ref04_Compare_b1_live ref04_Compare_b1)))
  (.seq (.seq (.reg [o 151 (.mov (.t 5)),
      o 152 (.bin .eql (.t 151) (.c (.int .i64 0)))] false)
    (.cond (.t 152) (.reg [o 153 (.faddr 4 (.t 2)),
      o 154 (.load 1 false (.t 153)),
      o 155 (.len false (.t 154)),
      o 156 (.faddr 4 (.t 3)),
      o 157 (.load 1 false (.t 156)),
      o 158 (.len false (.t 157)),
      o 159 (.bin .lss (.t 155) (.t 158)),
      o 160 (.faddr 4 (.t 2)),
      o 161 (.load 1 false (.t 160)),
      o 162 (.len false (.t 161)),
      o 163 (.faddr 4 (.t 3)),
      o 164 (.load 1 false (.t 163)),
      o 165 (.len false (.t 164)),
      o 166 (.bin .gtr (.t 162) (.t 165)),
      o 167 (.call false (.f 47) [.t 159, .t 166]),
      o 5 (.mov (.t 167))] false)
      (.skip)))
  (.seq (.reg [o 168 (.mov (.t 5)),
    o 4 (.mov (.t 168))] false)
  (.ret)))))))))
def ref04_Compare : IFn := ⟨2, 169, [.tmp 4], false, ref04_Compare_c⟩

/-- function 19: orchestrator/ value.Equal -/
def value_Equal_c : IR :=
  .seq (.reg [o 2 (.box 5 (.t 0)),
    o 3 (.box 5 (.t 1)),
    o 4 (.mov (.c (.bool false)))] false)
  (.seq (.reg [o 5 (.load 5 true (.t 2)),
    o 6 (.load 5 true (.t 3)),
    o 7 (.call false (.f 17) [.t 5, .t 6]),
    o 8 (.bin .eql (.t 7) (.c (.int .i64 0))),
    o 4 (.mov (.t 8))] false)
  (.ret))
def value_Equal : IFn := ⟨2, 9, [.tmp 4], false, value_Equal_c⟩

/-- function 20: orchestrator/ orchestratorref04.Equal -/
def ref04_Equal_c : IR :=
  .seq (.reg [o 2 (.box 5 (.t 0)),
    o 3 (.box 5 (.t 1)),
    o 4 (.mov (.c (.bool false)))] false)
  (.seq (.reg [o 5 (.load 5 true (.t 2)),
    o 6 (.load 5 true (.t 3)),
    o 7 (.call false (.f 18) [.t 5, .t 6]),
    o 8 (.bin .eql (.t 7) (.c (.int .i64 0))),
    o 4 (.mov (.t 8))] false)
  (.ret))
def ref04_Equal : IFn := ⟨2, 9, [.tmp 4], false, ref04_Equal_c⟩

/-- function 21: orchestrator/ value.List -/
def value_List_c : IR :=
  .seq (.reg [o 2 (.zero [.int .i64 0, .int .i64 0, .str ⟨#[]⟩, .ns 5, .ns 6])] false)
  (.seq (.reg [o 3 (.mov (.t 0)),
    o 4 (.build [.int .i64 0, .int .i64 0, .str ⟨#[]⟩, .ns 5, .ns 6] [(0, 1, .c (.int .i64 4)), (3, 1, .t 3)]),
    o 5 (.call false (.f 48) [.t 4]),
    ⟨none, none, .store 5 (.t 2) (.t 5), []⟩] false)
  (.ret))
def value_List : IFn := ⟨1, 6, [.cell 2 5 true], false, value_List_c⟩

/-- function 22: orchestrator/ value.Map -/
def value_Map_b0_live : List Nat := [100013, 2, 3, 4, 12, 13, 14]
def value_Map_b0 : IR :=
  .seq (.reg [o 15 (.bin .lss (.t 14) (.t 13))] false)
    (.seq (.cond (.t 15) (.skip)
        (.exit 0))
    (.seq (.block 1 (.seq (.reg [o 16 (.mov (.t 14)),
          o 17 (.iaddr 6 (.t 12) (.t 14)),
          o 18 (.load 6 true (.t 17)),
          o 6 (.zero [.str ⟨#[]⟩, .int .i64 0, .int .i64 0, .str ⟨#[]⟩, .ns 5, .ns 6]),
          o 5 (.mov (.t 16)),
          ⟨none, none, .store 6 (.t 6) (.t 18), []⟩] false)
        (.seq (.reg [o 19 (.mov (.t 5)),
          ob 20 (.bin .add (.t 19) (.c (.int .i64 1))) [0],
          o 21 (.mov (.t 3)),
          ob 22 (.len false (.t 21)) [2],
          ob 23 (.bin .eql (.t 20) (.t 22)) [0, 1, 2, 3],
          ob 24 (.mov (.t 23)) (rg 0 5),
          ⟨(some 25), (some (24, false)), .mov (.t 3), (rg 0 6)⟩,
          ⟨(some 26), (some (24, false)), .mov (.t 5), (rg 0 6)⟩,
          ⟨(some 27), (some (24, false)), .bin .add (.t 26) (.c (.int .i64 1)), (rg 0 6 ++ [7])⟩,
          ⟨(some 28), (some (24, false)), .iaddr 6 (.t 25) (.t 27), (rg 0 9)⟩,
          ⟨(some 29), (some (24, false)), .faddr 0 (.t 28), (rg 0 10)⟩,
          ⟨(some 30), (some (24, false)), .load 1 false (.t 29), (rg 0 11)⟩,
          ⟨(some 31), (some (24, false)), .faddr 0 (.t 6), (rg 0 6)⟩,
          ⟨(some 32), (some (24, false)), .load 1 false (.t 31), (rg 0 6 ++ [12])⟩,
          ⟨(some 33), (some (24, false)), .bin .neq (.t 30) (.t 32), (rg 0 14)⟩,
          ob 34 (.pick (.t 24) (.c (.bool true)) (.t 33)) (rg 0 15)] true)
        (.cond (.t 34) (.reg [o 35 (.faddr 4 (.t 4)),
          o 36 (.load 1 false (.t 35)),
          o 37 (.load 6 true (.t 6)),
          o 38 (.lit 6 1 [.str ⟨#[]⟩, .int .i64 0, .int .i64 0, .str ⟨#[]⟩, .ns 5, .ns 6] [(0, .t 37)]),
          o 39 (.append 6 96 (.t 36) (.t 38)),
          o 40 (.faddr 4 (.t 4)),
          ⟨none, none, .store 1 (.t 40) (.t 39), []⟩] false)
          (.skip)))))
    (.reg [o 41 (.bin .add (.t 14) (.c (.int .i64 1))),
    o 14 (.mov (.t 41))] false)))
def value_Map_c : IR :=
  .seq (.reg [o 2 (.zero [.int .i64 0, .int .i64 0, .str ⟨#[]⟩, .ns 5, .ns 6])] false)
  (.seq (.reg [o 7 (.mov (.t 0)),
    o 8 (.call false (.f 49) [.t 7]),
    o 3 (.mov (.t 8))] false)
  (.seq (.reg [o 9 (.mov (.t 3)),
    o 10 (.call true (.f 50) [.t 9, .f 51])] false)
  (.seq (.reg [o 11 (.build [.int .i64 0, .int .i64 0, .str ⟨#[]⟩, .ns 5, .ns 6] [(0, 1, .c (.int .i64 5))]),
    o 4 (.zero [.int .i64 0, .int .i64 0, .str ⟨#[]⟩, .ns 5, .ns 6]),
    ⟨none, none, .store 5 (.t 4) (.t 11), []⟩] false)
  (.seq (.seq (.reg [o 12 (.mov (.t 3)),
      o 13 (.len false (.t 12)),
      o 14 (.mov (.c (.int .i64 0)))] false)
    (.block 0 (.loop value_Map_b0_live value_Map_b0)))
  (.seq (.reg [o 42 (.load 5 true (.t 4)),
    o 43 (.call false (.f 48) [.t 42]),
    ⟨none, none, .store 5 (.t 2) (.t 43), []⟩] false)
  (.ret))))))
def value_Map : IFn := ⟨1, 44, [.cell 2 5 true], false, value_Map_c⟩

/-- function 23: orchestrator/ orchestratorref04.List -/
def ref04_List_b0_live : List Nat := [100014, 0, 2, 3, 4]
def ref04_List_b0 : IR :=
  .seq (.seq (.reg [o 6 (.mov (.t 4)),
        o 7 (.mov (.t 0)),
        o 8 (.len false (.t 7)),
        o 9 (.bin .lss (.t 6) (.t 8))] false)
      (.cond (.t 9) (.skip)
        (.exit 0)))
    (.seq (.block 1 (.reg [o 12 (.faddr 3 (.t 3)),
        ob 13 (.load 1 false (.t 12)) [0],
        o 14 (.mov (.t 0)),
        o 15 (.mov (.t 4)),
        ob 16 (.iaddr 5 (.t 14) (.t 15)) [2, 3],
        ob 17 (.load 5 true (.t 16)) [2, 3, 4],
        ob 18 (.call false (.f 52) [.t 17]) [2, 3, 4, 5],
        ob 19 (.lit 5 1 [.int .i64 0, .int .i64 0, .str ⟨#[]⟩, .ns 5, .ns 6] [(0, .t 18)]) (rg 2 7),
        ob 20 (.append 5 80 (.t 13) (.t 19)) (rg 0 8),
        ob 21 (.faddr 3 (.t 3)) (rg 0 9),
        ⟨none, none, .store 1 (.t 21) (.t 20), (rg 0 10)⟩] true))
    (.reg [o 10 (.mov (.t 4)),
    o 11 (.bin .add (.t 10) (.c (.int .i64 1))),
    o 4 (.mov (.t 11))] false))
def ref04_List_c : IR :=
  .seq (.reg [o 2 (.zero [.int .i64 0, .int .i64 0, .str ⟨#[]⟩, .ns 5, .ns 6])] false)
  (.seq (.reg [o 5 (.build [.int .i64 0, .int .i64 0, .str ⟨#[]⟩, .ns 5, .ns 6] [(0, 1, .c (.int .i64 4))]),
    o 3 (.zero [.int .i64 0, .int .i64 0, .str ⟨#[]⟩, .ns 5, .ns 6]),
    ⟨none, none, .store 5 (.t 3) (.t 5), []⟩] false)
  (.seq (.seq (.reg [o 4 (.mov (.c (.int .i64 0)))] false)
    (.block 0 (.loop ref04_List_b0_live ref04_List_b0)))
  (.seq (.reg [o 22 (.load 5 true (.t 3)),
    ⟨none, none, .store 5 (.t 2) (.t 22), []⟩] false)
  (.ret))))
def ref04_List : IFn := ⟨1, 23, [.cell 2 5 true], false, ref04_List_c⟩

/-- function 24: orchestrator/ orchestratorref04.Map -/
def ref04_Map_b0_live : List Nat := [100015, 0, 2, 3, 4]
def ref04_Map_b0 : IR :=
  .seq (.seq (.reg [o 6 (.mov (.t 4)),
        o 7 (.mov (.t 0)),
        o 8 (.len false (.t 7)),
        o 9 (.bin .lss (.t 6) (.t 8))] false)
      (.cond (.t 9) (.skip)
        (.exit 0)))
    (.seq (.block 1 (.reg [o 12 (.faddr 4 (.t 3)),
        ob 13 (.load 1 false (.t 12)) [0],
        o 14 (.mov (.t 0)),
        o 15 (.mov (.t 4)),
        ob 16 (.iaddr 6 (.t 14) (.t 15)) [2, 3],
        ob 17 (.faddr 0 (.t 16)) [2, 3, 4],
        ob 18 (.load 1 false (.t 17)) [2, 3, 4, 5],
        o 19 (.mov (.t 0)),
        o 20 (.mov (.t 4)),
        ob 21 (.iaddr 6 (.t 19) (.t 20)) [7, 8],
        ob 22 (.faddr 1 (.t 21)) [7, 8, 9],
        ob 23 (.load 5 true (.t 22)) [7, 8, 9, 10],
        ob 24 (.call false (.f 52) [.t 23]) (rg 7 12),
        ob 25 (.build [.str ⟨#[]⟩, .int .i64 0, .int .i64 0, .str ⟨#[]⟩, .ns 5, .ns 6] [(0, 1, .t 18), (1, 5, .t 24)]) (rg 2 13),
        ob 26 (.call false (.f 53) [.t 13, .t 25]) (rg 0 14),
        ob 27 (.faddr 4 (.t 3)) (rg 0 15),
        ⟨none, none, .store 1 (.t 27) (.t 26), (rg 0 16)⟩] true))
    (.reg [o 10 (.mov (.t 4)),
    o 11 (.bin .add (.t 10) (.c (.int .i64 1))),
    o 4 (.mov (.t 11))] false))
def ref04_Map_c : IR :=
  .seq (.reg [o 2 (.zero [.int .i64 0, .int .i64 0, .str ⟨#[]⟩, .ns 5, .ns 6])] false)
  (.seq (.reg [o 5 (.build [.int .i64 0, .int .i64 0, .str ⟨#[]⟩, .ns 5, .ns 6] [(0, 1, .c (.int .i64 5))]),
    o 3 (.zero [.int .i64 0, .int .i64 0, .str ⟨#[]⟩, .ns 5, .ns 6]),
    ⟨none, none, .store 5 (.t 3) (.t 5), []⟩] false)
  (.seq (.seq (.reg [o 4 (.mov (.c (.int .i64 0)))] false)
    (.block 0 (.loop ref04_Map_b0_live ref04_Map_b0)))
  (.seq (.reg [o 28 (.load 5 true (.t 3)),
    ⟨none, none, .store 5 (.t 2) (.t 28), []⟩] false)
  (.ret))))
def ref04_Map : IFn := ⟨1, 29, [.cell 2 5 true], false, ref04_Map_c⟩

/-- function 25: orchestrator/ value.Int -/
def value_Int_c : IR :=
  .seq (.reg [o 2 (.zero [.int .i64 0, .int .i64 0, .str ⟨#[]⟩, .ns 5, .ns 6])] false)
  (.seq (.reg [o 3 (.mov (.t 0)),
    o 4 (.build [.int .i64 0, .int .i64 0, .str ⟨#[]⟩, .ns 5, .ns 6] [(0, 1, .c (.int .i64 2)), (1, 1, .t 3)]),
    ⟨none, none, .store 5 (.t 2) (.t 4), []⟩] false)
  (.ret))
def value_Int : IFn := ⟨1, 5, [.cell 2 5 true], false, value_Int_c⟩

/-- function 26: orchestrator/ orchestratorref04.Int -/
def ref04_Int_c : IR :=
  .seq (.reg [o 2 (.zero [.int .i64 0, .int .i64 0, .str ⟨#[]⟩, .ns 5, .ns 6])] false)
  (.seq (.reg [o 3 (.mov (.t 0)),
    o 4 (.build [.int .i64 0, .int .i64 0, .str ⟨#[]⟩, .ns 5, .ns 6] [(0, 1, .c (.int .i64 2)), (1, 1, .t 3)]),
    ⟨none, none, .store 5 (.t 2) (.t 4), []⟩] false)
  (.ret))
def ref04_Int : IFn := ⟨1, 5, [.cell 2 5 true], false, ref04_Int_c⟩

/-- function 27: orchestrator/ value.String -/
def value_String_c : IR :=
  .seq (.reg [o 2 (.zero [.int .i64 0, .int .i64 0, .str ⟨#[]⟩, .ns 5, .ns 6])] false)
  (.seq (.reg [o 3 (.mov (.t 0)),
    o 4 (.build [.int .i64 0, .int .i64 0, .str ⟨#[]⟩, .ns 5, .ns 6] [(0, 1, .c (.int .i64 3)), (2, 1, .t 3)]),
    ⟨none, none, .store 5 (.t 2) (.t 4), []⟩] false)
  (.ret))
def value_String : IFn := ⟨1, 5, [.cell 2 5 true], false, value_String_c⟩

/-- function 28: orchestrator/ orchestratorref04.String -/
def ref04_String_c : IR :=
  .seq (.reg [o 2 (.zero [.int .i64 0, .int .i64 0, .str ⟨#[]⟩, .ns 5, .ns 6])] false)
  (.seq (.reg [o 3 (.mov (.t 0)),
    o 4 (.build [.int .i64 0, .int .i64 0, .str ⟨#[]⟩, .ns 5, .ns 6] [(0, 1, .c (.int .i64 3)), (2, 1, .t 3)]),
    ⟨none, none, .store 5 (.t 2) (.t 4), []⟩] false)
  (.ret))
def ref04_String : IFn := ⟨1, 5, [.cell 2 5 true], false, ref04_String_c⟩

/-- function 29: orchestrator/ value.Bool -/
def value_Bool_c : IR :=
  .seq (.reg [o 2 (.zero [.int .i64 0, .int .i64 0, .str ⟨#[]⟩, .ns 5, .ns 6])] false)
  (.seq (.reg [o 4 (.build [.int .i64 0, .int .i64 0, .str ⟨#[]⟩, .ns 5, .ns 6] [(0, 1, .c (.int .i64 1))]),
    o 3 (.zero [.int .i64 0, .int .i64 0, .str ⟨#[]⟩, .ns 5, .ns 6]),
    ⟨none, none, .store 5 (.t 3) (.t 4), []⟩] false)
  (.seq (.seq (.reg [o 5 (.mov (.t 0))] false)
    (.cond (.t 5) (.reg [o 6 (.faddr 1 (.t 3)),
      ⟨none, none, .store 1 (.t 6) (.c (.int .i64 1)), []⟩] false)
      (.skip)))
  (.seq (.reg [o 7 (.load 5 true (.t 3)),
    ⟨none, none, .store 5 (.t 2) (.t 7), []⟩] false)
  (.ret))))
def value_Bool : IFn := ⟨1, 8, [.cell 2 5 true], false, value_Bool_c⟩

/-- function 30: orchestrator/ orchestratorref04.Bool -/
def ref04_Bool_c : IR :=
  .seq (.reg [o 2 (.zero [.int .i64 0, .int .i64 0, .str ⟨#[]⟩, .ns 5, .ns 6])] false)
  (.seq (.seq (.reg [o 3 (.mov (.t 0))] false)
    (.cond (.t 3) (.seq (.reg [o 4 (.build [.int .i64 0, .int .i64 0, .str ⟨#[]⟩, .ns 5, .ns 6] [(0, 1, .c (.int .i64 1)), (1, 1, .c (.int .i64 1))]),
        ⟨none, none, .store 5 (.t 2) (.t 4), []⟩] false)
      (.ret))
      (.skip)))
  (.seq (.reg [o 5 (.build [.int .i64 0, .int .i64 0, .str ⟨#[]⟩, .ns 5, .ns 6] [(0, 1, .c (.int .i64 1))]),
    ⟨none, none, .store 5 (.t 2) (.t 5), []⟩] false)
  (.ret)))
def ref04_Bool : IFn := ⟨1, 6, [.cell 2 5 true], false, ref04_Bool_c⟩

/-- function 31: orchestrator/ value.Get -/
def value_Get_b0_live : List Nat := [100016, 1, 4, 12, 13, 14]
def value_Get_b0 : IR :=
  .seq (.reg [o 15 (.bin .lss (.t 14) (.t 13))] false)
    (.seq (.cond (.t 15) (.skip)
        (.exit 0))
    (.seq (.block 1 (.seq (.reg [o 16 (.iaddr 6 (.t 12) (.t 14)),
          o 17 (.load 6 true (.t 16)),
          o 7 (.zero [.str ⟨#[]⟩, .int .i64 0, .int .i64 0, .str ⟨#[]⟩, .ns 5, .ns 6]),
          ⟨none, none, .store 6 (.t 7) (.t 17), []⟩] false)
        (.seq (.reg [o 18 (.faddr 0 (.t 7)),
          o 19 (.load 1 false (.t 18)),
          o 20 (.mov (.t 1)),
          o 21 (.bin .eql (.t 19) (.t 20))] false)
        (.cond (.t 21) (.seq (.reg [o 22 (.faddr 1 (.t 7)),
            o 23 (.load 5 true (.t 22)),
            o 24 (.call false (.f 48) [.t 23]),
            ⟨none, none, .store 5 (.t 4) (.t 24), []⟩,
            o 5 (.mov (.c (.bool true)))] false)
          (.ret))
          (.skip)))))
    (.reg [o 25 (.bin .add (.t 14) (.c (.int .i64 1))),
    o 14 (.mov (.t 25))] false)))
def value_Get_c : IR :=
  .seq (.reg [o 2 (.box 5 (.t 0)),
    o 4 (.zero [.int .i64 0, .int .i64 0, .str ⟨#[]⟩, .ns 5, .ns 6]),
    o 5 (.mov (.c (.bool false)))] false)
  (.seq (.seq (.reg [o 8 (.faddr 0 (.t 2)),
      o 9 (.load 1 false (.t 8)),
      o 10 (.bin .eql (.t 9) (.c (.int .i64 5)))] false)
    (.cond (.t 10) (.seq (.reg [o 11 (.faddr 4 (.t 2)),
        o 12 (.load 1 false (.t 11)),
        o 13 (.len false (.t 12)),
        o 14 (.mov (.c (.int .i64 0)))] false)
      (.block 0 (.loop value_Get_b0_live value_Get_b0)))
      (.skip)))
  (.seq (.reg [o 26 (.build [.int .i64 0, .int .i64 0, .str ⟨#[]⟩, .ns 5, .ns 6] []),
    ⟨none, none, .store 5 (.t 4) (.t 26), []⟩,
    o 5 (.mov (.c (.bool false)))] false)
  (.ret)))
def value_Get : IFn := ⟨2, 27, [.cell 4 5 true, .tmp 5], false, value_Get_c⟩

/-- function 32: orchestrator/ orchestratorref04.Get -/
def ref04_Get_b0_live : List Nat := [100017, 1, 2, 4, 6]
def ref04_Get_b0 : IR :=
  .seq (.seq (.reg [o 10 (.mov (.t 6)),
        o 11 (.faddr 4 (.t 2)),
        o 12 (.load 1 false (.t 11)),
        o 13 (.len false (.t 12)),
        o 14 (.bin .lss (.t 10) (.t 13))] false)
      (.cond (.t 14) (.skip)
        (.exit 0)))
    (.seq (.block 1 (.seq (.reg [o 17 (.faddr 4 (.t 2)),
          o 18 (.load 1 false (.t 17)),
          o 19 (.mov (.t 6)),
          o 20 (.iaddr 6 (.t 18) (.t 19)),
          o 21 (.faddr 0 (.t 20)),
          o 22 (.load 1 false (.t 21)),
          o 23 (.mov (.t 1)),
          o 24 (.bin .eql (.t 22) (.t 23))] false)
        (.cond (.t 24) (.seq (.reg [o 25 (.faddr 4 (.t 2)),
            o 26 (.load 1 false (.t 25)),
            o 27 (.mov (.t 6)),
            o 28 (.iaddr 6 (.t 26) (.t 27)),
            o 29 (.faddr 1 (.t 28)),
            o 30 (.load 5 true (.t 29)),
            o 31 (.call false (.f 52) [.t 30]),
            ⟨none, none, .store 5 (.t 4) (.t 31), []⟩,
            o 5 (.mov (.c (.bool true)))] false)
          (.ret))
          (.skip))))
    (.reg [o 15 (.mov (.t 6)),
    o 16 (.bin .add (.t 15) (.c (.int .i64 1))),
    o 6 (.mov (.t 16))] false))
def ref04_Get_c : IR :=
  .seq (.reg [o 2 (.box 5 (.t 0)),
    o 4 (.zero [.int .i64 0, .int .i64 0, .str ⟨#[]⟩, .ns 5, .ns 6]),
    o 5 (.mov (.c (.bool false)))] false)
  (.seq (.seq (.reg [o 7 (.faddr 0 (.t 2)),
      o 8 (.load 1 false (.t 7)),
      o 9 (.bin .eql (.t 8) (.c (.int .i64 5)))] false)
    (.cond (.t 9) (.seq (.reg [o 6 (.mov (.c (.int .i64 0)))] false)
      (.block 0 (.loop ref04_Get_b0_live ref04_Get_b0)))
      (.skip)))
  (.seq (.reg [o 32 (.build [.int .i64 0, .int .i64 0, .str ⟨#[]⟩, .ns 5, .ns 6] []),
    ⟨none, none, .store 5 (.t 4) (.t 32), []⟩,
    o 5 (.mov (.c (.bool false)))] false)
  (.ret)))
def ref04_Get : IFn := ⟨2, 33, [.cell 4 5 true, .tmp 5], false, ref04_Get_c⟩

/-- function 33: orchestrator/ value.With -/
def value_With_c : IR :=
  .seq (.reg [o 3 (.box 5 (.t 0)),
    o 5 (.box 5 (.t 2)),
    o 6 (.zero [.int .i64 0, .int .i64 0, .str ⟨#[]⟩, .ns 5, .ns 6])] false)
  (.seq (.reg [o 7 (.load 5 true (.t 3)),
    o 8 (.mov (.t 1)),
    ob 9 (.call false (.f 54) [.t 7, .t 8]) [0, 1],
    o 10 (.mov (.t 1)),
    o 11 (.load 5 true (.t 5)),
    ob 12 (.build [.str ⟨#[]⟩, .int .i64 0, .int .i64 0, .str ⟨#[]⟩, .ns 5, .ns 6] [(0, 1, .t 10), (1, 5, .t 11)]) [3, 4],
    ob 13 (.lit 6 1 [.str ⟨#[]⟩, .int .i64 0, .int .i64 0, .str ⟨#[]⟩, .ns 5, .ns 6] [(0, .t 12)]) [3, 4, 5],
    ob 14 (.append 6 96 (.t 9) (.t 13)) (rg 0 7),
    ob 15 (.call false (.f 22) [.t 14]) (rg 0 8),
    ⟨none, none, .store 5 (.t 6) (.t 15), (rg 0 9)⟩] true)
  (.ret))
def value_With : IFn := ⟨3, 16, [.cell 6 5 true], false, value_With_c⟩

/-- function 34: orchestrator/ orchestratorref04.With -/
def ref04_With_c : IR :=
  .seq (.reg [o 3 (.box 5 (.t 0)),
    o 5 (.box 5 (.t 2)),
    o 6 (.zero [.int .i64 0, .int .i64 0, .str ⟨#[]⟩, .ns 5, .ns 6])] false)
  (.seq (.reg [o 8 (.load 5 true (.t 3)),
    o 9 (.mov (.t 1)),
    o 10 (.call false (.f 55) [.t 8, .t 9]),
    o 7 (.mov (.t 10))] false)
  (.seq (.reg [o 11 (.mov (.t 7)),
    o 12 (.mov (.t 1)),
    o 13 (.load 5 true (.t 5)),
    o 14 (.build [.str ⟨#[]⟩, .int .i64 0, .int .i64 0, .str ⟨#[]⟩, .ns 5, .ns 6] [(0, 1, .t 12), (1, 5, .t 13)]),
    o 15 (.lit 6 1 [.str ⟨#[]⟩, .int .i64 0, .int .i64 0, .str ⟨#[]⟩, .ns 5, .ns 6] [(0, .t 14)]),
    o 16 (.append 6 96 (.t 11) (.t 15)),
    o 7 (.mov (.t 16))] false)
  (.seq (.reg [o 17 (.mov (.t 7)),
    o 18 (.call false (.f 24) [.t 17]),
    ⟨none, none, .store 5 (.t 6) (.t 18), []⟩] false)
  (.ret))))
def ref04_With : IFn := ⟨3, 19, [.cell 6 5 true], false, ref04_With_c⟩

/-- function 35: orchestrator/ value.Without -/
def value_Without_c : IR :=
  .seq (.reg [o 2 (.box 5 (.t 0)),
    o 4 (.zero [.int .i64 0, .int .i64 0, .str ⟨#[]⟩, .ns 5, .ns 6])] false)
  (.seq (.seq (.reg [o 5 (.faddr 0 (.t 2)),
      o 6 (.load 1 false (.t 5)),
      o 7 (.bin .neq (.t 6) (.c (.int .i64 5)))] false)
    (.cond (.t 7) (.seq (.reg [o 8 (.load 5 true (.t 2)),
        o 9 (.call false (.f 48) [.t 8]),
        ⟨none, none, .store 5 (.t 4) (.t 9), []⟩] false)
      (.ret))
      (.skip)))
  (.seq (.reg [o 10 (.load 5 true (.t 2)),
    o 11 (.mov (.t 1)),
    o 12 (.call false (.f 54) [.t 10, .t 11]),
    o 13 (.call false (.f 22) [.t 12]),
    ⟨none, none, .store 5 (.t 4) (.t 13), []⟩] false)
  (.ret)))
def value_Without : IFn := ⟨2, 14, [.cell 4 5 true], false, value_Without_c⟩

/-- function 36: orchestrator/ orchestratorref04.Without -/
def ref04_Without_c : IR :=
  .seq (.reg [o 2 (.box 5 (.t 0)),
    o 4 (.zero [.int .i64 0, .int .i64 0, .str ⟨#[]⟩, .ns 5, .ns 6])] false)
  (.seq (.seq (.reg [o 5 (.faddr 0 (.t 2)),
      o 6 (.load 1 false (.t 5)),
      o 7 (.bin .neq (.t 6) (.c (.int .i64 5)))] false)
    (.cond (.t 7) (.seq (.reg [o 8 (.load 5 true (.t 2)),
        o 9 (.call false (.f 52) [.t 8]),
        ⟨none, none, .store 5 (.t 4) (.t 9), []⟩] false)
      (.ret))
      (.skip)))
  (.seq (.reg [o 10 (.load 5 true (.t 2)),
    o 11 (.mov (.t 1)),
    o 12 (.call false (.f 55) [.t 10, .t 11]),
    o 13 (.call false (.f 24) [.t 12]),
    ⟨none, none, .store 5 (.t 4) (.t 13), []⟩] false)
  (.ret)))
def ref04_Without : IFn := ⟨2, 14, [.cell 4 5 true], false, ref04_Without_c⟩

/-- function 37: orchestrator/ orchestratorref04.Small -/
def ref04_Small_c : IR :=
  .seq (.reg [o 2 (.box 5 (.t 0)),
    o 4 (.mov (.c (.bool false)))] false)
  (.seq (.reg [o 5 (.load 5 true (.t 2)),
    o 6 (.mov (.t 1)),
    o 7 (.mov (.t 1)),
    o 8 (.call false (.f 56) [.t 5, .t 6, .t 7]),
    o 9 (.bin .geq (.t 8) (.c (.int .i64 0))),
    o 4 (.mov (.t 9))] false)
  (.ret))
def ref04_Small : IFn := ⟨2, 10, [.tmp 4], false, ref04_Small_c⟩

/-- function 38: orchestrator/ value.Null -/
def value_Null_c : IR :=
  .seq (.reg [o 0 (.zero [.int .i64 0, .int .i64 0, .str ⟨#[]⟩, .ns 5, .ns 6])] false)
  (.seq (.reg [o 1 (.build [.int .i64 0, .int .i64 0, .str ⟨#[]⟩, .ns 5, .ns 6] [(0, 1, .c (.int .i64 0))]),
    ⟨none, none, .store 5 (.t 0) (.t 1), []⟩] false)
  (.ret))
def value_Null : IFn := ⟨0, 2, [.cell 0 5 true], false, value_Null_c⟩

/-- function 39: orchestrator/ value.valid -/
def value_valid_b1_live : List Nat := [100019, 1, 2, 64, 65, 66]
def value_valid_b1 : IR :=
  .seq (.reg [o 67 (.bin .lss (.t 66) (.t 65))] false)
    (.seq (.cond (.t 67) (.skip)
        (.exit 2))
    (.seq (.block 3 (.seq (.reg [o 68 (.mov (.t 66)),
          o 69 (.iaddr 6 (.t 64) (.t 66)),
          o 70 (.load 6 true (.t 69)),
          o 8 (.zero [.str ⟨#[]⟩, .int .i64 0, .int .i64 0, .str ⟨#[]⟩, .ns 5, .ns 6]),
          o 7 (.mov (.t 68)),
          ⟨none, none, .store 6 (.t 8) (.t 70), []⟩] false)
        (.seq (.reg [o 71 (.faddr 0 (.t 8)),
          ob 72 (.load 1 false (.t 71)) [0],
          ob 73 (.call false (.f 58) [.t 72]) [0, 1],
          ob 74 (.un .not (.t 73)) [0, 1, 2],
          ob 75 (.mov (.t 74)) [0, 1, 2, 3],
          ⟨(some 76), (some (75, false)), .mov (.t 7), (rg 0 5)⟩,
          ⟨(some 77), (some (75, false)), .bin .gtr (.t 76) (.c (.int .i64 0)), (rg 0 6)⟩,
          ⟨(some 78), (some (75, false)), .mov (.t 77), (rg 0 7)⟩,
          ⟨(some 79), (some (78, true)), .faddr 4 (.t 2), (rg 0 8)⟩,
          ⟨(some 80), (some (78, true)), .load 1 false (.t 79), (rg 0 9)⟩,
          ⟨(some 81), (some (78, true)), .mov (.t 7), (rg 0 8)⟩,
          ⟨(some 82), (some (78, true)), .bin .sub (.t 81) (.c (.int .i64 1)), (rg 0 8 ++ [10])⟩,
          ⟨(some 83), (some (78, true)), .iaddr 6 (.t 80) (.t 82), (rg 0 12)⟩,
          ⟨(some 84), (some (78, true)), .faddr 0 (.t 83), (rg 0 13)⟩,
          ⟨(some 85), (some (78, true)), .load 1 false (.t 84), (rg 0 14)⟩,
          ⟨(some 86), (some (78, true)), .faddr 0 (.t 8), (rg 0 8)⟩,
          ⟨(some 87), (some (78, true)), .load 1 false (.t 86), (rg 0 8 ++ [15])⟩,
          ⟨(some 88), (some (78, true)), .bin .geq (.t 85) (.t 87), (rg 0 17)⟩,
          ⟨(some 89), (some (75, false)), .pick (.t 78) (.t 88) (.c (.bool false)), (rg 0 18)⟩,
          ob 90 (.pick (.t 75) (.c (.bool true)) (.t 89)) (rg 0 19),
          ob 91 (.mov (.t 90)) (rg 0 20),
          ⟨(some 92), (some (91, false)), .faddr 1 (.t 8), (rg 0 21)⟩,
          ⟨(some 93), (some (91, false)), .load 5 true (.t 92), (rg 0 22)⟩,
          ⟨(some 94), (some (91, false)), .mov (.t 1), (rg 0 21)⟩,
          ⟨(some 95), (some (91, false)), .bin .sub (.t 94) (.c (.int .i64 1)), (rg 0 21 ++ [23])⟩,
          ⟨(some 96), (some (91, false)), .call false (.f 39) [.t 93, .t 95], (rg 0 25)⟩,
          ⟨(some 97), (some (91, false)), .un .not (.t 96), (rg 0 26)⟩,
          ob 98 (.pick (.t 91) (.c (.bool true)) (.t 97)) (rg 0 27)] true)
        (.cond (.t 98) (.seq (.reg [o 4 (.mov (.c (.bool false)))] false)
          (.ret))
          (.skip)))))
    (.reg [o 99 (.bin .add (.t 66) (.c (.int .i64 1))),
    o 66 (.mov (.t 99))] false)))
def value_valid_b0_live : List Nat := [100018, 1, 2, 51, 52, 53]
def value_valid_b0 : IR :=
  .seq (.reg [o 54 (.bin .lss (.t 53) (.t 52))] false)
    (.seq (.cond (.t 54) (.skip)
        (.exit 0))
    (.seq (.block 1 (.seq (.reg [o 55 (.iaddr 5 (.t 51) (.t 53)),
          o 56 (.load 5 true (.t 55)),
          o 6 (.zero [.int .i64 0, .int .i64 0, .str ⟨#[]⟩, .ns 5, .ns 6]),
          ⟨none, none, .store 5 (.t 6) (.t 56), []⟩] false)
        (.seq (.reg [o 57 (.load 5 true (.t 6)),
          o 58 (.mov (.t 1)),
          o 59 (.bin .sub (.t 58) (.c (.int .i64 1))),
          o 60 (.call false (.f 39) [.t 57, .t 59]),
          o 61 (.un .not (.t 60))] false)
        (.cond (.t 61) (.seq (.reg [o 4 (.mov (.c (.bool false)))] false)
          (.ret))
          (.skip)))))
    (.reg [o 62 (.bin .add (.t 53) (.c (.int .i64 1))),
    o 53 (.mov (.t 62))] false)))
def value_valid_c : IR :=
  .seq (.reg [o 2 (.box 5 (.t 0)),
    o 4 (.mov (.c (.bool false)))] false)
  (.seq (.seq (.reg [o 9 (.mov (.t 1)),
      o 10 (.bin .eql (.t 9) (.c (.int .i64 0))),
      o 11 (.mov (.t 10)),
      ⟨(some 12), (some (11, false)), .load 5 true (.t 2), []⟩,
      ⟨(some 13), (some (11, false)), .call false (.f 57) [.t 12], []⟩,
      ⟨(some 14), (some (11, false)), .un .not (.t 13), []⟩,
      o 15 (.pick (.t 11) (.c (.bool true)) (.t 14)),
      o 16 (.mov (.t 15)),
      ⟨(some 17), (some (16, false)), .faddr 0 (.t 2), []⟩,
      ⟨(some 18), (some (16, false)), .load 1 false (.t 17), []⟩,
      ⟨(some 19), (some (16, false)), .bin .neq (.t 18) (.c (.int .i64 4)), []⟩,
      ⟨(some 20), (some (16, false)), .mov (.t 19), []⟩,
      ⟨(some 21), (some (20, true)), .faddr 3 (.t 2), []⟩,
      ⟨(some 22), (some (20, true)), .load 1 false (.t 21), []⟩,
      ⟨(some 23), (some (20, true)), .len false (.t 22), []⟩,
      ⟨(some 24), (some (20, true)), .bin .gtr (.t 23) (.c (.int .i64 0)), []⟩,
      ⟨(some 25), (some (16, false)), .pick (.t 20) (.t 24) (.c (.bool false)), []⟩,
      o 26 (.pick (.t 16) (.c (.bool true)) (.t 25)),
      o 27 (.mov (.t 26)),
      ⟨(some 28), (some (27, false)), .faddr 0 (.t 2), []⟩,
      ⟨(some 29), (some (27, false)), .load 1 false (.t 28), []⟩,
      ⟨(some 30), (some (27, false)), .bin .neq (.t 29) (.c (.int .i64 5)), []⟩,
      ⟨(some 31), (some (27, false)), .mov (.t 30), []⟩,
      ⟨(some 32), (some (31, true)), .faddr 4 (.t 2), []⟩,
      ⟨(some 33), (some (31, true)), .load 1 false (.t 32), []⟩,
      ⟨(some 34), (some (31, true)), .len false (.t 33), []⟩,
      ⟨(some 35), (some (31, true)), .bin .gtr (.t 34) (.c (.int .i64 0)), []⟩,
      ⟨(some 36), (some (27, false)), .pick (.t 31) (.t 35) (.c (.bool false)), []⟩,
      o 37 (.pick (.t 27) (.c (.bool true)) (.t 36)),
      o 38 (.mov (.t 37)),
      ⟨(some 39), (some (38, false)), .faddr 3 (.t 2), []⟩,
      ⟨(some 40), (some (38, false)), .load 1 false (.t 39), []⟩,
      ⟨(some 41), (some (38, false)), .len false (.t 40), []⟩,
      ⟨(some 42), (some (38, false)), .bin .gtr (.t 41) (.c (.int .i64 64)), []⟩,
      o 43 (.pick (.t 38) (.c (.bool true)) (.t 42)),
      o 44 (.mov (.t 43)),
      ⟨(some 45), (some (44, false)), .faddr 4 (.t 2), []⟩,
      ⟨(some 46), (some (44, false)), .load 1 false (.t 45), []⟩,
      ⟨(some 47), (some (44, false)), .len false (.t 46), []⟩,
      ⟨(some 48), (some (44, false)), .bin .gtr (.t 47) (.c (.int .i64 64)), []⟩,
      o 49 (.pick (.t 44) (.c (.bool true)) (.t 48))] false)
    (.cond (.t 49) (.seq (.reg [o 4 (.mov (.c (.bool false)))] false)
      (.ret))
      (.skip)))
  (.seq (.seq (.reg [o 50 (.faddr 3 (.t 2)),
      o 51 (.load 1 false (.t 50)),
      o 52 (.len false (.t 51)),
      o 53 (.mov (.c (.int .i64 0)))] false)
    (.block 0 (.loop value_valid_b0_live value_valid_b0)))
  (.seq (.seq (.reg [o 63 (.faddr 4 (.t 2)),
      o 64 (.load 1 false (.t 63)),
      o 65 (.len false (.t 64)),
      o 66 (.mov (.c (.int .i64 0)))] false)
    (.block 2 (.loop value_valid_b1_live value_valid_b1)))
  (.seq (.reg [o 4 (.mov (.c (.bool true)))] false)
  (.ret)))))
def value_valid : IFn := ⟨2, 100, [.tmp 4], false, value_valid_c⟩

/-- function 40: orchestrator/ orchestratorref04.valid -/
def ref04_valid_b1_live : List Nat := [100021, 1, 2, 6]
def ref04_valid_b1 : IR :=
  .seq (.seq (.reg [o 62 (.mov (.t 6)),
        o 63 (.faddr 4 (.t 2)),
        o 64 (.load 1 false (.t 63)),
        o 65 (.len false (.t 64)),
        o 66 (.bin .lss (.t 62) (.t 65))] false)
      (.cond (.t 66) (.skip)
        (.exit 2)))
    (.seq (.block 3 (.seq (.reg [o 69 (.faddr 4 (.t 2)),
          ob 70 (.load 1 false (.t 69)) [0],
          o 71 (.mov (.t 6)),
          ob 72 (.iaddr 6 (.t 70) (.t 71)) [0, 1, 2],
          ob 73 (.faddr 0 (.t 72)) [0, 1, 2, 3],
          ob 74 (.load 1 false (.t 73)) (rg 0 5),
          ob 75 (.call false (.f 60) [.t 74]) (rg 0 6),
          ob 76 (.un .not (.t 75)) (rg 0 7),
          ob 77 (.mov (.t 76)) (rg 0 8),
          ⟨(some 78), (some (77, false)), .mov (.t 6), (rg 0 9)⟩,
          ⟨(some 79), (some (77, false)), .bin .gtr (.t 78) (.c (.int .i64 0)), (rg 0 10)⟩,
          ⟨(some 80), (some (77, false)), .mov (.t 79), (rg 0 11)⟩,
          ⟨(some 81), (some (80, true)), .faddr 4 (.t 2), (rg 0 12)⟩,
          ⟨(some 82), (some (80, true)), .load 1 false (.t 81), (rg 0 13)⟩,
          ⟨(some 83), (some (80, true)), .mov (.t 6), (rg 0 12)⟩,
          ⟨(some 84), (some (80, true)), .iaddr 6 (.t 82) (.t 83), (rg 0 15)⟩,
          ⟨(some 85), (some (80, true)), .faddr 0 (.t 84), (rg 0 16)⟩,
          ⟨(some 86), (some (80, true)), .load 1 false (.t 85), (rg 0 17)⟩,
          ⟨(some 87), (some (80, true)), .faddr 4 (.t 2), (rg 0 12)⟩,
          ⟨(some 88), (some (80, true)), .load 1 false (.t 87), (rg 0 12 ++ [18])⟩,
          ⟨(some 89), (some (80, true)), .mov (.t 6), (rg 0 12)⟩,
          ⟨(some 90), (some (80, true)), .bin .sub (.t 89) (.c (.int .i64 1)), (rg 0 12 ++ [20])⟩,
          ⟨(some 91), (some (80, true)), .iaddr 6 (.t 88) (.t 90), (rg 0 12 ++ rg 18 22)⟩,
          ⟨(some 92), (some (80, true)), .faddr 0 (.t 91), (rg 0 12 ++ rg 18 23)⟩,
          ⟨(some 93), (some (80, true)), .load 1 false (.t 92), (rg 0 12 ++ rg 18 24)⟩,
          ⟨(some 94), (some (80, true)), .bin .leq (.t 86) (.t 93), (rg 0 25)⟩,
          ⟨(some 95), (some (77, false)), .pick (.t 80) (.t 94) (.c (.bool false)), (rg 0 26)⟩,
          ob 96 (.pick (.t 77) (.c (.bool true)) (.t 95)) (rg 0 27),
          ob 97 (.mov (.t 96)) (rg 0 28),
          ⟨(some 98), (some (97, false)), .faddr 4 (.t 2), (rg 0 29)⟩,
          ⟨(some 99), (some (97, false)), .load 1 false (.t 98), (rg 0 30)⟩,
          ⟨(some 100), (some (97, false)), .mov (.t 6), (rg 0 29)⟩,
          ⟨(some 101), (some (97, false)), .iaddr 6 (.t 99) (.t 100), (rg 0 32)⟩,
          ⟨(some 102), (some (97, false)), .faddr 1 (.t 101), (rg 0 33)⟩,
          ⟨(some 103), (some (97, false)), .load 5 true (.t 102), (rg 0 34)⟩,
          ⟨(some 104), (some (97, false)), .mov (.t 1), (rg 0 29)⟩,
          ⟨(some 105), (some (97, false)), .bin .sub (.t 104) (.c (.int .i64 1)), (rg 0 29 ++ [35])⟩,
          ⟨(some 106), (some (97, false)), .call false (.f 40) [.t 103, .t 105], (rg 0 37)⟩,
          ⟨(some 107), (some (97, false)), .un .not (.t 106), (rg 0 38)⟩,
          ob 108 (.pick (.t 97) (.c (.bool true)) (.t 107)) (rg 0 39)] true)
        (.cond (.t 108) (.seq (.reg [o 4 (.mov (.c (.bool false)))] false)
          (.ret))
          (.skip))))
    (.reg [o 67 (.mov (.t 6)),
    o 68 (.bin .add (.t 67) (.c (.int .i64 1))),
    o 6 (.mov (.t 68))] false))
def ref04_valid_b0_live : List Nat := [100020, 1, 2, 5]
def ref04_valid_b0 : IR :=
  .seq (.seq (.reg [o 46 (.mov (.t 5)),
        o 47 (.faddr 3 (.t 2)),
        o 48 (.load 1 false (.t 47)),
        o 49 (.len false (.t 48)),
        o 50 (.bin .lss (.t 46) (.t 49))] false)
      (.cond (.t 50) (.skip)
        (.exit 0)))
    (.seq (.block 1 (.seq (.reg [o 53 (.faddr 3 (.t 2)),
          o 54 (.load 1 false (.t 53)),
          o 55 (.mov (.t 5)),
          o 56 (.iaddr 5 (.t 54) (.t 55)),
          o 57 (.load 5 true (.t 56)),
          o 58 (.mov (.t 1)),
          o 59 (.bin .sub (.t 58) (.c (.int .i64 1))),
          o 60 (.call false (.f 40) [.t 57, .t 59]),
          o 61 (.un .not (.t 60))] false)
        (.cond (.t 61) (.seq (.reg [o 4 (.mov (.c (.bool false)))] false)
          (.ret))
          (.skip))))
    (.reg [o 51 (.mov (.t 5)),
    o 52 (.bin .add (.t 51) (.c (.int .i64 1))),
    o 5 (.mov (.t 52))] false))
def ref04_valid_c : IR :=
  .seq (.reg [o 2 (.box 5 (.t 0)),
    o 4 (.mov (.c (.bool false)))] false)
  (.seq (.seq (.reg [o 7 (.mov (.t 1)),
      o 8 (.bin .eql (.t 7) (.c (.int .i64 0))),
      o 9 (.mov (.t 8)),
      ⟨(some 10), (some (9, false)), .load 5 true (.t 2), []⟩,
      ⟨(some 11), (some (9, false)), .call false (.f 59) [.t 10], []⟩,
      ⟨(some 12), (some (9, false)), .un .not (.t 11), []⟩,
      o 13 (.pick (.t 9) (.c (.bool true)) (.t 12)),
      o 14 (.mov (.t 13)),
      ⟨(some 15), (some (14, false)), .faddr 3 (.t 2), []⟩,
      ⟨(some 16), (some (14, false)), .load 1 false (.t 15), []⟩,
      ⟨(some 17), (some (14, false)), .len false (.t 16), []⟩,
      ⟨(some 18), (some (14, false)), .bin .gtr (.t 17) (.c (.int .i64 64)), []⟩,
      o 19 (.pick (.t 14) (.c (.bool true)) (.t 18)),
      o 20 (.mov (.t 19)),
      ⟨(some 21), (some (20, false)), .faddr 4 (.t 2), []⟩,
      ⟨(some 22), (some (20, false)), .load 1 false (.t 21), []⟩,
      ⟨(some 23), (some (20, false)), .len false (.t 22), []⟩,
      ⟨(some 24), (some (20, false)), .bin .gtr (.t 23) (.c (.int .i64 64)), []⟩,
      o 25 (.pick (.t 20) (.c (.bool true)) (.t 24))] false)
    (.cond (.t 25) (.seq (.reg [o 4 (.mov (.c (.bool false)))] false)
      (.ret))
      (.skip)))
  (.seq (.seq (.reg [o 26 (.faddr 0 (.t 2)),
      o 27 (.load 1 false (.t 26)),
      o 28 (.bin .neq (.t 27) (.c (.int .i64 4))),
      o 29 (.mov (.t 28)),
      ⟨(some 30), (some (29, true)), .faddr 3 (.t 2), []⟩,
      ⟨(some 31), (some (29, true)), .load 1 false (.t 30), []⟩,
      ⟨(some 32), (some (29, true)), .len false (.t 31), []⟩,
      ⟨(some 33), (some (29, true)), .bin .gtr (.t 32) (.c (.int .i64 0)), []⟩,
      o 34 (.pick (.t 29) (.t 33) (.c (.bool false))),
      o 35 (.mov (.t 34)),
      ⟨(some 36), (some (35, false)), .faddr 0 (.t 2), []⟩,
      ⟨(some 37), (some (35, false)), .load 1 false (.t 36), []⟩,
      ⟨(some 38), (some (35, false)), .bin .neq (.t 37) (.c (.int .i64 5)), []⟩,
      ⟨(some 39), (some (35, false)), .mov (.t 38), []⟩,
      ⟨(some 40), (some (39, true)), .faddr 4 (.t 2), []⟩,
      ⟨(some 41), (some (39, true)), .load 1 false (.t 40), []⟩,
      ⟨(some 42), (some (39, true)), .len false (.t 41), []⟩,
      ⟨(some 43), (some (39, true)), .bin .gtr (.t 42) (.c (.int .i64 0)), []⟩,
      ⟨(some 44), (some (35, false)), .pick (.t 39) (.t 43) (.c (.bool false)), []⟩,
      o 45 (.pick (.t 35) (.c (.bool true)) (.t 44))] false)
    (.cond (.t 45) (.seq (.reg [o 4 (.mov (.c (.bool false)))] false)
      (.ret))
      (.skip)))
  (.seq (.seq (.reg [o 5 (.mov (.c (.int .i64 0)))] false)
    (.block 0 (.loop ref04_valid_b0_live ref04_valid_b0)))
  (.seq (.seq (.reg [o 6 (.mov (.c (.int .i64 0)))] false)
    (.block 2 (.loop ref04_valid_b1_live ref04_valid_b1)))
  (.seq (.reg [o 4 (.mov (.c (.bool true)))] false)
  (.ret))))))
def ref04_valid : IFn := ⟨2, 109, [.tmp 4], false, ref04_valid_c⟩

/-- function 41: cmp.Or[int] -/
def cmp_Or_b0_live : List Nat := [100022, 3, 6, 7, 8]
def cmp_Or_b0 : IR :=
  .seq (.reg [o 9 (.bin .lss (.t 8) (.t 7))] false)
    (.seq (.cond (.t 9) (.skip)
        (.exit 0))
    (.seq (.block 1 (.seq (.reg [o 10 (.iaddr 1 (.t 6) (.t 8)),
          o 11 (.load 1 false (.t 10)),
          o 5 (.mov (.t 11))] false)
        (.seq (.reg [o 12 (.mov (.t 5)),
          o 13 (.mov (.t 3)),
          o 14 (.bin .neq (.t 12) (.t 13))] false)
        (.cond (.t 14) (.seq (.reg [o 15 (.mov (.t 5)),
            o 2 (.mov (.t 15))] false)
          (.ret))
          (.skip)))))
    (.reg [o 16 (.bin .add (.t 8) (.c (.int .i64 1))),
    o 8 (.mov (.t 16))] false)))
def cmp_Or_c : IR :=
  .seq (.reg [o 2 (.mov (.c (.int .i64 0)))] false)
  (.seq (.reg [o 3 (.mov (.c (.int .i64 0)))] false)
  (.seq (.seq (.reg [o 6 (.mov (.t 0)),
      o 7 (.len false (.t 6)),
      o 8 (.mov (.c (.int .i64 0)))] false)
    (.block 0 (.loop cmp_Or_b0_live cmp_Or_b0)))
  (.seq (.reg [o 17 (.mov (.t 3)),
    o 2 (.mov (.t 17))] false)
  (.ret))))
def cmp_Or : IFn := ⟨1, 18, [.tmp 2], false, cmp_Or_c⟩

/-- function 42: cmp.Compare[int] -/
def cmp_Compare_c : IR :=
  .seq (.reg [o 4 (.mov (.c (.int .i64 0)))] false)
  (.seq (.reg [o 7 (.mov (.t 0)),
    o 8 (.call false (.f 61) [.t 7]),
    o 5 (.mov (.t 8))] false)
  (.seq (.reg [o 9 (.mov (.t 1)),
    o 10 (.call false (.f 61) [.t 9]),
    o 6 (.mov (.t 10))] false)
  (.seq (.seq (.reg [o 11 (.mov (.t 5))] false)
    (.cond (.t 11) (.seq (.seq (.reg [o 12 (.mov (.t 6))] false)
        (.cond (.t 12) (.seq (.reg [o 4 (.mov (.c (.int .i64 0)))] false)
          (.ret))
          (.skip)))
      (.seq (.reg [o 4 (.mov (.c (.int .i64 (-1))))] false)
      (.ret)))
      (.skip)))
  (.seq (.seq (.reg [o 13 (.mov (.t 6))] false)
    (.cond (.t 13) (.seq (.reg [o 4 (.mov (.c (.int .i64 1)))] false)
      (.ret))
      (.skip)))
  (.seq (.seq (.reg [o 14 (.mov (.t 0)),
      o 15 (.mov (.t 1)),
      o 16 (.bin .lss (.t 14) (.t 15))] false)
    (.cond (.t 16) (.seq (.reg [o 4 (.mov (.c (.int .i64 (-1))))] false)
      (.ret))
      (.skip)))
  (.seq (.seq (.reg [o 17 (.mov (.t 0)),
      o 18 (.mov (.t 1)),
      o 19 (.bin .gtr (.t 17) (.t 18))] false)
    (.cond (.t 19) (.seq (.reg [o 4 (.mov (.c (.int .i64 1)))] false)
      (.ret))
      (.skip)))
  (.seq (.reg [o 4 (.mov (.c (.int .i64 0)))] false)
  (.ret))))))))
def cmp_Compare : IFn := ⟨2, 20, [.tmp 4], false, cmp_Compare_c⟩

/-- function 43: strings.Compare -/
def strings_Compare_c : IR :=
  .seq (.reg [o 4 (.mov (.c (.int .i64 0)))] false)
  (.seq (.reg [o 5 (.mov (.t 0)),
    o 6 (.mov (.t 1)),
    o 7 (.call false (.f 62) [.t 5, .t 6]),
    o 4 (.mov (.t 7))] false)
  (.ret))
def strings_Compare : IFn := ⟨2, 8, [.tmp 4], false, strings_Compare_c⟩

/-- function 44: slices.CompareFunc[[]orchestrator/ api.Value,[]orchestrator/ api.Value,orchestrator/ api.Value,orchestrator/ api.Value] -/
def slices_CompareFunc_b0_live : List Nat := [100023, 0, 1, 2, 11, 12, 13]
def slices_CompareFunc_b0 : IR :=
  .seq (.reg [o 14 (.bin .lss (.t 13) (.t 12))] false)
    (.seq (.cond (.t 14) (.skip)
        (.exit 0))
    (.seq (.block 1 (.seq (.reg [o 15 (.mov (.t 13)),
          o 16 (.iaddr 5 (.t 11) (.t 13)),
          o 17 (.load 5 true (.t 16)),
          o 8 (.zero [.int .i64 0, .int .i64 0, .str ⟨#[]⟩, .ns 5, .ns 6]),
          o 7 (.mov (.t 15)),
          ⟨none, none, .store 5 (.t 8) (.t 17), []⟩] false)
        (.seq (.seq (.reg [o 18 (.mov (.t 7)),
            o 19 (.mov (.t 1)),
            o 20 (.len false (.t 19)),
            o 21 (.bin .geq (.t 18) (.t 20))] false)
          (.cond (.t 21) (.seq (.reg [o 6 (.mov (.c (.int .i64 1)))] false)
            (.ret))
            (.skip)))
        (.seq (.reg [o 22 (.mov (.t 1)),
          o 23 (.mov (.t 7)),
          o 24 (.iaddr 5 (.t 22) (.t 23)),
          o 25 (.load 5 true (.t 24)),
          o 9 (.zero [.int .i64 0, .int .i64 0, .str ⟨#[]⟩, .ns 5, .ns 6]),
          ⟨none, none, .store 5 (.t 9) (.t 25), []⟩] false)
        (.seq (.reg [o 26 (.mov (.t 2)),
          o 27 (.load 5 true (.t 8)),
          o 28 (.load 5 true (.t 9)),
          o 29 (.call false (.t 26) [.t 27, .t 28]),
          o 10 (.mov (.t 29))] false)
        (.seq (.reg [o 30 (.mov (.t 10)),
          o 31 (.bin .neq (.t 30) (.c (.int .i64 0)))] false)
        (.cond (.t 31) (.seq (.reg [o 32 (.mov (.t 10)),
            o 6 (.mov (.t 32))] false)
          (.ret))
          (.skip))))))))
    (.reg [o 33 (.bin .add (.t 13) (.c (.int .i64 1))),
    o 13 (.mov (.t 33))] false)))
def slices_CompareFunc_c : IR :=
  .seq (.reg [o 6 (.mov (.c (.int .i64 0)))] false)
  (.seq (.seq (.reg [o 11 (.mov (.t 0)),
      o 12 (.len false (.t 11)),
      o 13 (.mov (.c (.int .i64 0)))] false)
    (.block 0 (.loop slices_CompareFunc_b0_live slices_CompareFunc_b0)))
  (.seq (.seq (.reg [o 34 (.mov (.t 0)),
      o 35 (.len false (.t 34)),
      o 36 (.mov (.t 1)),
      o 37 (.len false (.t 36)),
      o 38 (.bin .lss (.t 35) (.t 37))] false)
    (.cond (.t 38) (.seq (.reg [o 6 (.mov (.c (.int .i64 (-1))))] false)
      (.ret))
      (.skip)))
  (.seq (.reg [o 6 (.mov (.c (.int .i64 0)))] false)
  (.ret))))
def slices_CompareFunc : IFn := ⟨3, 39, [.tmp 6], false, slices_CompareFunc_c⟩

/-- function 45: slices.CompareFunc[[]orchestrator/ api.Field,[]orchestrator/ api.Field,orchestrator/ api.Field,orchestrator/ api.Field] -/
def slices_CompareFunc_45_b0_live : List Nat := [100024, 0, 1, 2, 11, 12, 13]
def slices_CompareFunc_45_b0 : IR :=
  .seq (.reg [o 14 (.bin .lss (.t 13) (.t 12))] false)
    (.seq (.cond (.t 14) (.skip)
        (.exit 0))
    (.seq (.block 1 (.seq (.reg [o 15 (.mov (.t 13)),
          o 16 (.iaddr 6 (.t 11) (.t 13)),
          o 17 (.load 6 true (.t 16)),
          o 8 (.zero [.str ⟨#[]⟩, .int .i64 0, .int .i64 0, .str ⟨#[]⟩, .ns 5, .ns 6]),
          o 7 (.mov (.t 15)),
          ⟨none, none, .store 6 (.t 8) (.t 17), []⟩] false)
        (.seq (.seq (.reg [o 18 (.mov (.t 7)),
            o 19 (.mov (.t 1)),
            o 20 (.len false (.t 19)),
            o 21 (.bin .geq (.t 18) (.t 20))] false)
          (.cond (.t 21) (.seq (.reg [o 6 (.mov (.c (.int .i64 1)))] false)
            (.ret))
            (.skip)))
        (.seq (.reg [o 22 (.mov (.t 1)),
          o 23 (.mov (.t 7)),
          o 24 (.iaddr 6 (.t 22) (.t 23)),
          o 25 (.load 6 true (.t 24)),
          o 9 (.zero [.str ⟨#[]⟩, .int .i64 0, .int .i64 0, .str ⟨#[]⟩, .ns 5, .ns 6]),
          ⟨none, none, .store 6 (.t 9) (.t 25), []⟩] false)
        (.seq (.reg [o 26 (.mov (.t 2)),
          o 27 (.load 6 true (.t 8)),
          o 28 (.load 6 true (.t 9)),
          o 29 (.call false (.t 26) [.t 27, .t 28]),
          o 10 (.mov (.t 29))] false)
        (.seq (.reg [o 30 (.mov (.t 10)),
          o 31 (.bin .neq (.t 30) (.c (.int .i64 0)))] false)
        (.cond (.t 31) (.seq (.reg [o 32 (.mov (.t 10)),
            o 6 (.mov (.t 32))] false)
          (.ret))
          (.skip))))))))
    (.reg [o 33 (.bin .add (.t 13) (.c (.int .i64 1))),
    o 13 (.mov (.t 33))] false)))
def slices_CompareFunc_45_c : IR :=
  .seq (.reg [o 6 (.mov (.c (.int .i64 0)))] false)
  (.seq (.seq (.reg [o 11 (.mov (.t 0)),
      o 12 (.len false (.t 11)),
      o 13 (.mov (.c (.int .i64 0)))] false)
    (.block 0 (.loop slices_CompareFunc_45_b0_live slices_CompareFunc_45_b0)))
  (.seq (.seq (.reg [o 34 (.mov (.t 0)),
      o 35 (.len false (.t 34)),
      o 36 (.mov (.t 1)),
      o 37 (.len false (.t 36)),
      o 38 (.bin .lss (.t 35) (.t 37))] false)
    (.cond (.t 38) (.seq (.reg [o 6 (.mov (.c (.int .i64 (-1))))] false)
      (.ret))
      (.skip)))
  (.seq (.reg [o 6 (.mov (.c (.int .i64 0)))] false)
  (.ret))))
def slices_CompareFunc_45 : IFn := ⟨3, 39, [.tmp 6], false, slices_CompareFunc_45_c⟩

/-- function 46: orchestrator/ value.Compare$1 -/
def value_Compare_1_c : IR :=
  .seq (.reg [o 2 (.box 6 (.t 0)),
    o 3 (.box 6 (.t 1)),
    o 4 (.mov (.c (.int .i64 0)))] false)
  (.seq (.reg [o 5 (.faddr 0 (.t 2)),
    ob 6 (.load 1 false (.t 5)) [0],
    o 7 (.faddr 0 (.t 3)),
    ob 8 (.load 1 false (.t 7)) [2],
    ob 9 (.call false (.f 43) [.t 6, .t 8]) [0, 1, 2, 3],
    o 10 (.faddr 1 (.t 2)),
    ob 11 (.load 5 true (.t 10)) [5],
    o 12 (.faddr 1 (.t 3)),
    ob 13 (.load 5 true (.t 12)) [7],
    ob 14 (.call false (.f 17) [.t 11, .t 13]) (rg 0 9),
    ob 15 (.lit 1 2 [.int .i64 0] [(0, .t 9), (1, .t 14)]) (rg 0 10),
    ob 16 (.call false (.f 41) [.t 15]) (rg 0 11),
    ob 4 (.mov (.t 16)) (rg 0 12)] true)
  (.ret))
def value_Compare_1 : IFn := ⟨2, 17, [.tmp 4], false, value_Compare_1_c⟩

/-- function 47: orchestrator/ orchestratorref04.order -/
def ref04_order_c : IR :=
  .seq (.reg [o 4 (.mov (.c (.int .i64 0)))] false)
  (.seq (.seq (.reg [o 5 (.mov (.t 0))] false)
    (.cond (.t 5) (.seq (.reg [o 4 (.mov (.c (.int .i64 (-1))))] false)
      (.ret))
      (.skip)))
  (.seq (.seq (.reg [o 6 (.mov (.t 1))] false)
    (.cond (.t 6) (.seq (.reg [o 4 (.mov (.c (.int .i64 1)))] false)
      (.ret))
      (.skip)))
  (.seq (.reg [o 4 (.mov (.c (.int .i64 0)))] false)
  (.ret))))
def ref04_order : IFn := ⟨2, 7, [.tmp 4], false, ref04_order_c⟩

/-- function 48: orchestrator/ value.clone -/
def value_clone_b1_live : List Nat := [100026, 1, 2, 31, 32, 33]
def value_clone_b1 : IR :=
  .seq (.reg [o 34 (.bin .lss (.t 33) (.t 32))] false)
    (.seq (.cond (.t 34) (.skip)
        (.exit 2))
    (.seq (.block 3 (.seq (.reg [o 35 (.mov (.t 33)),
          o 36 (.iaddr 6 (.t 31) (.t 33)),
          o 37 (.load 6 true (.t 36)),
          o 6 (.zero [.str ⟨#[]⟩, .int .i64 0, .int .i64 0, .str ⟨#[]⟩, .ns 5, .ns 6]),
          o 5 (.mov (.t 35)),
          ⟨none, none, .store 6 (.t 6) (.t 37), []⟩] false)
        (.reg [o 38 (.faddr 4 (.t 1)),
        ob 39 (.load 1 false (.t 38)) [0],
        o 40 (.mov (.t 5)),
        o 41 (.faddr 1 (.t 6)),
        ob 42 (.load 5 true (.t 41)) [3],
        ob 43 (.call false (.f 48) [.t 42]) [3, 4],
        ob 44 (.iaddr 6 (.t 39) (.t 40)) (rg 0 6),
        ob 45 (.faddr 1 (.t 44)) (rg 0 7),
        ⟨none, none, .store 5 (.t 45) (.t 43), (rg 0 8)⟩] true)))
    (.reg [o 46 (.bin .add (.t 33) (.c (.int .i64 1))),
    o 33 (.mov (.t 46))] false)))
def value_clone_b0_live : List Nat := [100025, 1, 2, 12, 13, 14]
def value_clone_b0 : IR :=
  .seq (.reg [o 15 (.bin .lss (.t 14) (.t 13))] false)
    (.seq (.cond (.t 15) (.skip)
        (.exit 0))
    (.seq (.block 1 (.seq (.reg [o 16 (.mov (.t 14)),
          o 17 (.iaddr 5 (.t 12) (.t 14)),
          o 18 (.load 5 true (.t 17)),
          o 4 (.zero [.int .i64 0, .int .i64 0, .str ⟨#[]⟩, .ns 5, .ns 6]),
          o 3 (.mov (.t 16)),
          ⟨none, none, .store 5 (.t 4) (.t 18), []⟩] false)
        (.reg [o 19 (.faddr 3 (.t 1)),
        ob 20 (.load 1 false (.t 19)) [0],
        o 21 (.mov (.t 3)),
        o 22 (.load 5 true (.t 4)),
        ob 23 (.call false (.f 48) [.t 22]) [3],
        ob 24 (.iaddr 5 (.t 20) (.t 21)) (rg 0 5),
        ⟨none, none, .store 5 (.t 24) (.t 23), (rg 0 6)⟩] true)))
    (.reg [o 25 (.bin .add (.t 14) (.c (.int .i64 1))),
    o 14 (.mov (.t 25))] false)))
def value_clone_c : IR :=
  .seq (.reg [o 1 (.box 5 (.t 0)),
    o 2 (.zero [.int .i64 0, .int .i64 0, .str ⟨#[]⟩, .ns 5, .ns 6])] false)
  (.seq (.reg [o 7 (.faddr 3 (.t 1)),
    o 8 (.load 1 false (.t 7)),
    o 9 (.call false (.f 63) [.t 8]),
    o 10 (.faddr 3 (.t 1)),
    ⟨none, none, .store 1 (.t 10) (.t 9), []⟩] false)
  (.seq (.seq (.reg [o 11 (.faddr 3 (.t 1)),
      o 12 (.load 1 false (.t 11)),
      o 13 (.len false (.t 12)),
      o 14 (.mov (.c (.int .i64 0)))] false)
    (.block 0 (.loop value_clone_b0_live value_clone_b0)))
  (.seq (.reg [o 26 (.faddr 4 (.t 1)),
    o 27 (.load 1 false (.t 26)),
    o 28 (.call false (.f 49) [.t 27]),
    o 29 (.faddr 4 (.t 1)),
    ⟨none, none, .store 1 (.t 29) (.t 28), []⟩] false)
  (.seq (.seq (.reg [o 30 (.faddr 4 (.t 1)),
      o 31 (.load 1 false (.t 30)),
      o 32 (.len false (.t 31)),
      o 33 (.mov (.c (.int .i64 0)))] false)
    (.block 2 (.loop value_clone_b1_live value_clone_b1)))
  (.seq (.reg [o 47 (.load 5 true (.t 1)),
    ⟨none, none, .store 5 (.t 2) (.t 47), []⟩] false)
  (.ret))))))
def value_clone : IFn := ⟨1, 48, [.cell 2 5 true], false, value_clone_c⟩

/-- function 50: slices.SortStableFunc[[]orchestrator/ api.Field,orchestrator/ api.Field] -/
def slices_SortStableFunc_c : IR :=
  .reg [o 4 (.mov (.t 0)),
  o 5 (.mov (.t 0)),
  o 6 (.len false (.t 5)),
  o 7 (.mov (.t 1)),
  o 8 (.call true (.f 64) [.t 4, .t 6, .t 7])] false
def slices_SortStableFunc : IFn := ⟨2, 9, [], false, slices_SortStableFunc_c⟩

/-- function 51: orchestrator/ value.Map$1 -/
def value_Map_1_c : IR :=
  .seq (.reg [o 2 (.box 6 (.t 0)),
    o 3 (.box 6 (.t 1)),
    o 4 (.mov (.c (.int .i64 0)))] false)
  (.seq (.reg [o 5 (.faddr 0 (.t 2)),
    o 6 (.load 1 false (.t 5)),
    o 7 (.faddr 0 (.t 3)),
    o 8 (.load 1 false (.t 7)),
    o 9 (.call false (.f 43) [.t 6, .t 8]),
    o 4 (.mov (.t 9))] false)
  (.ret))
def value_Map_1 : IFn := ⟨2, 10, [.tmp 4], false, value_Map_1_c⟩

/-- function 52: orchestrator/ orchestratorref04.Copy -/
def ref04_Copy_b1_live : List Nat := [100028, 1, 2, 3, 5]
def ref04_Copy_b1 : IR :=
  .seq (.seq (.reg [o 31 (.mov (.t 5)),
        o 32 (.faddr 4 (.t 1)),
        o 33 (.load 1 false (.t 32)),
        o 34 (.len false (.t 33)),
        o 35 (.bin .lss (.t 31) (.t 34))] false)
      (.cond (.t 35) (.skip)
        (.exit 2)))
    (.seq (.block 3 (.reg [o 38 (.faddr 4 (.t 3)),
        ob 39 (.load 1 false (.t 38)) [0],
        o 40 (.faddr 4 (.t 1)),
        ob 41 (.load 1 false (.t 40)) [2],
        o 42 (.mov (.t 5)),
        ob 43 (.iaddr 6 (.t 41) (.t 42)) [2, 3, 4],
        ob 44 (.faddr 0 (.t 43)) [2, 3, 4, 5],
        ob 45 (.load 1 false (.t 44)) (rg 2 7),
        o 46 (.faddr 4 (.t 1)),
        ob 47 (.load 1 false (.t 46)) [8],
        o 48 (.mov (.t 5)),
        ob 49 (.iaddr 6 (.t 47) (.t 48)) [8, 9, 10],
        ob 50 (.faddr 1 (.t 49)) [8, 9, 10, 11],
        ob 51 (.load 5 true (.t 50)) (rg 8 13),
        ob 52 (.call false (.f 52) [.t 51]) (rg 8 14),
        ob 53 (.build [.str ⟨#[]⟩, .int .i64 0, .int .i64 0, .str ⟨#[]⟩, .ns 5, .ns 6] [(0, 1, .t 45), (1, 5, .t 52)]) (rg 2 15),
        ob 54 (.lit 6 1 [.str ⟨#[]⟩, .int .i64 0, .int .i64 0, .str ⟨#[]⟩, .ns 5, .ns 6] [(0, .t 53)]) (rg 2 16),
        ob 55 (.append 6 96 (.t 39) (.t 54)) (rg 0 17),
        ob 56 (.faddr 4 (.t 3)) (rg 0 18),
        ⟨none, none, .store 1 (.t 56) (.t 55), (rg 0 19)⟩] true))
    (.reg [o 36 (.mov (.t 5)),
    o 37 (.bin .add (.t 36) (.c (.int .i64 1))),
    o 5 (.mov (.t 37))] false))
def ref04_Copy_b0_live : List Nat := [100027, 1, 2, 3, 4]
def ref04_Copy_b0 : IR :=
  .seq (.seq (.reg [o 13 (.mov (.t 4)),
        o 14 (.faddr 3 (.t 1)),
        o 15 (.load 1 false (.t 14)),
        o 16 (.len false (.t 15)),
        o 17 (.bin .lss (.t 13) (.t 16))] false)
      (.cond (.t 17) (.skip)
        (.exit 0)))
    (.seq (.block 1 (.reg [o 20 (.faddr 3 (.t 3)),
        ob 21 (.load 1 false (.t 20)) [0],
        o 22 (.faddr 3 (.t 1)),
        ob 23 (.load 1 false (.t 22)) [2],
        o 24 (.mov (.t 4)),
        ob 25 (.iaddr 5 (.t 23) (.t 24)) [2, 3, 4],
        ob 26 (.load 5 true (.t 25)) [2, 3, 4, 5],
        ob 27 (.call false (.f 52) [.t 26]) (rg 2 7),
        ob 28 (.lit 5 1 [.int .i64 0, .int .i64 0, .str ⟨#[]⟩, .ns 5, .ns 6] [(0, .t 27)]) (rg 2 8),
        ob 29 (.append 5 80 (.t 21) (.t 28)) (rg 0 9),
        ob 30 (.faddr 3 (.t 3)) (rg 0 10),
        ⟨none, none, .store 1 (.t 30) (.t 29), (rg 0 11)⟩] true))
    (.reg [o 18 (.mov (.t 4)),
    o 19 (.bin .add (.t 18) (.c (.int .i64 1))),
    o 4 (.mov (.t 19))] false))
def ref04_Copy_c : IR :=
  .seq (.reg [o 1 (.box 5 (.t 0)),
    o 2 (.zero [.int .i64 0, .int .i64 0, .str ⟨#[]⟩, .ns 5, .ns 6])] false)
  (.seq (.reg [o 6 (.faddr 0 (.t 1)),
    o 7 (.load 1 false (.t 6)),
    o 8 (.faddr 1 (.t 1)),
    o 9 (.load 1 false (.t 8)),
    o 10 (.faddr 2 (.t 1)),
    o 11 (.load 1 false (.t 10)),
    o 12 (.build [.int .i64 0, .int .i64 0, .str ⟨#[]⟩, .ns 5, .ns 6] [(0, 1, .t 7), (1, 1, .t 9), (2, 1, .t 11)]),
    o 3 (.zero [.int .i64 0, .int .i64 0, .str ⟨#[]⟩, .ns 5, .ns 6]),
    ⟨none, none, .store 5 (.t 3) (.t 12), []⟩] false)
  (.seq (.seq (.reg [o 4 (.mov (.c (.int .i64 0)))] false)
    (.block 0 (.loop ref04_Copy_b0_live ref04_Copy_b0)))
  (.seq (.seq (.reg [o 5 (.mov (.c (.int .i64 0)))] false)
    (.block 2 (.loop ref04_Copy_b1_live ref04_Copy_b1)))
  (.seq (.reg [o 57 (.load 5 true (.t 3)),
    ⟨none, none, .store 5 (.t 2) (.t 57), []⟩] false)
  (.ret)))))
def ref04_Copy : IFn := ⟨1, 58, [.cell 2 5 true], false, ref04_Copy_c⟩

/-- function 53: orchestrator/ orchestratorref04.put -/
def ref04_put_b0_live : List Nat := [100029, 0, 3, 5, 6, 7]
def ref04_put_b0 : IR :=
  .seq (.seq (.reg [o 8 (.mov (.t 7)),
        o 9 (.mov (.t 0)),
        o 10 (.len false (.t 9)),
        o 11 (.bin .lss (.t 8) (.t 10))] false)
      (.cond (.t 11) (.skip)
        (.exit 0)))
    (.seq (.block 1 (.seq (.seq (.reg [o 14 (.mov (.t 6)),
            ob 15 (.un .not (.t 14)) [0],
            ob 16 (.mov (.t 15)) [0, 1],
            ⟨(some 17), (some (16, true)), .faddr 0 (.t 3), [0, 1, 2]⟩,
            ⟨(some 18), (some (16, true)), .load 1 false (.t 17), [0, 1, 2, 3]⟩,
            ⟨(some 19), (some (16, true)), .mov (.t 0), [0, 1, 2]⟩,
            ⟨(some 20), (some (16, true)), .mov (.t 7), [0, 1, 2]⟩,
            ⟨(some 21), (some (16, true)), .iaddr 6 (.t 19) (.t 20), [0, 1, 2, 5, 6]⟩,
            ⟨(some 22), (some (16, true)), .faddr 0 (.t 21), [0, 1, 2, 5, 6, 7]⟩,
            ⟨(some 23), (some (16, true)), .load 1 false (.t 22), ([0, 1, 2] ++ rg 5 9)⟩,
            ⟨(some 24), (some (16, true)), .bin .leq (.t 18) (.t 23), (rg 0 10)⟩,
            ob 25 (.pick (.t 16) (.t 24) (.c (.bool false))) (rg 0 11)] true)
          (.cond (.t 25) (.seq (.reg [o 26 (.mov (.t 5)),
              o 27 (.load 6 true (.t 3)),
              o 28 (.lit 6 1 [.str ⟨#[]⟩, .int .i64 0, .int .i64 0, .str ⟨#[]⟩, .ns 5, .ns 6] [(0, .t 27)]),
              o 29 (.append 6 96 (.t 26) (.t 28)),
              o 5 (.mov (.t 29))] false)
            (.reg [o 6 (.mov (.c (.bool true)))] false))
            (.skip)))
        (.seq (.reg [o 30 (.mov (.t 0)),
          o 31 (.mov (.t 7)),
          ob 32 (.iaddr 6 (.t 30) (.t 31)) [0, 1],
          ob 33 (.faddr 0 (.t 32)) [0, 1, 2],
          ob 34 (.load 1 false (.t 33)) [0, 1, 2, 3],
          o 35 (.faddr 0 (.t 3)),
          ob 36 (.load 1 false (.t 35)) [5],
          ob 37 (.bin .neq (.t 34) (.t 36)) (rg 0 7)] true)
        (.cond (.t 37) (.reg [o 38 (.mov (.t 5)),
          o 39 (.mov (.t 0)),
          o 40 (.mov (.t 7)),
          o 41 (.iaddr 6 (.t 39) (.t 40)),
          o 42 (.load 6 true (.t 41)),
          o 43 (.lit 6 1 [.str ⟨#[]⟩, .int .i64 0, .int .i64 0, .str ⟨#[]⟩, .ns 5, .ns 6] [(0, .t 42)]),
          o 44 (.append 6 96 (.t 38) (.t 43)),
          o 5 (.mov (.t 44))] false)
          (.skip)))))
    (.reg [o 12 (.mov (.t 7)),
    o 13 (.bin .add (.t 12) (.c (.int .i64 1))),
    o 7 (.mov (.t 13))] false))
def ref04_put_c : IR :=
  .seq (.reg [o 3 (.box 6 (.t 1)),
    o 4 (.mov (.c (.ns 6)))] false)
  (.seq (.reg [o 5 (.mov (.c (.ns 6)))] false)
  (.seq (.reg [o 6 (.mov (.c (.bool false)))] false)
  (.seq (.seq (.reg [o 7 (.mov (.c (.int .i64 0)))] false)
    (.block 0 (.loop ref04_put_b0_live ref04_put_b0)))
  (.seq (.seq (.reg [o 45 (.mov (.t 6)),
      o 46 (.un .not (.t 45))] false)
    (.cond (.t 46) (.reg [o 47 (.mov (.t 5)),
      o 48 (.load 6 true (.t 3)),
      o 49 (.lit 6 1 [.str ⟨#[]⟩, .int .i64 0, .int .i64 0, .str ⟨#[]⟩, .ns 5, .ns 6] [(0, .t 48)]),
      o 50 (.append 6 96 (.t 47) (.t 49)),
      o 5 (.mov (.t 50))] false)
      (.skip)))
  (.seq (.reg [o 51 (.mov (.t 5)),
    o 4 (.mov (.t 51))] false)
  (.ret))))))
def ref04_put : IFn := ⟨2, 52, [.tmp 4], false, ref04_put_c⟩

/-- function 54: orchestrator/ value.others -/
def value_others_c : IR :=
  .seq (.reg [o 2 (.box 5 (.t 0)),
    o 3 (.box 1 (.t 1)),
    o 4 (.mov (.c (.ns 6)))] false)
  (.seq (.seq (.reg [o 5 (.faddr 0 (.t 2)),
      o 6 (.load 1 false (.t 5)),
      o 7 (.bin .neq (.t 6) (.c (.int .i64 5)))] false)
    (.cond (.t 7) (.seq (.reg [o 4 (.mov (.c (.ns 6)))] false)
      (.ret))
      (.skip)))
  (.seq (.reg [o 8 (.faddr 4 (.t 2)),
    o 9 (.load 1 false (.t 8)),
    o 10 (.call false (.f 49) [.t 9]),
    o 11 (.mkfn 66 [] [.t 3]),
    o 12 (.call false (.f 65) [.t 10, .t 11]),
    o 4 (.mov (.t 12))] false)
  (.ret)))
def value_others : IFn := ⟨2, 13, [.tmp 4], false, value_others_c⟩

/-- function 55: orchestrator/ orchestratorref04.others -/
def ref04_others_b0_live : List Nat := [100030, 1, 2, 5, 6]
def ref04_others_b0 : IR :=
  .seq (.seq (.reg [o 7 (.mov (.t 6)),
        o 8 (.faddr 4 (.t 2)),
        o 9 (.load 1 false (.t 8)),
        o 10 (.len false (.t 9)),
        o 11 (.bin .lss (.t 7) (.t 10)),
        o 12 (.mov (.t 11)),
        ⟨(some 13), (some (12, true)), .faddr 0 (.t 2), []⟩,
        ⟨(some 14), (some (12, true)), .load 1 false (.t 13), []⟩,
        ⟨(some 15), (some (12, true)), .bin .eql (.t 14) (.c (.int .i64 5)), []⟩,
        o 16 (.pick (.t 12) (.t 15) (.c (.bool false)))] false)
      (.cond (.t 16) (.skip)
        (.exit 0)))
    (.seq (.block 1 (.seq (.reg [o 19 (.faddr 4 (.t 2)),
          o 20 (.load 1 false (.t 19)),
          o 21 (.mov (.t 6)),
          o 22 (.iaddr 6 (.t 20) (.t 21)),
          o 23 (.faddr 0 (.t 22)),
          o 24 (.load 1 false (.t 23)),
          o 25 (.mov (.t 1)),
          o 26 (.bin .neq (.t 24) (.t 25))] false)
        (.cond (.t 26) (.reg [o 27 (.mov (.t 5)),
          o 28 (.faddr 4 (.t 2)),
          o 29 (.load 1 false (.t 28)),
          o 30 (.mov (.t 6)),
          o 31 (.iaddr 6 (.t 29) (.t 30)),
          o 32 (.load 6 true (.t 31)),
          o 33 (.lit 6 1 [.str ⟨#[]⟩, .int .i64 0, .int .i64 0, .str ⟨#[]⟩, .ns 5, .ns 6] [(0, .t 32)]),
          o 34 (.append 6 96 (.t 27) (.t 33)),
          o 5 (.mov (.t 34))] false)
          (.skip))))
    (.reg [o 17 (.mov (.t 6)),
    o 18 (.bin .add (.t 17) (.c (.int .i64 1))),
    o 6 (.mov (.t 18))] false))
def ref04_others_c : IR :=
  .seq (.reg [o 2 (.box 5 (.t 0)),
    o 4 (.mov (.c (.ns 6)))] false)
  (.seq (.reg [o 5 (.mov (.c (.ns 6)))] false)
  (.seq (.seq (.reg [o 6 (.mov (.c (.int .i64 0)))] false)
    (.block 0 (.loop ref04_others_b0_live ref04_others_b0)))
  (.seq (.reg [o 35 (.mov (.t 5)),
    o 4 (.mov (.t 35))] false)
  (.ret))))
def ref04_others : IFn := ⟨2, 36, [.tmp 4], false, ref04_others_c⟩

/-- function 56: orchestrator/ orchestratorref04.count -/
def ref04_count_b1_live : List Nat := [100032, 1, 2, 3, 8]
def ref04_count_b1 : IR :=
  .seq (.seq (.reg [o 43 (.mov (.t 8)),
        o 44 (.faddr 4 (.t 3)),
        o 45 (.load 1 false (.t 44)),
        o 46 (.len false (.t 45)),
        o 47 (.bin .lss (.t 43) (.t 46)),
        o 48 (.mov (.t 47)),
        ⟨(some 49), (some (48, true)), .mov (.t 1), []⟩,
        ⟨(some 50), (some (48, true)), .bin .geq (.t 49) (.c (.int .i64 0)), []⟩,
        o 51 (.pick (.t 48) (.t 50) (.c (.bool false)))] false)
      (.cond (.t 51) (.skip)
        (.exit 2)))
    (.seq (.block 3 (.seq (.seq (.reg [o 54 (.faddr 4 (.t 3)),
            o 55 (.load 1 false (.t 54)),
            o 56 (.mov (.t 8)),
            o 57 (.iaddr 6 (.t 55) (.t 56)),
            o 58 (.faddr 0 (.t 57)),
            o 59 (.load 1 false (.t 58)),
            o 60 (.len true (.t 59)),
            o 61 (.bin .gtr (.t 60) (.c (.int .i64 1000)))] false)
          (.cond (.t 61) (.seq (.reg [o 6 (.mov (.c (.int .i64 (-1))))] false)
            (.ret))
            (.skip)))
        (.reg [o 62 (.faddr 4 (.t 3)),
        o 63 (.load 1 false (.t 62)),
        o 64 (.mov (.t 8)),
        o 65 (.iaddr 6 (.t 63) (.t 64)),
        o 66 (.faddr 1 (.t 65)),
        o 67 (.load 5 true (.t 66)),
        o 68 (.mov (.t 1)),
        o 69 (.mov (.t 2)),
        o 70 (.bin .sub (.t 69) (.c (.int .i64 1))),
        o 71 (.call false (.f 56) [.t 67, .t 68, .t 70]),
        o 1 (.mov (.t 71))] false)))
    (.reg [o 52 (.mov (.t 8)),
    o 53 (.bin .add (.t 52) (.c (.int .i64 1))),
    o 8 (.mov (.t 53))] false))
def ref04_count_b0_live : List Nat := [100031, 1, 2, 3, 7]
def ref04_count_b0 : IR :=
  .seq (.seq (.reg [o 23 (.mov (.t 7)),
        o 24 (.faddr 3 (.t 3)),
        o 25 (.load 1 false (.t 24)),
        o 26 (.len false (.t 25)),
        o 27 (.bin .lss (.t 23) (.t 26)),
        o 28 (.mov (.t 27)),
        ⟨(some 29), (some (28, true)), .mov (.t 1), []⟩,
        ⟨(some 30), (some (28, true)), .bin .geq (.t 29) (.c (.int .i64 0)), []⟩,
        o 31 (.pick (.t 28) (.t 30) (.c (.bool false)))] false)
      (.cond (.t 31) (.skip)
        (.exit 0)))
    (.seq (.block 1 (.reg [o 34 (.faddr 3 (.t 3)),
        o 35 (.load 1 false (.t 34)),
        o 36 (.mov (.t 7)),
        o 37 (.iaddr 5 (.t 35) (.t 36)),
        o 38 (.load 5 true (.t 37)),
        o 39 (.mov (.t 1)),
        o 40 (.mov (.t 2)),
        o 41 (.bin .sub (.t 40) (.c (.int .i64 1))),
        o 42 (.call false (.f 56) [.t 38, .t 39, .t 41]),
        o 1 (.mov (.t 42))] false))
    (.reg [o 32 (.mov (.t 7)),
    o 33 (.bin .add (.t 32) (.c (.int .i64 1))),
    o 7 (.mov (.t 33))] false))
def ref04_count_c : IR :=
  .seq (.reg [o 3 (.box 5 (.t 0)),
    o 6 (.mov (.c (.int .i64 0)))] false)
  (.seq (.seq (.reg [o 9 (.mov (.t 1)),
      o 10 (.bin .leq (.t 9) (.c (.int .i64 0))),
      o 11 (.mov (.t 10)),
      ⟨(some 12), (some (11, false)), .mov (.t 2), []⟩,
      ⟨(some 13), (some (11, false)), .bin .leq (.t 12) (.c (.int .i64 0)), []⟩,
      o 14 (.pick (.t 11) (.c (.bool true)) (.t 13)),
      o 15 (.mov (.t 14)),
      ⟨(some 16), (some (15, false)), .faddr 2 (.t 3), []⟩,
      ⟨(some 17), (some (15, false)), .load 1 false (.t 16), []⟩,
      ⟨(some 18), (some (15, false)), .len true (.t 17), []⟩,
      ⟨(some 19), (some (15, false)), .bin .gtr (.t 18) (.c (.int .i64 1000)), []⟩,
      o 20 (.pick (.t 15) (.c (.bool true)) (.t 19))] false)
    (.cond (.t 20) (.seq (.reg [o 6 (.mov (.c (.int .i64 (-1))))] false)
      (.ret))
      (.skip)))
  (.seq (.reg [o 21 (.mov (.t 1)),
    o 22 (.bin .sub (.t 21) (.c (.int .i64 1))),
    o 1 (.mov (.t 22))] false)
  (.seq (.seq (.reg [o 7 (.mov (.c (.int .i64 0)))] false)
    (.block 0 (.loop ref04_count_b0_live ref04_count_b0)))
  (.seq (.seq (.reg [o 8 (.mov (.c (.int .i64 0)))] false)
    (.block 2 (.loop ref04_count_b1_live ref04_count_b1)))
  (.seq (.reg [o 72 (.mov (.t 1)),
    o 6 (.mov (.t 72))] false)
  (.ret))))))
def ref04_count : IFn := ⟨3, 73, [.tmp 6], false, ref04_count_c⟩

/-- function 57: orchestrator/ value.scalar -/
def value_scalar_c : IR :=
  .seq (.reg [o 1 (.box 5 (.t 0)),
    o 2 (.mov (.c (.bool false)))] false)
  (.seq (.seq (.reg [o 3 (.faddr 0 (.t 1)),
      o 4 (.load 1 false (.t 3))] false)
    (.block 0 (.seq (.reg [o 6 (.bin .eql (.t 4) (.c (.int .i64 1))),
        o 5 (.mov (.t 6))] false)
      (.cond (.t 5) (.seq (.reg [o 7 (.faddr 2 (.t 1)),
          o 8 (.load 1 false (.t 7)),
          o 9 (.bin .eql (.t 8) (.c (.str ⟨#[]⟩))),
          o 10 (.mov (.t 9)),
          ⟨(some 11), (some (10, true)), .faddr 1 (.t 1), []⟩,
          ⟨(some 12), (some (10, true)), .load 1 false (.t 11), []⟩,
          ⟨(some 13), (some (10, true)), .bin .eql (.t 12) (.c (.int .i64 0)), []⟩,
          ⟨(some 14), (some (10, true)), .mov (.t 13), []⟩,
          ⟨(some 15), (some (14, false)), .faddr 1 (.t 1), []⟩,
          ⟨(some 16), (some (14, false)), .load 1 false (.t 15), []⟩,
          ⟨(some 17), (some (14, false)), .bin .eql (.t 16) (.c (.int .i64 1)), []⟩,
          ⟨(some 18), (some (10, true)), .pick (.t 14) (.c (.bool true)) (.t 17), []⟩,
          o 19 (.pick (.t 10) (.t 18) (.c (.bool false))),
          o 2 (.mov (.t 19))] false)
        (.ret))
        (.seq (.reg [o 21 (.bin .eql (.t 4) (.c (.int .i64 2))),
          o 20 (.mov (.t 21))] false)
        (.cond (.t 20) (.seq (.reg [o 22 (.faddr 2 (.t 1)),
            o 23 (.load 1 false (.t 22)),
            o 24 (.bin .eql (.t 23) (.c (.str ⟨#[]⟩))),
            o 25 (.mov (.t 24)),
            ⟨(some 26), (some (25, true)), .faddr 1 (.t 1), []⟩,
            ⟨(some 27), (some (25, true)), .load 1 false (.t 26), []⟩,
            ⟨(some 28), (some (25, true)), .bin .geq (.t 27) (.c (.int .i64 (-1000000000000000))), []⟩,
            o 29 (.pick (.t 25) (.t 28) (.c (.bool false))),
            o 30 (.mov (.t 29)),
            ⟨(some 31), (some (30, true)), .faddr 1 (.t 1), []⟩,
            ⟨(some 32), (some (30, true)), .load 1 false (.t 31), []⟩,
            ⟨(some 33), (some (30, true)), .bin .leq (.t 32) (.c (.int .i64 1000000000000000)), []⟩,
            o 34 (.pick (.t 30) (.t 33) (.c (.bool false))),
            o 2 (.mov (.t 34))] false)
          (.ret))
          (.seq (.reg [o 36 (.bin .eql (.t 4) (.c (.int .i64 3))),
            o 35 (.mov (.t 36))] false)
          (.cond (.t 35) (.seq (.reg [o 37 (.faddr 1 (.t 1)),
              o 38 (.load 1 false (.t 37)),
              o 39 (.bin .eql (.t 38) (.c (.int .i64 0))),
              o 40 (.mov (.t 39)),
              ⟨(some 41), (some (40, true)), .faddr 2 (.t 1), []⟩,
              ⟨(some 42), (some (40, true)), .load 1 false (.t 41), []⟩,
              ⟨(some 43), (some (40, true)), .call false (.f 67) [.t 42], []⟩,
              o 44 (.pick (.t 40) (.t 43) (.c (.bool false))),
              o 2 (.mov (.t 44))] false)
            (.ret))
            (.seq (.seq (.reg [o 46 (.bin .eql (.t 4) (.c (.int .i64 0))),
                o 45 (.mov (.t 46))] false)
              (.cond (.t 45) (.skip)
                (.seq (.reg [o 47 (.bin .eql (.t 4) (.c (.int .i64 4))),
                  o 45 (.mov (.t 47))] false)
                (.cond (.t 45) (.skip)
                  (.reg [o 48 (.bin .eql (.t 4) (.c (.int .i64 5))),
                  o 45 (.mov (.t 48))] false)))))
            (.cond (.t 45) (.seq (.reg [o 49 (.faddr 1 (.t 1)),
                o 50 (.load 1 false (.t 49)),
                o 51 (.bin .eql (.t 50) (.c (.int .i64 0))),
                o 52 (.mov (.t 51)),
                ⟨(some 53), (some (52, true)), .faddr 2 (.t 1), []⟩,
                ⟨(some 54), (some (52, true)), .load 1 false (.t 53), []⟩,
                ⟨(some 55), (some (52, true)), .bin .eql (.t 54) (.c (.str ⟨#[]⟩)), []⟩,
                o 56 (.pick (.t 52) (.t 55) (.c (.bool false))),
                o 2 (.mov (.t 56))] false)
              (.ret))
              (.skip)))))))))))
  (.seq (.reg [o 2 (.mov (.c (.bool false)))] false)
  (.ret)))
def value_scalar : IFn := ⟨1, 57, [.tmp 2], false, value_scalar_c⟩

/-- function 58: orchestrator/ value.name -/
def value_name_b0_live : List Nat := [100033, 0, 6, 7]
def value_name_b0 : IR :=
  .seq (.reg [o 8 (.bin .lss (.t 7) (.t 6))] false)
    (.seq (.cond (.t 8) (.skip)
        (.exit 0))
    (.seq (.block 1 (.seq (.reg [o 9 (.mov (.t 7)),
          o 3 (.mov (.t 9))] false)
        (.seq (.reg [o 10 (.mov (.t 0)),
          o 11 (.mov (.t 3)),
          o 12 (.index (.t 10) (.t 11)),
          o 4 (.mov (.t 12))] false)
        (.seq (.reg [o 13 (.mov (.t 4)),
          o 14 (.bin .geq (.t 13) (.c (.int .u8 97))),
          o 15 (.mov (.t 14)),
          ⟨(some 16), (some (15, true)), .mov (.t 4), []⟩,
          ⟨(some 17), (some (15, true)), .bin .leq (.t 16) (.c (.int .u8 122)), []⟩,
          o 18 (.pick (.t 15) (.t 17) (.c (.bool false))),
          o 19 (.mov (.t 18)),
          ⟨(some 20), (some (19, false)), .mov (.t 4), []⟩,
          ⟨(some 21), (some (19, false)), .bin .geq (.t 20) (.c (.int .u8 65)), []⟩,
          ⟨(some 22), (some (19, false)), .mov (.t 21), []⟩,
          ⟨(some 23), (some (22, true)), .mov (.t 4), []⟩,
          ⟨(some 24), (some (22, true)), .bin .leq (.t 23) (.c (.int .u8 90)), []⟩,
          ⟨(some 25), (some (19, false)), .pick (.t 22) (.t 24) (.c (.bool false)), []⟩,
          o 26 (.pick (.t 19) (.c (.bool true)) (.t 25)),
          o 27 (.mov (.t 26)),
          ⟨(some 28), (some (27, false)), .mov (.t 4), []⟩,
          ⟨(some 29), (some (27, false)), .bin .geq (.t 28) (.c (.int .u8 48)), []⟩,
          ⟨(some 30), (some (27, false)), .mov (.t 29), []⟩,
          ⟨(some 31), (some (30, true)), .mov (.t 4), []⟩,
          ⟨(some 32), (some (30, true)), .bin .leq (.t 31) (.c (.int .u8 57)), []⟩,
          ⟨(some 33), (some (27, false)), .pick (.t 30) (.t 32) (.c (.bool false)), []⟩,
          o 34 (.pick (.t 27) (.c (.bool true)) (.t 33)),
          o 35 (.mov (.t 34)),
          ⟨(some 36), (some (35, false)), .mov (.t 4), []⟩,
          ⟨(some 37), (some (35, false)), .bin .eql (.t 36) (.c (.int .u8 45)), []⟩,
          o 38 (.pick (.t 35) (.c (.bool true)) (.t 37)),
          o 39 (.mov (.t 38)),
          ⟨(some 40), (some (39, false)), .mov (.t 4), []⟩,
          ⟨(some 41), (some (39, false)), .bin .eql (.t 40) (.c (.int .u8 95)), []⟩,
          o 42 (.pick (.t 39) (.c (.bool true)) (.t 41)),
          o 43 (.mov (.t 42)),
          ⟨(some 44), (some (43, false)), .mov (.t 4), []⟩,
          ⟨(some 45), (some (43, false)), .bin .eql (.t 44) (.c (.int .u8 47)), []⟩,
          o 46 (.pick (.t 43) (.c (.bool true)) (.t 45)),
          o 47 (.un .not (.t 46))] false)
        (.cond (.t 47) (.seq (.reg [o 2 (.mov (.c (.bool false)))] false)
          (.ret))
          (.skip))))))
    (.reg [o 48 (.bin .add (.t 7) (.c (.int .i64 1))),
    o 7 (.mov (.t 48))] false)))
def value_name_c : IR :=
  .seq (.reg [o 2 (.mov (.c (.bool false)))] false)
  (.seq (.seq (.reg [o 5 (.mov (.t 0)),
      o 6 (.len true (.t 5)),
      o 7 (.mov (.c (.int .i64 0)))] false)
    (.block 0 (.loop value_name_b0_live value_name_b0)))
  (.seq (.reg [o 49 (.mov (.t 0)),
    o 50 (.len true (.t 49)),
    o 51 (.bin .geq (.t 50) (.c (.int .i64 1))),
    o 52 (.mov (.t 51)),
    ⟨(some 53), (some (52, true)), .mov (.t 0), []⟩,
    ⟨(some 54), (some (52, true)), .len true (.t 53), []⟩,
    ⟨(some 55), (some (52, true)), .bin .leq (.t 54) (.c (.int .i64 40)), []⟩,
    o 56 (.pick (.t 52) (.t 55) (.c (.bool false))),
    o 2 (.mov (.t 56))] false)
  (.ret)))
def value_name : IFn := ⟨1, 57, [.tmp 2], false, value_name_c⟩

/-- function 59: orchestrator/ orchestratorref04.scalar -/
def ref04_scalar_c : IR :=
  .seq (.reg [o 1 (.box 5 (.t 0)),
    o 2 (.mov (.c (.bool false)))] false)
  (.seq (.seq (.reg [o 3 (.faddr 0 (.t 1)),
      o 4 (.load 1 false (.t 3))] false)
    (.block 0 (.seq (.reg [o 6 (.bin .eql (.t 4) (.c (.int .i64 1))),
        o 5 (.mov (.t 6))] false)
      (.cond (.t 5) (.seq (.reg [o 7 (.faddr 1 (.t 1)),
          o 8 (.load 1 false (.t 7)),
          o 9 (.bin .eql (.t 8) (.c (.int .i64 0))),
          o 10 (.mov (.t 9)),
          ⟨(some 11), (some (10, false)), .faddr 1 (.t 1), []⟩,
          ⟨(some 12), (some (10, false)), .load 1 false (.t 11), []⟩,
          ⟨(some 13), (some (10, false)), .bin .eql (.t 12) (.c (.int .i64 1)), []⟩,
          o 14 (.pick (.t 10) (.c (.bool true)) (.t 13)),
          o 15 (.mov (.t 14)),
          ⟨(some 16), (some (15, true)), .faddr 2 (.t 1), []⟩,
          ⟨(some 17), (some (15, true)), .load 1 false (.t 16), []⟩,
          ⟨(some 18), (some (15, true)), .bin .eql (.t 17) (.c (.str ⟨#[]⟩)), []⟩,
          o 19 (.pick (.t 15) (.t 18) (.c (.bool false))),
          o 2 (.mov (.t 19))] false)
        (.ret))
        (.seq (.reg [o 21 (.bin .eql (.t 4) (.c (.int .i64 2))),
          o 20 (.mov (.t 21))] false)
        (.cond (.t 20) (.seq (.reg [o 22 (.faddr 1 (.t 1)),
            o 23 (.load 1 false (.t 22)),
            o 24 (.bin .geq (.t 23) (.c (.int .i64 (-1000000000000000)))),
            o 25 (.mov (.t 24)),
            ⟨(some 26), (some (25, true)), .faddr 1 (.t 1), []⟩,
            ⟨(some 27), (some (25, true)), .load 1 false (.t 26), []⟩,
            ⟨(some 28), (some (25, true)), .bin .leq (.t 27) (.c (.int .i64 1000000000000000)), []⟩,
            o 29 (.pick (.t 25) (.t 28) (.c (.bool false))),
            o 30 (.mov (.t 29)),
            ⟨(some 31), (some (30, true)), .faddr 2 (.t 1), []⟩,
            ⟨(some 32), (some (30, true)), .load 1 false (.t 31), []⟩,
            ⟨(some 33), (some (30, true)), .bin .eql (.t 32) (.c (.str ⟨#[]⟩)), []⟩,
            o 34 (.pick (.t 30) (.t 33) (.c (.bool false))),
            o 2 (.mov (.t 34))] false)
          (.ret))
          (.seq (.reg [o 36 (.bin .eql (.t 4) (.c (.int .i64 3))),
            o 35 (.mov (.t 36))] false)
          (.cond (.t 35) (.seq (.reg [o 37 (.faddr 1 (.t 1)),
              o 38 (.load 1 false (.t 37)),
              o 39 (.bin .eql (.t 38) (.c (.int .i64 0))),
              o 40 (.mov (.t 39)),
              ⟨(some 41), (some (40, true)), .faddr 2 (.t 1), []⟩,
              ⟨(some 42), (some (40, true)), .load 1 false (.t 41), []⟩,
              ⟨(some 43), (some (40, true)), .call false (.f 68) [.t 42], []⟩,
              o 44 (.pick (.t 40) (.t 43) (.c (.bool false))),
              o 2 (.mov (.t 44))] false)
            (.ret))
            (.seq (.seq (.reg [o 46 (.bin .eql (.t 4) (.c (.int .i64 0))),
                o 45 (.mov (.t 46))] false)
              (.cond (.t 45) (.skip)
                (.seq (.reg [o 47 (.bin .eql (.t 4) (.c (.int .i64 4))),
                  o 45 (.mov (.t 47))] false)
                (.cond (.t 45) (.skip)
                  (.reg [o 48 (.bin .eql (.t 4) (.c (.int .i64 5))),
                  o 45 (.mov (.t 48))] false)))))
            (.cond (.t 45) (.seq (.reg [o 49 (.faddr 1 (.t 1)),
                o 50 (.load 1 false (.t 49)),
                o 51 (.bin .eql (.t 50) (.c (.int .i64 0))),
                o 52 (.mov (.t 51)),
                ⟨(some 53), (some (52, true)), .faddr 2 (.t 1), []⟩,
                ⟨(some 54), (some (52, true)), .load 1 false (.t 53), []⟩,
                ⟨(some 55), (some (52, true)), .bin .eql (.t 54) (.c (.str ⟨#[]⟩)), []⟩,
                o 56 (.pick (.t 52) (.t 55) (.c (.bool false))),
                o 2 (.mov (.t 56))] false)
              (.ret))
              (.skip)))))))))))
  (.seq (.reg [o 2 (.mov (.c (.bool false)))] false)
  (.ret)))
def ref04_scalar : IFn := ⟨1, 57, [.tmp 2], false, ref04_scalar_c⟩

/-- function 60: orchestrator/ orchestratorref04.ValidField -/
def ref04_ValidField_b0_live : List Nat := [100034, 0, 3]
def ref04_ValidField_b0 : IR :=
  .seq (.seq (.reg [o 6 (.mov (.t 3)),
        o 7 (.mov (.t 0)),
        o 8 (.len true (.t 7)),
        o 9 (.bin .lss (.t 6) (.t 8))] false)
      (.cond (.t 9) (.skip)
        (.exit 0)))
    (.seq (.block 1 (.seq (.reg [o 12 (.mov (.t 0)),
          o 13 (.mov (.t 3)),
          o 14 (.index (.t 12) (.t 13)),
          o 4 (.mov (.t 14))] false)
        (.seq (.reg [o 15 (.mov (.t 4)),
          o 16 (.bin .geq (.t 15) (.c (.int .u8 97))),
          o 17 (.mov (.t 16)),
          ⟨(some 18), (some (17, true)), .mov (.t 4), []⟩,
          ⟨(some 19), (some (17, true)), .bin .leq (.t 18) (.c (.int .u8 122)), []⟩,
          o 20 (.pick (.t 17) (.t 19) (.c (.bool false))),
          o 21 (.mov (.t 20)),
          ⟨(some 22), (some (21, false)), .mov (.t 4), []⟩,
          ⟨(some 23), (some (21, false)), .bin .geq (.t 22) (.c (.int .u8 65)), []⟩,
          ⟨(some 24), (some (21, false)), .mov (.t 23), []⟩,
          ⟨(some 25), (some (24, true)), .mov (.t 4), []⟩,
          ⟨(some 26), (some (24, true)), .bin .leq (.t 25) (.c (.int .u8 90)), []⟩,
          ⟨(some 27), (some (21, false)), .pick (.t 24) (.t 26) (.c (.bool false)), []⟩,
          o 28 (.pick (.t 21) (.c (.bool true)) (.t 27)),
          o 5 (.mov (.t 28))] false)
        (.seq (.reg [o 29 (.mov (.t 5)),
          o 30 (.un .not (.t 29)),
          o 31 (.mov (.t 30)),
          ⟨(some 32), (some (31, true)), .mov (.t 4), []⟩,
          ⟨(some 33), (some (31, true)), .bin .geq (.t 32) (.c (.int .u8 48)), []⟩,
          ⟨(some 34), (some (31, true)), .mov (.t 33), []⟩,
          ⟨(some 35), (some (34, true)), .mov (.t 4), []⟩,
          ⟨(some 36), (some (34, true)), .bin .leq (.t 35) (.c (.int .u8 57)), []⟩,
          ⟨(some 37), (some (31, true)), .pick (.t 34) (.t 36) (.c (.bool false)), []⟩,
          ⟨(some 38), (some (31, true)), .un .not (.t 37), []⟩,
          o 39 (.pick (.t 31) (.t 38) (.c (.bool false))),
          o 40 (.mov (.t 39)),
          ⟨(some 41), (some (40, true)), .mov (.t 4), []⟩,
          ⟨(some 42), (some (40, true)), .bin .neq (.t 41) (.c (.int .u8 45)), []⟩,
          o 43 (.pick (.t 40) (.t 42) (.c (.bool false))),
          o 44 (.mov (.t 43)),
          ⟨(some 45), (some (44, true)), .mov (.t 4), []⟩,
          ⟨(some 46), (some (44, true)), .bin .neq (.t 45) (.c (.int .u8 95)), []⟩,
          o 47 (.pick (.t 44) (.t 46) (.c (.bool false))),
          o 48 (.mov (.t 47)),
          ⟨(some 49), (some (48, true)), .mov (.t 4), []⟩,
          ⟨(some 50), (some (48, true)), .bin .neq (.t 49) (.c (.int .u8 47)), []⟩,
          o 51 (.pick (.t 48) (.t 50) (.c (.bool false)))] false)
        (.cond (.t 51) (.seq (.reg [o 2 (.mov (.c (.bool false)))] false)
          (.ret))
          (.skip))))))
    (.reg [o 10 (.mov (.t 3)),
    o 11 (.bin .add (.t 10) (.c (.int .i64 1))),
    o 3 (.mov (.t 11))] false))
def ref04_ValidField_c : IR :=
  .seq (.reg [o 2 (.mov (.c (.bool false)))] false)
  (.seq (.seq (.reg [o 3 (.mov (.c (.int .i64 0)))] false)
    (.block 0 (.loop ref04_ValidField_b0_live ref04_ValidField_b0)))
  (.seq (.reg [o 52 (.mov (.t 0)),
    o 53 (.len true (.t 52)),
    o 54 (.bin .geq (.t 53) (.c (.int .i64 1))),
    o 55 (.mov (.t 54)),
    ⟨(some 56), (some (55, true)), .mov (.t 0), []⟩,
    ⟨(some 57), (some (55, true)), .len true (.t 56), []⟩,
    ⟨(some 58), (some (55, true)), .bin .leq (.t 57) (.c (.int .i64 40)), []⟩,
    o 59 (.pick (.t 55) (.t 58) (.c (.bool false))),
    o 2 (.mov (.t 59))] false)
  (.ret)))
def ref04_ValidField : IFn := ⟨1, 60, [.tmp 2], false, ref04_ValidField_c⟩

/-- function 61: cmp.isNaN[int] -/
def cmp_isNaN_c : IR :=
  .seq (.reg [o 2 (.mov (.c (.bool false)))] false)
  (.seq (.reg [o 3 (.mov (.t 0)),
    o 4 (.mov (.t 0)),
    o 5 (.bin .neq (.t 3) (.t 4)),
    o 2 (.mov (.t 5))] false)
  (.ret))
def cmp_isNaN : IFn := ⟨1, 6, [.tmp 2], false, cmp_isNaN_c⟩

/-- function 64: slices.stableCmpFunc[orchestrator/ api.Field] -/
def slices_stableCmpFunc_b2_live : List Nat := [100037, 0, 1, 2, 6, 7, 8]
def slices_stableCmpFunc_b2 : IR :=
  .seq (.seq (.reg [o 33 (.mov (.t 8)),
        o 34 (.mov (.t 1)),
        o 35 (.bin .leq (.t 33) (.t 34))] false)
      (.cond (.t 35) (.skip)
        (.exit 4)))
    (.block 5 (.seq (.reg [o 36 (.mov (.t 0)),
        o 37 (.mov (.t 7)),
        o 38 (.mov (.t 7)),
        o 39 (.mov (.t 6)),
        o 40 (.bin .add (.t 38) (.t 39)),
        o 41 (.mov (.t 8)),
        o 42 (.mov (.t 2)),
        o 43 (.call true (.f 71) [.t 36, .t 37, .t 40, .t 41, .t 42])] false)
      (.seq (.reg [o 44 (.mov (.t 8)),
        o 7 (.mov (.t 44))] false)
      (.reg [o 45 (.mov (.t 8)),
      o 46 (.mov (.t 6)),
      o 47 (.bin .mul (.c (.int .i64 2)) (.t 46)),
      o 48 (.bin .add (.t 45) (.t 47)),
      o 8 (.mov (.t 48))] false))))
def slices_stableCmpFunc_b1_live : List Nat := [100036, 0, 1, 2, 6]
def slices_stableCmpFunc_b1 : IR :=
  .seq (.seq (.reg [o 28 (.mov (.t 6)),
        o 29 (.mov (.t 1)),
        o 30 (.bin .lss (.t 28) (.t 29))] false)
      (.cond (.t 30) (.skip)
        (.exit 2)))
    (.block 3 (.seq (.reg [o 31 (.mov (.t 6)),
        o 32 (.bin .mul (.c (.int .i64 2)) (.t 31)),
        o 7 (.mov (.c (.int .i64 0))),
        o 8 (.mov (.t 32))] false)
      (.seq (.block 4 (.loop slices_stableCmpFunc_b2_live slices_stableCmpFunc_b2))
      (.seq (.seq (.reg [o 49 (.mov (.t 7)),
          o 50 (.mov (.t 6)),
          o 51 (.bin .add (.t 49) (.t 50)),
          o 9 (.mov (.t 51))] false)
        (.seq (.reg [o 52 (.mov (.t 9)),
          o 53 (.mov (.t 1)),
          o 54 (.bin .lss (.t 52) (.t 53))] false)
        (.cond (.t 54) (.reg [o 55 (.mov (.t 0)),
          o 56 (.mov (.t 7)),
          o 57 (.mov (.t 9)),
          o 58 (.mov (.t 1)),
          o 59 (.mov (.t 2)),
          o 60 (.call true (.f 71) [.t 55, .t 56, .t 57, .t 58, .t 59])] false)
          (.skip))))
      (.reg [o 61 (.mov (.t 6)),
      o 62 (.bin .mul (.t 61) (.c (.int .i64 2))),
      o 6 (.mov (.t 62))] false)))))
def slices_stableCmpFunc_b0_live : List Nat := [100035, 0, 1, 2, 6, 7, 8]
def slices_stableCmpFunc_b0 : IR :=
  .seq (.seq (.reg [o 11 (.mov (.t 8)),
        o 12 (.mov (.t 1)),
        o 13 (.bin .leq (.t 11) (.t 12))] false)
      (.cond (.t 13) (.skip)
        (.exit 0)))
    (.block 1 (.seq (.reg [o 14 (.mov (.t 0)),
        o 15 (.mov (.t 7)),
        o 16 (.mov (.t 8)),
        o 17 (.mov (.t 2)),
        o 18 (.call true (.f 70) [.t 14, .t 15, .t 16, .t 17])] false)
      (.seq (.reg [o 19 (.mov (.t 8)),
        o 7 (.mov (.t 19))] false)
      (.reg [o 20 (.mov (.t 8)),
      o 21 (.mov (.t 6)),
      o 22 (.bin .add (.t 20) (.t 21)),
      o 8 (.mov (.t 22))] false))))
def slices_stableCmpFunc_c : IR :=
  .seq (.reg [o 6 (.mov (.c (.int .i64 20)))] false)
  (.seq (.reg [o 10 (.mov (.t 6)),
    o 7 (.mov (.c (.int .i64 0))),
    o 8 (.mov (.t 10))] false)
  (.seq (.block 0 (.loop slices_stableCmpFunc_b0_live slices_stableCmpFunc_b0))
  (.seq (.reg [o 23 (.mov (.t 0)),
    o 24 (.mov (.t 7)),
    o 25 (.mov (.t 1)),
    o 26 (.mov (.t 2)),
    o 27 (.call true (.f 70) [.t 23, .t 24, .t 25, .t 26])] false)
  (.block 2 (.loop slices_stableCmpFunc_b1_live slices_stableCmpFunc_b1)))))
def slices_stableCmpFunc : IFn := ⟨3, 63, [], false, slices_stableCmpFunc_c⟩

/-- function 65: slices.DeleteFunc[[]orchestrator/ api.Field,orchestrator/ api.Field] -/
def slices_DeleteFunc_b0_live : List Nat := [100038, 0, 1, 5, 6]
def slices_DeleteFunc_b0 : IR :=
  .seq (.seq (.reg [o 16 (.mov (.t 6)),
        o 17 (.mov (.t 0)),
        o 18 (.len false (.t 17)),
        o 19 (.bin .lss (.t 16) (.t 18))] false)
      (.cond (.t 19) (.skip)
        (.exit 0)))
    (.seq (.block 1 (.seq (.reg [o 22 (.mov (.t 0)),
          o 23 (.mov (.t 6)),
          o 24 (.iaddr 6 (.t 22) (.t 23)),
          o 25 (.load 6 true (.t 24)),
          o 7 (.zero [.str ⟨#[]⟩, .int .i64 0, .int .i64 0, .str ⟨#[]⟩, .ns 5, .ns 6]),
          ⟨none, none, .store 6 (.t 7) (.t 25), []⟩] false)
        (.seq (.reg [o 26 (.mov (.t 1)),
          o 27 (.load 6 true (.t 7)),
          o 28 (.call false (.t 26) [.t 27]),
          o 29 (.un .not (.t 28))] false)
        (.cond (.t 29) (.seq (.reg [o 30 (.mov (.t 0)),
            o 31 (.mov (.t 5)),
            o 32 (.load 6 true (.t 7)),
            o 33 (.iaddr 6 (.t 30) (.t 31)),
            ⟨none, none, .store 6 (.t 33) (.t 32), []⟩] false)
          (.reg [o 34 (.mov (.t 5)),
          o 35 (.bin .add (.t 34) (.c (.int .i64 1))),
          o 5 (.mov (.t 35))] false))
          (.skip)))))
    (.reg [o 20 (.mov (.t 6)),
    o 21 (.bin .add (.t 20) (.c (.int .i64 1))),
    o 6 (.mov (.t 21))] false))
def slices_DeleteFunc_c : IR :=
  .seq (.reg [o 4 (.mov (.c (.ns 6)))] false)
  (.seq (.reg [o 8 (.mov (.t 0)),
    o 9 (.mov (.t 1)),
    o 10 (.call false (.f 72) [.t 8, .t 9]),
    o 5 (.mov (.t 10))] false)
  (.seq (.seq (.reg [o 11 (.mov (.t 5)),
      o 12 (.bin .eql (.t 11) (.c (.int .i64 (-1))))] false)
    (.cond (.t 12) (.seq (.reg [o 13 (.mov (.t 0)),
        o 4 (.mov (.t 13))] false)
      (.ret))
      (.skip)))
  (.seq (.seq (.reg [o 14 (.mov (.t 5)),
      o 15 (.bin .add (.t 14) (.c (.int .i64 1))),
      o 6 (.mov (.t 15))] false)
    (.block 0 (.loop slices_DeleteFunc_b0_live slices_DeleteFunc_b0)))
  (.seq (.reg [o 36 (.mov (.t 0)),
    o 37 (.mov (.t 5)),
    o 38 (.slice 6 (.t 36) (some (.t 37)) none none),
    ⟨none, none, .clear 6 [.str ⟨#[]⟩, .int .i64 0, .int .i64 0, .str ⟨#[]⟩, .ns 5, .ns 6] (.t 38), []⟩] false)
  (.seq (.reg [o 39 (.mov (.t 0)),
    o 40 (.mov (.t 5)),
    o 41 (.slice 6 (.t 39) none (some (.t 40)) none),
    o 4 (.mov (.t 41))] false)
  (.ret))))))
def slices_DeleteFunc : IFn := ⟨2, 42, [.tmp 4], false, slices_DeleteFunc_c⟩

/-- function 66: orchestrator/ value.others$1 -/
def value_others_1_c : IR :=
  .seq (.reg [o 2 (.box 6 (.t 0)),
    o 3 (.mov (.c (.bool false)))] false)
  (.seq (.reg [o 4 (.faddr 0 (.t 2)),
    o 5 (.load 1 false (.t 4)),
    o 6 (.load 1 false (.t 1)),
    o 7 (.bin .eql (.t 5) (.t 6)),
    o 3 (.mov (.t 7))] false)
  (.ret))
def value_others_1 : IFn := ⟨2, 8, [.tmp 3], false, value_others_1_c⟩

/-- function 67: orchestrator/ value.text -/
def value_text_b0_live : List Nat := [100039, 0, 5, 6]
def value_text_b0 : IR :=
  .seq (.reg [o 7 (.bin .lss (.t 6) (.t 5))] false)
    (.seq (.cond (.t 7) (.skip)
        (.exit 0))
    (.seq (.block 1 (.seq (.reg [o 8 (.mov (.t 6)),
          o 3 (.mov (.t 8))] false)
        (.seq (.reg [o 9 (.mov (.t 0)),
          o 10 (.mov (.t 3)),
          o 11 (.index (.t 9) (.t 10)),
          o 12 (.bin .neq (.t 11) (.c (.int .u8 10))),
          o 13 (.mov (.t 12)),
          ⟨(some 14), (some (13, true)), .mov (.t 0), []⟩,
          ⟨(some 15), (some (13, true)), .mov (.t 3), []⟩,
          ⟨(some 16), (some (13, true)), .index (.t 14) (.t 15), []⟩,
          ⟨(some 17), (some (13, true)), .bin .lss (.t 16) (.c (.int .u8 32)), []⟩,
          ⟨(some 18), (some (13, true)), .mov (.t 17), []⟩,
          ⟨(some 19), (some (18, false)), .mov (.t 0), []⟩,
          ⟨(some 20), (some (18, false)), .mov (.t 3), []⟩,
          ⟨(some 21), (some (18, false)), .index (.t 19) (.t 20), []⟩,
          ⟨(some 22), (some (18, false)), .bin .gtr (.t 21) (.c (.int .u8 126)), []⟩,
          ⟨(some 23), (some (13, true)), .pick (.t 18) (.c (.bool true)) (.t 22), []⟩,
          o 24 (.pick (.t 13) (.t 23) (.c (.bool false)))] false)
        (.cond (.t 24) (.seq (.reg [o 2 (.mov (.c (.bool false)))] false)
          (.ret))
          (.skip)))))
    (.reg [o 25 (.bin .add (.t 6) (.c (.int .i64 1))),
    o 6 (.mov (.t 25))] false)))
def value_text_c : IR :=
  .seq (.reg [o 2 (.mov (.c (.bool false)))] false)
  (.seq (.seq (.reg [o 4 (.mov (.t 0)),
      o 5 (.len true (.t 4)),
      o 6 (.mov (.c (.int .i64 0)))] false)
    (.block 0 (.loop value_text_b0_live value_text_b0)))
  (.seq (.reg [o 26 (.mov (.t 0)),
    o 27 (.len true (.t 26)),
    o 28 (.bin .leq (.t 27) (.c (.int .i64 200))),
    o 2 (.mov (.t 28))] false)
  (.ret)))
def value_text : IFn := ⟨1, 29, [.tmp 2], false, value_text_c⟩

/-- function 68: orchestrator/ orchestratorref04.ValidString -/
def ref04_ValidString_b0_live : List Nat := [100040, 0, 3]
def ref04_ValidString_b0 : IR :=
  .seq (.seq (.reg [o 4 (.mov (.t 3)),
        o 5 (.mov (.t 0)),
        o 6 (.len true (.t 5)),
        o 7 (.bin .lss (.t 4) (.t 6))] false)
      (.cond (.t 7) (.skip)
        (.exit 0)))
    (.seq (.block 1 (.seq (.reg [o 10 (.mov (.t 0)),
          o 11 (.mov (.t 3)),
          o 12 (.index (.t 10) (.t 11)),
          o 13 (.bin .neq (.t 12) (.c (.int .u8 10))),
          o 14 (.mov (.t 13)),
          ⟨(some 15), (some (14, true)), .mov (.t 0), []⟩,
          ⟨(some 16), (some (14, true)), .mov (.t 3), []⟩,
          ⟨(some 17), (some (14, true)), .index (.t 15) (.t 16), []⟩,
          ⟨(some 18), (some (14, true)), .bin .lss (.t 17) (.c (.int .u8 32)), []⟩,
          ⟨(some 19), (some (14, true)), .mov (.t 18), []⟩,
          ⟨(some 20), (some (19, false)), .mov (.t 0), []⟩,
          ⟨(some 21), (some (19, false)), .mov (.t 3), []⟩,
          ⟨(some 22), (some (19, false)), .index (.t 20) (.t 21), []⟩,
          ⟨(some 23), (some (19, false)), .bin .gtr (.t 22) (.c (.int .u8 126)), []⟩,
          ⟨(some 24), (some (14, true)), .pick (.t 19) (.c (.bool true)) (.t 23), []⟩,
          o 25 (.pick (.t 14) (.t 24) (.c (.bool false)))] false)
        (.cond (.t 25) (.seq (.reg [o 2 (.mov (.c (.bool false)))] false)
          (.ret))
          (.skip))))
    (.reg [o 8 (.mov (.t 3)),
    o 9 (.bin .add (.t 8) (.c (.int .i64 1))),
    o 3 (.mov (.t 9))] false))
def ref04_ValidString_c : IR :=
  .seq (.reg [o 2 (.mov (.c (.bool false)))] false)
  (.seq (.seq (.reg [o 3 (.mov (.c (.int .i64 0)))] false)
    (.block 0 (.loop ref04_ValidString_b0_live ref04_ValidString_b0)))
  (.seq (.reg [o 26 (.mov (.t 0)),
    o 27 (.len true (.t 26)),
    o 28 (.bin .leq (.t 27) (.c (.int .i64 200))),
    o 2 (.mov (.t 28))] false)
  (.ret)))
def ref04_ValidString : IFn := ⟨1, 29, [.tmp 2], false, ref04_ValidString_c⟩

/-- function 70: slices.insertionSortCmpFunc[orchestrator/ api.Field] -/
def slices_insertionSortCmpFunc_b1_live : List Nat := [100042, 0, 1, 2, 3, 8, 9]
def slices_insertionSortCmpFunc_b1 : IR :=
  .seq (.seq (.reg [o 18 (.mov (.t 9)),
        o 19 (.mov (.t 1)),
        ob 20 (.bin .gtr (.t 18) (.t 19)) [0, 1],
        ob 21 (.mov (.t 20)) [0, 1, 2],
        ⟨(some 22), (some (21, true)), .mov (.t 3), [0, 1, 2, 3]⟩,
        ⟨(some 23), (some (21, true)), .mov (.t 0), [0, 1, 2, 3]⟩,
        ⟨(some 24), (some (21, true)), .mov (.t 9), [0, 1, 2, 3]⟩,
        ⟨(some 25), (some (21, true)), .iaddr 6 (.t 23) (.t 24), (rg 0 4 ++ [5, 6])⟩,
        ⟨(some 26), (some (21, true)), .load 6 true (.t 25), (rg 0 4 ++ [5, 6, 7])⟩,
        ⟨(some 27), (some (21, true)), .mov (.t 0), [0, 1, 2, 3]⟩,
        ⟨(some 28), (some (21, true)), .mov (.t 9), [0, 1, 2, 3]⟩,
        ⟨(some 29), (some (21, true)), .bin .sub (.t 28) (.c (.int .i64 1)), (rg 0 4 ++ [10])⟩,
        ⟨(some 30), (some (21, true)), .iaddr 6 (.t 27) (.t 29), (rg 0 4 ++ [9, 10, 11])⟩,
        ⟨(some 31), (some (21, true)), .load 6 true (.t 30), (rg 0 4 ++ rg 9 13)⟩,
        ⟨(some 32), (some (21, true)), .call false (.t 22) [.t 26, .t 31], (rg 0 14)⟩,
        ⟨(some 33), (some (21, true)), .bin .lss (.t 32) (.c (.int .i64 0)), (rg 0 15)⟩,
        ob 34 (.pick (.t 21) (.t 33) (.c (.bool false))) (rg 0 16)] true)
      (.cond (.t 34) (.skip)
        (.exit 2)))
    (.seq (.block 3 (.reg [o 37 (.mov (.t 0)),
        o 38 (.mov (.t 9)),
        o 39 (.mov (.t 0)),
        o 40 (.mov (.t 9)),
        ob 41 (.bin .sub (.t 40) (.c (.int .i64 1))) [3],
        o 42 (.mov (.t 0)),
        o 43 (.mov (.t 9)),
        ob 44 (.bin .sub (.t 43) (.c (.int .i64 1))) [6],
        ob 45 (.iaddr 6 (.t 42) (.t 44)) [5, 6, 7],
        ob 46 (.load 6 true (.t 45)) [5, 6, 7, 8],
        o 47 (.mov (.t 0)),
        o 48 (.mov (.t 9)),
        ob 49 (.iaddr 6 (.t 47) (.t 48)) [10, 11],
        ob 50 (.load 6 true (.t 49)) [10, 11, 12],
        ob 51 (.iaddr 6 (.t 37) (.t 38)) ([0, 1] ++ rg 5 14),
        ⟨none, none, .store 6 (.t 51) (.t 46), ([0, 1] ++ rg 5 15)⟩,
        ob 52 (.iaddr 6 (.t 39) (.t 41)) (rg 0 16),
        ⟨none, none, .store 6 (.t 52) (.t 50), (rg 0 17)⟩] true))
    (.reg [o 35 (.mov (.t 9)),
    o 36 (.bin .sub (.t 35) (.c (.int .i64 1))),
    o 9 (.mov (.t 36))] false))
def slices_insertionSortCmpFunc_b0_live : List Nat := [100041, 0, 1, 2, 3, 8]
def slices_insertionSortCmpFunc_b0 : IR :=
  .seq (.seq (.reg [o 12 (.mov (.t 8)),
        o 13 (.mov (.t 2)),
        o 14 (.bin .lss (.t 12) (.t 13))] false)
      (.cond (.t 14) (.skip)
        (.exit 0)))
    (.seq (.block 1 (.seq (.reg [o 17 (.mov (.t 8)),
          o 9 (.mov (.t 17))] false)
        (.block 2 (.loop slices_insertionSortCmpFunc_b1_live slices_insertionSortCmpFunc_b1))))
    (.reg [o 15 (.mov (.t 8)),
    o 16 (.bin .add (.t 15) (.c (.int .i64 1))),
    o 8 (.mov (.t 16))] false))
def slices_insertionSortCmpFunc_c : IR :=
  .seq (.reg [o 10 (.mov (.t 1)),
    o 11 (.bin .add (.t 10) (.c (.int .i64 1))),
    o 8 (.mov (.t 11))] false)
  (.block 0 (.loop slices_insertionSortCmpFunc_b0_live slices_insertionSortCmpFunc_b0))
def slices_insertionSortCmpFunc : IFn := ⟨4, 53, [], false, slices_insertionSortCmpFunc_c⟩

/-- function 71: slices.symMergeCmpFunc[orchestrator/ api.Field] -/
def slices_symMergeCmpFunc_b4_live : List Nat := [100047, 0, 1, 2, 3, 4, 18, 19, 20, 21, 22]
def slices_symMergeCmpFunc_b4 : IR :=
  .seq (.seq (.reg [o 149 (.mov (.t 20)),
        o 150 (.mov (.t 21)),
        o 151 (.bin .lss (.t 149) (.t 150))] false)
      (.cond (.t 151) (.skip)
        (.exit 8)))
    (.block 9 (.seq (.reg [o 152 (.mov (.t 20)),
        o 153 (.mov (.t 21)),
        o 154 (.bin .add (.t 152) (.t 153)),
        o 155 (.conv .u64 (.t 154)),
        o 156 (.bin .shr (.t 155) (.c (.int .u64 1))),
        o 157 (.conv .i64 (.t 156)),
        o 23 (.mov (.t 157))] false)
      (.seq (.reg [o 158 (.mov (.t 4)),
        o 159 (.mov (.t 0)),
        o 160 (.mov (.t 22)),
        o 161 (.mov (.t 23)),
        ob 162 (.bin .sub (.t 160) (.t 161)) [2, 3],
        ob 163 (.iaddr 6 (.t 159) (.t 162)) [1, 2, 3, 4],
        ob 164 (.load 6 true (.t 163)) (rg 1 6),
        o 165 (.mov (.t 0)),
        o 166 (.mov (.t 23)),
        ob 167 (.iaddr 6 (.t 165) (.t 166)) [7, 8],
        ob 168 (.load 6 true (.t 167)) [7, 8, 9],
        ob 169 (.call false (.t 158) [.t 164, .t 168]) (rg 0 11),
        ob 170 (.bin .lss (.t 169) (.c (.int .i64 0))) (rg 0 12),
        ob 171 (.un .not (.t 170)) (rg 0 13)] true)
      (.cond (.t 171) (.reg [o 172 (.mov (.t 23)),
        o 173 (.bin .add (.t 172) (.c (.int .i64 1))),
        o 20 (.mov (.t 173))] false)
        (.reg [o 174 (.mov (.t 23)),
        o 21 (.mov (.t 174))] false)))))
def slices_symMergeCmpFunc_b3_live : List Nat := [100046, 0, 14, 17]
def slices_symMergeCmpFunc_b3 : IR :=
  .seq (.seq (.reg [o 108 (.mov (.t 17)),
        o 109 (.mov (.t 14)),
        o 110 (.bin .gtr (.t 108) (.t 109))] false)
      (.cond (.t 110) (.skip)
        (.exit 6)))
    (.seq (.block 7 (.reg [o 113 (.mov (.t 0)),
        o 114 (.mov (.t 17)),
        o 115 (.mov (.t 0)),
        o 116 (.mov (.t 17)),
        ob 117 (.bin .sub (.t 116) (.c (.int .i64 1))) [3],
        o 118 (.mov (.t 0)),
        o 119 (.mov (.t 17)),
        ob 120 (.bin .sub (.t 119) (.c (.int .i64 1))) [6],
        ob 121 (.iaddr 6 (.t 118) (.t 120)) [5, 6, 7],
        ob 122 (.load 6 true (.t 121)) [5, 6, 7, 8],
        o 123 (.mov (.t 0)),
        o 124 (.mov (.t 17)),
        ob 125 (.iaddr 6 (.t 123) (.t 124)) [10, 11],
        ob 126 (.load 6 true (.t 125)) [10, 11, 12],
        ob 127 (.iaddr 6 (.t 113) (.t 114)) ([0, 1] ++ rg 5 14),
        ⟨none, none, .store 6 (.t 127) (.t 122), ([0, 1] ++ rg 5 15)⟩,
        ob 128 (.iaddr 6 (.t 115) (.t 117)) (rg 0 16),
        ⟨none, none, .store 6 (.t 128) (.t 126), (rg 0 17)⟩] true))
    (.reg [o 111 (.mov (.t 17)),
    o 112 (.bin .sub (.t 111) (.c (.int .i64 1))),
    o 17 (.mov (.t 112))] false))
def slices_symMergeCmpFunc_b2_live : List Nat := [100045, 0, 2, 4, 14, 15]
def slices_symMergeCmpFunc_b2 : IR :=
  .seq (.seq (.reg [o 83 (.mov (.t 14)),
        o 84 (.mov (.t 15)),
        o 85 (.bin .lss (.t 83) (.t 84))] false)
      (.cond (.t 85) (.skip)
        (.exit 4)))
    (.block 5 (.seq (.reg [o 86 (.mov (.t 14)),
        o 87 (.mov (.t 15)),
        o 88 (.bin .add (.t 86) (.t 87)),
        o 89 (.conv .u64 (.t 88)),
        o 90 (.bin .shr (.t 89) (.c (.int .u64 1))),
        o 91 (.conv .i64 (.t 90)),
        o 16 (.mov (.t 91))] false)
      (.seq (.reg [o 92 (.mov (.t 4)),
        o 93 (.mov (.t 0)),
        o 94 (.mov (.t 2)),
        ob 95 (.iaddr 6 (.t 93) (.t 94)) [1, 2],
        ob 96 (.load 6 true (.t 95)) [1, 2, 3],
        o 97 (.mov (.t 0)),
        o 98 (.mov (.t 16)),
        ob 99 (.iaddr 6 (.t 97) (.t 98)) [5, 6],
        ob 100 (.load 6 true (.t 99)) [5, 6, 7],
        ob 101 (.call false (.t 92) [.t 96, .t 100]) (rg 0 9),
        ob 102 (.bin .lss (.t 101) (.c (.int .i64 0))) (rg 0 10),
        ob 103 (.un .not (.t 102)) (rg 0 11)] true)
      (.cond (.t 103) (.reg [o 104 (.mov (.t 16)),
        o 105 (.bin .add (.t 104) (.c (.int .i64 1))),
        o 14 (.mov (.t 105))] false)
        (.reg [o 106 (.mov (.t 16)),
        o 15 (.mov (.t 106))] false)))))
def slices_symMergeCmpFunc_b1_live : List Nat := [100044, 0, 10, 13]
def slices_symMergeCmpFunc_b1 : IR :=
  .seq (.seq (.reg [o 55 (.mov (.t 13)),
        o 56 (.mov (.t 10)),
        o 57 (.bin .sub (.t 56) (.c (.int .i64 1))),
        o 58 (.bin .lss (.t 55) (.t 57))] false)
      (.cond (.t 58) (.skip)
        (.exit 2)))
    (.seq (.block 3 (.reg [o 61 (.mov (.t 0)),
        o 62 (.mov (.t 13)),
        o 63 (.mov (.t 0)),
        o 64 (.mov (.t 13)),
        ob 65 (.bin .add (.t 64) (.c (.int .i64 1))) [3],
        o 66 (.mov (.t 0)),
        o 67 (.mov (.t 13)),
        ob 68 (.bin .add (.t 67) (.c (.int .i64 1))) [6],
        ob 69 (.iaddr 6 (.t 66) (.t 68)) [5, 6, 7],
        ob 70 (.load 6 true (.t 69)) [5, 6, 7, 8],
        o 71 (.mov (.t 0)),
        o 72 (.mov (.t 13)),
        ob 73 (.iaddr 6 (.t 71) (.t 72)) [10, 11],
        ob 74 (.load 6 true (.t 73)) [10, 11, 12],
        ob 75 (.iaddr 6 (.t 61) (.t 62)) ([0, 1] ++ rg 5 14),
        ⟨none, none, .store 6 (.t 75) (.t 70), ([0, 1] ++ rg 5 15)⟩,
        ob 76 (.iaddr 6 (.t 63) (.t 65)) (rg 0 16),
        ⟨none, none, .store 6 (.t 76) (.t 74), (rg 0 17)⟩] true))
    (.reg [o 59 (.mov (.t 13)),
    o 60 (.bin .add (.t 59) (.c (.int .i64 1))),
    o 13 (.mov (.t 60))] false))
def slices_symMergeCmpFunc_b0_live : List Nat := [100043, 0, 1, 4, 10, 11]
def slices_symMergeCmpFunc_b0 : IR :=
  .seq (.seq (.reg [o 31 (.mov (.t 10)),
        o 32 (.mov (.t 11)),
        o 33 (.bin .lss (.t 31) (.t 32))] false)
      (.cond (.t 33) (.skip)
        (.exit 0)))
    (.block 1 (.seq (.reg [o 34 (.mov (.t 10)),
        o 35 (.mov (.t 11)),
        o 36 (.bin .add (.t 34) (.t 35)),
        o 37 (.conv .u64 (.t 36)),
        o 38 (.bin .shr (.t 37) (.c (.int .u64 1))),
        o 39 (.conv .i64 (.t 38)),
        o 12 (.mov (.t 39))] false)
      (.seq (.reg [o 40 (.mov (.t 4)),
        o 41 (.mov (.t 0)),
        o 42 (.mov (.t 12)),
        ob 43 (.iaddr 6 (.t 41) (.t 42)) [1, 2],
        ob 44 (.load 6 true (.t 43)) [1, 2, 3],
        o 45 (.mov (.t 0)),
        o 46 (.mov (.t 1)),
        ob 47 (.iaddr 6 (.t 45) (.t 46)) [5, 6],
        ob 48 (.load 6 true (.t 47)) [5, 6, 7],
        ob 49 (.call false (.t 40) [.t 44, .t 48]) (rg 0 9),
        ob 50 (.bin .lss (.t 49) (.c (.int .i64 0))) (rg 0 10)] true)
      (.cond (.t 50) (.reg [o 51 (.mov (.t 12)),
        o 52 (.bin .add (.t 51) (.c (.int .i64 1))),
        o 10 (.mov (.t 52))] false)
        (.reg [o 53 (.mov (.t 12)),
        o 11 (.mov (.t 53))] false)))))
def slices_symMergeCmpFunc_c : IR :=
  .seq (.seq (.reg [o 25 (.mov (.t 2)),
      o 26 (.mov (.t 1)),
      o 27 (.bin .sub (.t 25) (.t 26)),
      o 28 (.bin .eql (.t 27) (.c (.int .i64 1)))] false)
    (.cond (.t 28) (.seq (.reg [o 29 (.mov (.t 2)),
        o 10 (.mov (.t 29))] false)
      (.seq (.reg [o 30 (.mov (.t 3)),
        o 11 (.mov (.t 30))] false)
      (.seq (.block 0 (.loop slices_symMergeCmpFunc_b0_live slices_symMergeCmpFunc_b0))
      (.seq (.seq (.reg [o 54 (.mov (.t 1)),
          o 13 (.mov (.t 54))] false)
        (.block 2 (.loop slices_symMergeCmpFunc_b1_live slices_symMergeCmpFunc_b1)))
      (.ret)))))
      (.skip)))
  (.seq (.seq (.reg [o 77 (.mov (.t 3)),
      o 78 (.mov (.t 2)),
      o 79 (.bin .sub (.t 77) (.t 78)),
      o 80 (.bin .eql (.t 79) (.c (.int .i64 1)))] false)
    (.cond (.t 80) (.seq (.reg [o 81 (.mov (.t 1)),
        o 14 (.mov (.t 81))] false)
      (.seq (.reg [o 82 (.mov (.t 2)),
        o 15 (.mov (.t 82))] false)
      (.seq (.block 4 (.loop slices_symMergeCmpFunc_b2_live slices_symMergeCmpFunc_b2))
      (.seq (.seq (.reg [o 107 (.mov (.t 2)),
          o 17 (.mov (.t 107))] false)
        (.block 6 (.loop slices_symMergeCmpFunc_b3_live slices_symMergeCmpFunc_b3)))
      (.ret)))))
      (.skip)))
  (.seq (.reg [o 129 (.mov (.t 1)),
    o 130 (.mov (.t 3)),
    o 131 (.bin .add (.t 129) (.t 130)),
    o 132 (.conv .u64 (.t 131)),
    o 133 (.bin .shr (.t 132) (.c (.int .u64 1))),
    o 134 (.conv .i64 (.t 133)),
    o 18 (.mov (.t 134))] false)
  (.seq (.reg [o 135 (.mov (.t 18)),
    o 136 (.mov (.t 2)),
    o 137 (.bin .add (.t 135) (.t 136)),
    o 19 (.mov (.t 137))] false)
  (.seq (.reg [o 20 (.mov (.c (.int .i64 0))),
    o 21 (.mov (.c (.int .i64 0)))] false)
  (.seq (.seq (.reg [o 138 (.mov (.t 2)),
      o 139 (.mov (.t 18)),
      o 140 (.bin .gtr (.t 138) (.t 139))] false)
    (.cond (.t 140) (.seq (.reg [o 141 (.mov (.t 19)),
        o 142 (.mov (.t 3)),
        o 143 (.bin .sub (.t 141) (.t 142)),
        o 20 (.mov (.t 143))] false)
      (.reg [o 144 (.mov (.t 18)),
      o 21 (.mov (.t 144))] false))
      (.seq (.reg [o 145 (.mov (.t 1)),
        o 20 (.mov (.t 145))] false)
      (.reg [o 146 (.mov (.t 2)),
      o 21 (.mov (.t 146))] false))))
  (.seq (.reg [o 147 (.mov (.t 19)),
    o 148 (.bin .sub (.t 147) (.c (.int .i64 1))),
    o 22 (.mov (.t 148))] false)
  (.seq (.block 8 (.loop slices_symMergeCmpFunc_b4_live slices_symMergeCmpFunc_b4))
  (.seq (.reg [o 175 (.mov (.t 19)),
    o 176 (.mov (.t 20)),
    o 177 (.bin .sub (.t 175) (.t 176)),
    o 24 (.mov (.t 177))] false)
  (.seq (.seq (.reg [o 178 (.mov (.t 20)),
      o 179 (.mov (.t 2)),
      o 180 (.bin .lss (.t 178) (.t 179)),
      o 181 (.mov (.t 180)),
      ⟨(some 182), (some (181, true)), .mov (.t 2), []⟩,
      ⟨(some 183), (some (181, true)), .mov (.t 24), []⟩,
      ⟨(some 184), (some (181, true)), .bin .lss (.t 182) (.t 183), []⟩,
      o 185 (.pick (.t 181) (.t 184) (.c (.bool false)))] false)
    (.cond (.t 185) (.reg [o 186 (.mov (.t 0)),
      o 187 (.mov (.t 20)),
      o 188 (.mov (.t 2)),
      o 189 (.mov (.t 24)),
      o 190 (.mov (.t 4)),
      o 191 (.call true (.f 73) [.t 186, .t 187, .t 188, .t 189, .t 190])] false)
      (.skip)))
  (.seq (.seq (.reg [o 192 (.mov (.t 1)),
      o 193 (.mov (.t 20)),
      o 194 (.bin .lss (.t 192) (.t 193)),
      o 195 (.mov (.t 194)),
      ⟨(some 196), (some (195, true)), .mov (.t 20), []⟩,
      ⟨(some 197), (some (195, true)), .mov (.t 18), []⟩,
      ⟨(some 198), (some (195, true)), .bin .lss (.t 196) (.t 197), []⟩,
      o 199 (.pick (.t 195) (.t 198) (.c (.bool false)))] false)
    (.cond (.t 199) (.reg [o 200 (.mov (.t 0)),
      o 201 (.mov (.t 1)),
      o 202 (.mov (.t 20)),
      o 203 (.mov (.t 18)),
      o 204 (.mov (.t 4)),
      o 205 (.call true (.f 71) [.t 200, .t 201, .t 202, .t 203, .t 204])] false)
      (.skip)))
  (.seq (.reg [o 206 (.mov (.t 18)),
    o 207 (.mov (.t 24)),
    o 208 (.bin .lss (.t 206) (.t 207)),
    o 209 (.mov (.t 208)),
    ⟨(some 210), (some (209, true)), .mov (.t 24), []⟩,
    ⟨(some 211), (some (209, true)), .mov (.t 3), []⟩,
    ⟨(some 212), (some (209, true)), .bin .lss (.t 210) (.t 211), []⟩,
    o 213 (.pick (.t 209) (.t 212) (.c (.bool false)))] false)
  (.cond (.t 213) (.reg [o 214 (.mov (.t 0)),
    o 215 (.mov (.t 18)),
    o 216 (.mov (.t 24)),
    o 217 (.mov (.t 3)),
    o 218 (.mov (.t 4)),
    o 219 (.call true (.f 71) [.t 214, .t 215, .t 216, .t 217, .t 218])] false)
    (.skip)))))))))))))
def slices_symMergeCmpFunc : IFn := ⟨5, 220, [], false, slices_symMergeCmpFunc_c⟩

/-- function 72: slices.IndexFunc[[]orchestrator/ api.Field,orchestrator/ api.Field] -/
def slices_IndexFunc_b0_live : List Nat := [100048, 0, 1, 7, 8]
def slices_IndexFunc_b0 : IR :=
  .seq (.reg [o 9 (.bin .lss (.t 8) (.t 7))] false)
    (.seq (.cond (.t 9) (.skip)
        (.exit 0))
    (.seq (.block 1 (.seq (.reg [o 10 (.mov (.t 8)),
          o 5 (.mov (.t 10))] false)
        (.seq (.reg [o 11 (.mov (.t 1)),
          o 12 (.mov (.t 0)),
          o 13 (.mov (.t 5)),
          o 14 (.iaddr 6 (.t 12) (.t 13)),
          o 15 (.load 6 true (.t 14)),
          o 16 (.call false (.t 11) [.t 15])] false)
        (.cond (.t 16) (.seq (.reg [o 17 (.mov (.t 5)),
            o 4 (.mov (.t 17))] false)
          (.ret))
          (.skip)))))
    (.reg [o 18 (.bin .add (.t 8) (.c (.int .i64 1))),
    o 8 (.mov (.t 18))] false)))
def slices_IndexFunc_c : IR :=
  .seq (.reg [o 4 (.mov (.c (.int .i64 0)))] false)
  (.seq (.seq (.reg [o 6 (.mov (.t 0)),
      o 7 (.len false (.t 6)),
      o 8 (.mov (.c (.int .i64 0)))] false)
    (.block 0 (.loop slices_IndexFunc_b0_live slices_IndexFunc_b0)))
  (.seq (.reg [o 4 (.mov (.c (.int .i64 (-1))))] false)
  (.ret)))
def slices_IndexFunc : IFn := ⟨2, 19, [.tmp 4], false, slices_IndexFunc_c⟩

/-- function 73: slices.rotateCmpFunc[orchestrator/ api.Field] -/
def slices_rotateCmpFunc_b0_live : List Nat := [100049, 0, 2, 4, 10, 11]
def slices_rotateCmpFunc_b0 : IR :=
  .seq (.seq (.reg [o 18 (.mov (.t 10)),
        o 19 (.mov (.t 11)),
        o 20 (.bin .neq (.t 18) (.t 19))] false)
      (.cond (.t 20) (.skip)
        (.exit 0)))
    (.block 1 (.seq (.reg [o 21 (.mov (.t 10)),
        o 22 (.mov (.t 11)),
        o 23 (.bin .gtr (.t 21) (.t 22))] false)
      (.cond (.t 23) (.seq (.reg [o 24 (.mov (.t 0)),
          o 25 (.mov (.t 2)),
          o 26 (.mov (.t 10)),
          o 27 (.bin .sub (.t 25) (.t 26)),
          o 28 (.mov (.t 2)),
          o 29 (.mov (.t 11)),
          o 30 (.mov (.t 4)),
          o 31 (.call true (.f 74) [.t 24, .t 27, .t 28, .t 29, .t 30])] false)
        (.reg [o 32 (.mov (.t 10)),
        o 33 (.mov (.t 11)),
        o 34 (.bin .sub (.t 32) (.t 33)),
        o 10 (.mov (.t 34))] false))
        (.seq (.reg [o 35 (.mov (.t 0)),
          o 36 (.mov (.t 2)),
          o 37 (.mov (.t 10)),
          o 38 (.bin .sub (.t 36) (.t 37)),
          o 39 (.mov (.t 2)),
          o 40 (.mov (.t 11)),
          o 41 (.bin .add (.t 39) (.t 40)),
          o 42 (.mov (.t 10)),
          o 43 (.bin .sub (.t 41) (.t 42)),
          o 44 (.mov (.t 10)),
          o 45 (.mov (.t 4)),
          o 46 (.call true (.f 74) [.t 35, .t 38, .t 43, .t 44, .t 45])] false)
        (.reg [o 47 (.mov (.t 11)),
        o 48 (.mov (.t 10)),
        o 49 (.bin .sub (.t 47) (.t 48)),
        o 11 (.mov (.t 49))] false)))))
def slices_rotateCmpFunc_c : IR :=
  .seq (.reg [o 12 (.mov (.t 2)),
    o 13 (.mov (.t 1)),
    o 14 (.bin .sub (.t 12) (.t 13)),
    o 10 (.mov (.t 14))] false)
  (.seq (.reg [o 15 (.mov (.t 3)),
    o 16 (.mov (.t 2)),
    o 17 (.bin .sub (.t 15) (.t 16)),
    o 11 (.mov (.t 17))] false)
  (.seq (.block 0 (.loop slices_rotateCmpFunc_b0_live slices_rotateCmpFunc_b0))
  (.reg [o 50 (.mov (.t 0)),
  o 51 (.mov (.t 2)),
  o 52 (.mov (.t 10)),
  o 53 (.bin .sub (.t 51) (.t 52)),
  o 54 (.mov (.t 2)),
  o 55 (.mov (.t 10)),
  o 56 (.mov (.t 4)),
  o 57 (.call true (.f 74) [.t 50, .t 53, .t 54, .t 55, .t 56])] false)))
def slices_rotateCmpFunc : IFn := ⟨5, 58, [], false, slices_rotateCmpFunc_c⟩

/-- function 74: slices.swapRangeCmpFunc[orchestrator/ api.Field] -/
def slices_swapRangeCmpFunc_b0_live : List Nat := [100050, 0, 1, 2, 3, 10]
def slices_swapRangeCmpFunc_b0 : IR :=
  .seq (.seq (.reg [o 11 (.mov (.t 10)),
        o 12 (.mov (.t 3)),
        o 13 (.bin .lss (.t 11) (.t 12))] false)
      (.cond (.t 13) (.skip)
        (.exit 0)))
    (.seq (.block 1 (.reg [o 16 (.mov (.t 0)),
        o 17 (.mov (.t 1)),
        o 18 (.mov (.t 10)),
        ob 19 (.bin .add (.t 17) (.t 18)) [1, 2],
        o 20 (.mov (.t 0)),
        o 21 (.mov (.t 2)),
        o 22 (.mov (.t 10)),
        ob 23 (.bin .add (.t 21) (.t 22)) [5, 6],
        o 24 (.mov (.t 0)),
        o 25 (.mov (.t 2)),
        o 26 (.mov (.t 10)),
        ob 27 (.bin .add (.t 25) (.t 26)) [9, 10],
        ob 28 (.iaddr 6 (.t 24) (.t 27)) [8, 9, 10, 11],
        ob 29 (.load 6 true (.t 28)) (rg 8 13),
        o 30 (.mov (.t 0)),
        o 31 (.mov (.t 1)),
        o 32 (.mov (.t 10)),
        ob 33 (.bin .add (.t 31) (.t 32)) [15, 16],
        ob 34 (.iaddr 6 (.t 30) (.t 33)) [14, 15, 16, 17],
        ob 35 (.load 6 true (.t 34)) (rg 14 19),
        ob 36 (.iaddr 6 (.t 16) (.t 19)) (rg 0 4 ++ rg 8 20),
        ⟨none, none, .store 6 (.t 36) (.t 29), (rg 0 4 ++ rg 8 21)⟩,
        ob 37 (.iaddr 6 (.t 20) (.t 23)) (rg 0 22),
        ⟨none, none, .store 6 (.t 37) (.t 35), (rg 0 23)⟩] true))
    (.reg [o 14 (.mov (.t 10)),
    o 15 (.bin .add (.t 14) (.c (.int .i64 1))),
    o 10 (.mov (.t 15))] false))
def slices_swapRangeCmpFunc_c : IR :=
  .seq (.reg [o 10 (.mov (.c (.int .i64 0)))] false)
  (.block 0 (.loop slices_swapRangeCmpFunc_b0_live slices_swapRangeCmpFunc_b0))
def slices_swapRangeCmpFunc : IFn := ⟨5, 38, [], false, slices_swapRangeCmpFunc_c⟩

def table : List (Nat × Fun) :=
  [(3, .ir law04_ValueValid),
   (4, .ir law04_ValueCompares),
   (5, .ir law04_ValueOrder),
   (6, .ir law04_ValueBuilds),
   (7, .ir law04_ValueFields),
   (8, .ir law04_ValueMaps),
   (9, .ir law04_small),
   (10, .ir law04_awake),
   (11, .ir value_Valid),
   (12, .ir ref04_Valid),
   (13, .ir value_Size),
   (14, .ir ref04_Size),
   (15, .ir value_Depth),
   (16, .ir ref04_Depth),
   (17, .ir value_Compare),
   (18, .ir ref04_Compare),
   (19, .ir value_Equal),
   (20, .ir ref04_Equal),
   (21, .ir value_List),
   (22, .ir value_Map),
   (23, .ir ref04_List),
   (24, .ir ref04_Map),
   (25, .ir value_Int),
   (26, .ir ref04_Int),
   (27, .ir value_String),
   (28, .ir ref04_String),
   (29, .ir value_Bool),
   (30, .ir ref04_Bool),
   (31, .ir value_Get),
   (32, .ir ref04_Get),
   (33, .ir value_With),
   (34, .ir ref04_With),
   (35, .ir value_Without),
   (36, .ir ref04_Without),
   (37, .ir ref04_Small),
   (38, .ir value_Null),
   (39, .ir value_valid),
   (40, .ir ref04_valid),
   (41, .ir cmp_Or),
   (42, .ir cmp_Compare),
   (43, .ir strings_Compare),
   (44, .ir slices_CompareFunc),
   (45, .ir slices_CompareFunc_45),
   (46, .ir value_Compare_1),
   (47, .ir ref04_order),
   (48, .ir value_clone),
   (49, .ax (cloneF 6 96)),
   (50, .ir slices_SortStableFunc),
   (51, .ir value_Map_1),
   (52, .ir ref04_Copy),
   (53, .ir ref04_put),
   (54, .ir value_others),
   (55, .ir ref04_others),
   (56, .ir ref04_count),
   (57, .ir value_scalar),
   (58, .ir value_name),
   (59, .ir ref04_scalar),
   (60, .ir ref04_ValidField),
   (61, .ir cmp_isNaN),
   (62, .cmpstr),
   (63, .ax (cloneF 5 80)),
   (64, .ir slices_stableCmpFunc),
   (65, .ir slices_DeleteFunc),
   (66, .ir value_others_1),
   (67, .ir value_text),
   (68, .ir ref04_ValidString),
   (70, .ir slices_insertionSortCmpFunc),
   (71, .ir slices_symMergeCmpFunc),
   (72, .ir slices_IndexFunc),
   (73, .ir slices_rotateCmpFunc),
   (74, .ir slices_swapRangeCmpFunc)]
end Go.Proofs.Ytedohmdgbilicaa.Ir
