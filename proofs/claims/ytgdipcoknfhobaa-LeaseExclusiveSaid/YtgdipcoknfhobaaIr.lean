/- The seat's functions as the evaluator takes them; printed by a program, checked against the given ones in YtgdipcoknfhobaaTie. -/
import Derived.Test.YtgdipcoknfhobaaPvX11
namespace Go.Proofs.Ytgdipcoknfhobaa.Ir
open Go.Pv

def o (d : Nat) (op : IOp) : IOper := ⟨some d, none, op, []⟩
def ob (d : Nat) (op : IOp) (b : List Nat) : IOper := ⟨some d, none, op, b⟩
def rg1 (a : Nat) : Nat → List Nat
  | 0 => []
  | n + 1 => a :: rg1 (a + 1) n
def rg (a b : Nat) : List Nat := rg1 a (b - a)

/-- function 3: orchestrator/ orchestratorlaw34.ProbeBegins -/
def law34_ProbeBegins_c : IR :=
  .seq (.reg [o 3 (.box 4 (.t 0)),
    o 4 (.box 4 (.t 1)),
    o 6 (.mov (.c (.bool false)))] false)
  (.seq (.reg [o 7 (.load 4 true (.t 3)),
    o 8 (.mov (.t 2)),
    ob 9 (.call false (.f 11) [.t 7, .t 8]) [0, 1],
    o 10 (.load 4 true (.t 3)),
    o 11 (.mov (.t 2)),
    ob 12 (.call false (.f 12) [.t 10, .t 11]) (rg 0 5),
    ob 13 (.eqs (.st [(0, 1, .int), (1, 1, .int), (2, 1, .bool), (3, 1, .int)]) false (.t 9) (.t 12)) (rg 0 6),
    ob 14 (.mov (.t 13)) (rg 0 7),
    ⟨(some 15), (some (14, true)), .load 4 true (.t 4), (rg 0 8)⟩,
    ⟨(some 16), (some (14, true)), .mov (.t 2), (rg 0 8)⟩,
    ⟨(some 17), (some (14, true)), .call false (.f 13) [.t 15, .t 16], (rg 0 10)⟩,
    ⟨(some 18), (some (14, true)), .load 4 true (.t 4), (rg 0 8)⟩,
    ⟨(some 19), (some (14, true)), .mov (.t 2), (rg 0 8)⟩,
    ⟨(some 20), (some (14, true)), .call false (.f 14) [.t 18, .t 19], (rg 0 13)⟩,
    ⟨(some 21), (some (14, true)), .eqb false (.t 17) (.t 20), (rg 0 14)⟩,
    ob 22 (.pick (.t 14) (.t 21) (.c (.bool false))) (rg 0 15),
    ob 23 (.mov (.t 22)) (rg 0 16),
    ⟨(some 24), (some (23, true)), .call false (.f 15) [], (rg 0 17)⟩,
    ob 25 (.pick (.t 23) (.t 24) (.c (.bool false))) (rg 0 18),
    ob 6 (.mov (.t 25)) (rg 0 19)] true)
  (.ret))
def law34_ProbeBegins : IFn := ⟨3, 26, [.tmp 6], false, law34_ProbeBegins_c⟩

/-- function 4: orchestrator/ orchestratorlaw34.ProbeSteps -/
def law34_ProbeSteps_c : IR :=
  .seq (.reg [o 4 (.box 4 (.t 0)),
    o 5 (.box 4 (.t 1)),
    o 8 (.mov (.c (.bool false)))] false)
  (.seq (.reg [o 9 (.load 4 true (.t 4)),
    o 10 (.load 4 true (.t 5)),
    o 11 (.mov (.t 2)),
    o 12 (.mov (.t 3)),
    ob 13 (.call false (.f 16) [.t 9, .t 10, .t 11, .t 12]) [0, 1, 2, 3],
    o 14 (.load 4 true (.t 4)),
    o 15 (.load 4 true (.t 5)),
    o 16 (.mov (.t 2)),
    o 17 (.mov (.t 3)),
    ob 18 (.call false (.f 17) [.t 14, .t 15, .t 16, .t 17]) (rg 0 9),
    ob 19 (.eqs (.st [(0, 1, .int), (1, 1, .int), (2, 1, .bool), (3, 1, .int)]) false (.t 13) (.t 18)) (rg 0 10),
    ob 20 (.mov (.t 19)) (rg 0 11),
    ⟨(some 21), (some (20, true)), .call false (.f 15) [], (rg 0 12)⟩,
    ob 22 (.pick (.t 20) (.t 21) (.c (.bool false))) (rg 0 13),
    ob 8 (.mov (.t 22)) (rg 0 14)] true)
  (.ret))
def law34_ProbeSteps : IFn := ⟨4, 23, [.tmp 8], false, law34_ProbeSteps_c⟩

/-- function 5: orchestrator/ orchestratorlaw34.ProbeThresholds -/
def law34_ProbeThresholds_b0_live : List Nat := [100001, 1, 2, 5, 6, 7, 8]
def law34_ProbeThresholds_b0 : IR :=
  .seq (.seq (.reg [o 15 (.mov (.t 8)),
        o 16 (.mov (.t 1)),
        o 17 (.len false (.t 16)),
        o 18 (.bin .lss (.t 15) (.t 17))] false)
      (.cond (.t 18) (.skip)
        (.exit 0)))
    (.seq (.block 1 (.seq (.seq (.reg [o 21 (.mov (.t 8)),
            ob 22 (.bin .gtr (.t 21) (.c (.int .i64 0))) [0],
            ob 23 (.mov (.t 22)) [0, 1],
            ⟨(some 24), (some (23, true)), .mov (.t 1), [0, 1, 2]⟩,
            ⟨(some 25), (some (23, true)), .mov (.t 8), [0, 1, 2]⟩,
            ⟨(some 26), (some (23, true)), .iaddr 1 (.t 24) (.t 25), (rg 0 5)⟩,
            ⟨(some 27), (some (23, true)), .load 1 false (.t 26), (rg 0 6)⟩,
            ⟨(some 28), (some (23, true)), .mov (.t 1), [0, 1, 2]⟩,
            ⟨(some 29), (some (23, true)), .mov (.t 8), [0, 1, 2]⟩,
            ⟨(some 30), (some (23, true)), .bin .sub (.t 29) (.c (.int .i64 1)), [0, 1, 2, 8]⟩,
            ⟨(some 31), (some (23, true)), .iaddr 1 (.t 28) (.t 30), [0, 1, 2, 7, 8, 9]⟩,
            ⟨(some 32), (some (23, true)), .load 1 false (.t 31), ([0, 1, 2] ++ rg 7 11)⟩,
            ⟨(some 33), (some (23, true)), .eqb true (.t 27) (.t 32), (rg 0 12)⟩,
            ob 34 (.pick (.t 23) (.t 33) (.c (.bool false))) (rg 0 13)] true)
          (.cond (.t 34) (.reg [o 6 (.mov (.c (.int .i64 0)))] false)
            (.skip)))
        (.seq (.reg [o 35 (.mov (.t 6)),
          o 36 (.bin .add (.t 35) (.c (.int .i64 1))),
          o 6 (.mov (.t 36))] false)
        (.seq (.seq (.reg [o 37 (.mov (.t 1)),
            o 38 (.mov (.t 8)),
            o 39 (.iaddr 1 (.t 37) (.t 38)),
            o 40 (.load 1 false (.t 39)),
            o 41 (.mov (.t 40)),
            ⟨(some 42), (some (41, true)), .mov (.t 6), []⟩,
            ⟨(some 43), (some (41, true)), .faddr 2 (.t 2), []⟩,
            ⟨(some 44), (some (41, true)), .load 1 false (.t 43), []⟩,
            ⟨(some 45), (some (41, true)), .mnmx true (.t 44) [.c (.int .i64 1)], []⟩,
            ⟨(some 46), (some (41, true)), .bin .geq (.t 42) (.t 45), []⟩,
            o 47 (.pick (.t 41) (.t 46) (.c (.bool false)))] false)
          (.cond (.t 47) (.reg [o 7 (.mov (.c (.bool true)))] false)
            (.skip)))
        (.seq (.seq (.reg [o 48 (.mov (.t 1)),
            o 49 (.mov (.t 8)),
            o 50 (.iaddr 1 (.t 48) (.t 49)),
            o 51 (.load 1 false (.t 50)),
            o 52 (.un .not (.t 51)),
            o 53 (.mov (.t 52)),
            ⟨(some 54), (some (53, true)), .mov (.t 6), []⟩,
            ⟨(some 55), (some (53, true)), .faddr 3 (.t 2), []⟩,
            ⟨(some 56), (some (53, true)), .load 1 false (.t 55), []⟩,
            ⟨(some 57), (some (53, true)), .mnmx true (.t 56) [.c (.int .i64 1)], []⟩,
            ⟨(some 58), (some (53, true)), .bin .geq (.t 54) (.t 57), []⟩,
            o 59 (.pick (.t 53) (.t 58) (.c (.bool false)))] false)
          (.cond (.t 59) (.reg [o 7 (.mov (.c (.bool false)))] false)
            (.skip)))
        (.seq (.reg [o 60 (.load 4 true (.t 2)),
          o 61 (.load 4 true (.t 5)),
          o 62 (.mov (.t 1)),
          o 63 (.mov (.t 8)),
          ob 64 (.iaddr 1 (.t 62) (.t 63)) [2, 3],
          ob 65 (.load 1 false (.t 64)) [2, 3, 4],
          o 66 (.mov (.t 8)),
          ob 67 (.call false (.f 16) [.t 60, .t 61, .t 65, .t 66]) (rg 0 7),
          ⟨none, none, .store 4 (.t 5) (.t 67), (rg 0 8)⟩] true)
        (.seq (.reg [o 68 (.faddr 2 (.t 5)),
          o 69 (.load 1 false (.t 68)),
          o 70 (.mov (.t 7)),
          o 71 (.eqb true (.t 69) (.t 70))] false)
        (.cond (.t 71) (.seq (.reg [o 4 (.mov (.c (.bool false)))] false)
          (.ret))
          (.skip)))))))))
    (.reg [o 19 (.mov (.t 8)),
    o 20 (.bin .add (.t 19) (.c (.int .i64 1))),
    o 8 (.mov (.t 20))] false))
def law34_ProbeThresholds_c : IR :=
  .seq (.reg [o 2 (.box 4 (.t 0)),
    o 4 (.mov (.c (.bool false)))] false)
  (.seq (.seq (.reg [o 9 (.mov (.t 1)),
      o 10 (.len false (.t 9)),
      o 11 (.bin .gtr (.t 10) (.c (.int .i64 200)))] false)
    (.cond (.t 11) (.seq (.reg [o 12 (.call false (.f 15) []),
        o 4 (.mov (.t 12))] false)
      (.ret))
      (.skip)))
  (.seq (.reg [o 13 (.load 4 true (.t 2)),
    o 14 (.call false (.f 11) [.t 13, .c (.int .i64 0)]),
    o 5 (.zero [.int .i64 0, .int .i64 0, .bool false, .int .i64 0]),
    ⟨none, none, .store 4 (.t 5) (.t 14), []⟩] false)
  (.seq (.reg [o 6 (.mov (.c (.int .i64 0))),
    o 7 (.mov (.c (.bool false)))] false)
  (.seq (.seq (.reg [o 8 (.mov (.c (.int .i64 0)))] false)
    (.block 0 (.loop law34_ProbeThresholds_b0_live law34_ProbeThresholds_b0)))
  (.seq (.reg [o 72 (.call false (.f 15) []),
    o 4 (.mov (.t 72))] false)
  (.ret))))))
def law34_ProbeThresholds : IFn := ⟨2, 73, [.tmp 4], false, law34_ProbeThresholds_c⟩

/-- function 6: orchestrator/ orchestratorlaw34.ProbeOne -/
def law34_ProbeOne_c : IR :=
  .seq (.reg [o 4 (.box 4 (.t 0)),
    o 5 (.box 4 (.t 1)),
    o 8 (.mov (.c (.bool false)))] false)
  (.seq (.reg [o 12 (.mov (.t 3)),
    o 13 (.conv .i64 (.t 12)),
    o 9 (.mov (.t 13))] false)
  (.seq (.reg [o 14 (.load 4 true (.t 4)),
    o 15 (.load 4 true (.t 5)),
    o 16 (.mov (.t 2)),
    o 17 (.mov (.t 9)),
    o 18 (.call false (.f 16) [.t 14, .t 15, .t 16, .t 17]),
    o 10 (.zero [.int .i64 0, .int .i64 0, .bool false, .int .i64 0]),
    ⟨none, none, .store 4 (.t 10) (.t 18), []⟩] false)
  (.seq (.reg [o 19 (.faddr 1 (.t 4)),
    o 20 (.load 1 false (.t 19)),
    o 21 (.mnmx true (.t 20) [.c (.int .i64 1)]),
    o 22 (.mnmx false (.t 21) [.c (.int .i64 1000000000000)]),
    o 11 (.mov (.t 22))] false)
  (.seq (.seq (.reg [o 23 (.faddr 0 (.t 10)),
      o 24 (.load 1 false (.t 23)),
      o 25 (.bin .gtr (.t 24) (.c (.int .i64 0))),
      o 26 (.mov (.t 2)),
      o 27 (.eqb true (.t 25) (.t 26)),
      o 28 (.mov (.t 27)),
      ⟨(some 29), (some (28, false)), .faddr 1 (.t 10), []⟩,
      ⟨(some 30), (some (28, false)), .load 1 false (.t 29), []⟩,
      ⟨(some 31), (some (28, false)), .bin .gtr (.t 30) (.c (.int .i64 0)), []⟩,
      ⟨(some 32), (some (28, false)), .mov (.t 2), []⟩,
      ⟨(some 33), (some (28, false)), .eqb false (.t 31) (.t 32), []⟩,
      o 34 (.pick (.t 28) (.c (.bool true)) (.t 33))] false)
    (.cond (.t 34) (.seq (.reg [o 8 (.mov (.c (.bool false)))] false)
      (.ret))
      (.skip)))
  (.seq (.reg [o 35 (.mov (.t 11)),
    o 36 (.bin .gtr (.t 35) (.c (.int .i64 1000000))),
    o 37 (.mov (.t 36)),
    ⟨(some 38), (some (37, false)), .load 4 true (.t 10), []⟩,
    ⟨(some 39), (some (37, false)), .mov (.t 9), []⟩,
    ⟨(some 40), (some (37, false)), .mov (.t 11), []⟩,
    ⟨(some 41), (some (37, false)), .bin .add (.t 39) (.t 40), []⟩,
    ⟨(some 42), (some (37, false)), .call false (.f 13) [.t 38, .t 41], []⟩,
    ⟨(some 43), (some (37, false)), .mov (.t 42), []⟩,
    ⟨(some 44), (some (43, true)), .load 4 true (.t 10), []⟩,
    ⟨(some 45), (some (43, true)), .mov (.t 9), []⟩,
    ⟨(some 46), (some (43, true)), .mov (.t 11), []⟩,
    ⟨(some 47), (some (43, true)), .bin .add (.t 45) (.t 46), []⟩,
    ⟨(some 48), (some (43, true)), .bin .sub (.t 47) (.c (.int .i64 1)), []⟩,
    ⟨(some 49), (some (43, true)), .call false (.f 13) [.t 44, .t 48], []⟩,
    ⟨(some 50), (some (43, true)), .un .not (.t 49), []⟩,
    ⟨(some 51), (some (37, false)), .pick (.t 43) (.t 50) (.c (.bool false)), []⟩,
    o 52 (.pick (.t 37) (.c (.bool true)) (.t 51)),
    o 53 (.mov (.t 52)),
    ⟨(some 54), (some (53, true)), .call false (.f 15) [], []⟩,
    o 55 (.pick (.t 53) (.t 54) (.c (.bool false))),
    o 8 (.mov (.t 55))] false)
  (.ret))))))
def law34_ProbeOne : IFn := ⟨4, 56, [.tmp 8], false, law34_ProbeOne_c⟩

/-- function 7: orchestrator/ orchestratorlaw29.LeaseTries -/
def law29_LeaseTries_c : IR :=
  .seq (.reg [o 4 (.box 4 (.t 0)),
    o 8 (.mov (.c (.bool false)))] false)
  (.seq (.reg [o 14 (.load 4 true (.t 4)),
    o 15 (.mov (.t 1)),
    o 16 (.mov (.t 2)),
    o 17 (.mov (.t 3)),
    o 18 (.call false (.f 18) [.t 14, .t 15, .t 16, .t 17]),
    o 13 (.mov (.t 18)),
    o 19 (.extract (.t 13) 0),
    o 20 (.extract (.t 13) 1),
    o 9 (.zero [.str ⟨#[]⟩, .int .i64 0, .int .i64 0, .int .i64 0]),
    ⟨none, none, .store 4 (.t 9) (.t 19), []⟩,
    o 10 (.mov (.t 20))] false)
  (.seq (.reg [o 22 (.load 4 true (.t 4)),
    o 23 (.mov (.t 1)),
    o 24 (.mov (.t 2)),
    o 25 (.mov (.t 3)),
    o 26 (.call false (.f 19) [.t 22, .t 23, .t 24, .t 25]),
    o 21 (.mov (.t 26)),
    o 27 (.extract (.t 21) 0),
    o 28 (.extract (.t 21) 1),
    o 11 (.zero [.str ⟨#[]⟩, .int .i64 0, .int .i64 0, .int .i64 0]),
    ⟨none, none, .store 4 (.t 11) (.t 27), []⟩,
    o 12 (.mov (.t 28))] false)
  (.seq (.reg [o 29 (.call false (.f 20) []),
    ob 30 (.mov (.t 29)) [0],
    ⟨(some 31), (some (30, true)), .load 4 true (.t 4), [0, 1]⟩,
    ⟨(some 32), (some (30, true)), .call false (.f 21) [.t 31], [0, 1, 2]⟩,
    ⟨(some 33), (some (30, true)), .load 4 true (.t 4), [0, 1]⟩,
    ⟨(some 34), (some (30, true)), .call false (.f 22) [.t 33], (rg 0 5)⟩,
    ⟨(some 35), (some (30, true)), .eqb false (.t 32) (.t 34), (rg 0 6)⟩,
    ob 36 (.pick (.t 30) (.t 35) (.c (.bool false))) (rg 0 7),
    ob 37 (.mov (.t 36)) (rg 0 8),
    ⟨(some 38), (some (37, true)), .load 4 true (.t 9), (rg 0 9)⟩,
    ⟨(some 39), (some (37, true)), .load 4 true (.t 11), (rg 0 9)⟩,
    ⟨(some 40), (some (37, true)), .eqs (.st [(0, 1, .str), (1, 1, .int), (2, 1, .int), (3, 1, .int)]) false (.t 38) (.t 39), (rg 0 11)⟩,
    ob 41 (.pick (.t 37) (.t 40) (.c (.bool false))) (rg 0 12),
    ob 42 (.mov (.t 41)) (rg 0 13),
    ⟨(some 43), (some (42, true)), .mov (.t 10), (rg 0 14)⟩,
    ⟨(some 44), (some (42, true)), .mov (.t 12), (rg 0 14)⟩,
    ⟨(some 45), (some (42, true)), .eqb false (.t 43) (.t 44), (rg 0 16)⟩,
    ob 46 (.pick (.t 42) (.t 45) (.c (.bool false))) (rg 0 17),
    ob 47 (.mov (.t 46)) (rg 0 18),
    ⟨(some 48), (some (47, true)), .load 4 true (.t 4), (rg 0 19)⟩,
    ⟨(some 49), (some (47, true)), .mov (.t 1), (rg 0 19)⟩,
    ⟨(some 50), (some (47, true)), .mov (.t 2), (rg 0 19)⟩,
    ⟨(some 51), (some (47, true)), .call false (.f 23) [.t 48, .t 49, .t 50], (rg 0 22)⟩,
    ⟨(some 52), (some (47, true)), .load 4 true (.t 4), (rg 0 19)⟩,
    ⟨(some 53), (some (47, true)), .mov (.t 1), (rg 0 19)⟩,
    ⟨(some 54), (some (47, true)), .mov (.t 2), (rg 0 19)⟩,
    ⟨(some 55), (some (47, true)), .call false (.f 24) [.t 52, .t 53, .t 54], (rg 0 26)⟩,
    ⟨(some 56), (some (47, true)), .eqb false (.t 51) (.t 55), (rg 0 27)⟩,
    ob 57 (.pick (.t 47) (.t 56) (.c (.bool false))) (rg 0 28),
    ob 58 (.mov (.t 57)) (rg 0 29),
    ⟨(some 59), (some (58, true)), .load 4 true (.t 4), (rg 0 30)⟩,
    ⟨(some 60), (some (58, true)), .mov (.t 1), (rg 0 30)⟩,
    ⟨(some 61), (some (58, true)), .call false (.f 25) [.t 59, .t 60], (rg 0 32)⟩,
    ⟨(some 62), (some (58, true)), .load 4 true (.t 4), (rg 0 30)⟩,
    ⟨(some 63), (some (58, true)), .mov (.t 1), (rg 0 30)⟩,
    ⟨(some 64), (some (58, true)), .call false (.f 26) [.t 62, .t 63], (rg 0 35)⟩,
    ⟨(some 65), (some (58, true)), .eqs (.st [(0, 1, .str), (1, 1, .int), (2, 1, .int), (3, 1, .int)]) false (.t 61) (.t 64), (rg 0 36)⟩,
    ob 66 (.pick (.t 58) (.t 65) (.c (.bool false))) (rg 0 37),
    ob 8 (.mov (.t 66)) (rg 0 38)] true)
  (.ret))))
def law29_LeaseTries : IFn := ⟨4, 67, [.tmp 8], false, law29_LeaseTries_c⟩

/-- function 8: orchestrator/ orchestratorlaw29.LeaseExclusive -/
def law29_LeaseExclusive_b2_live : List Nat := [100004, 0, 1, 6, 7, 8, 9, 10, 15, 16]
def law29_LeaseExclusive_b2 : IR :=
  .seq (.seq (.reg [o 122 (.mov (.t 16)),
        o 123 (.mov (.t 0)),
        o 124 (.len false (.t 123)),
        o 125 (.bin .lss (.t 122) (.t 124))] false)
      (.cond (.t 125) (.skip)
        (.exit 4)))
    (.seq (.block 5 (.seq (.reg [o 128 (.mov (.t 7)),
          o 129 (.mov (.t 16)),
          ob 130 (.iaddr 4 (.t 128) (.t 129)) [0, 1],
          ob 131 (.load 4 true (.t 130)) [0, 1, 2],
          o 132 (.mov (.t 6)),
          o 133 (.mov (.t 16)),
          ob 134 (.iaddr 1 (.t 132) (.t 133)) [4, 5],
          ob 135 (.load 1 false (.t 134)) [4, 5, 6],
          o 136 (.mov (.t 9)),
          o 137 (.mov (.t 0)),
          o 138 (.mov (.t 16)),
          ob 139 (.iaddr 1 (.t 137) (.t 138)) [9, 10],
          ob 140 (.load 1 false (.t 139)) [9, 10, 11],
          ob 141 (.bin .add (.t 136) (.t 140)) (rg 8 13),
          ob 142 (.bin .add (.t 141) (.c (.int .i64 100))) (rg 8 14),
          ob 143 (.call false (.f 23) [.t 131, .t 135, .t 142]) (rg 0 15)] true)
        (.cond (.t 143) (.reg [o 144 (.mov (.t 15)),
          o 145 (.bin .add (.t 144) (.c (.int .i64 1))),
          o 15 (.mov (.t 145))] false)
          (.skip))))
    (.reg [o 126 (.mov (.t 16)),
    o 127 (.bin .add (.t 126) (.c (.int .i64 1))),
    o 16 (.mov (.t 127))] false))
def law29_LeaseExclusive_b1_live : List Nat := [100003, 0, 1, 6, 7, 8, 9, 10]
def law29_LeaseExclusive_b1 : IR :=
  .seq (.seq (.reg [o 54 (.mov (.t 10)),
        o 55 (.mov (.t 1)),
        o 56 (.len false (.t 55)),
        o 57 (.bin .lss (.t 54) (.t 56))] false)
      (.cond (.t 57) (.skip)
        (.exit 2)))
    (.seq (.block 3 (.seq (.reg [o 60 (.mov (.t 1)),
          o 61 (.mov (.t 10)),
          o 62 (.iaddr 4 (.t 60) (.t 61)),
          o 63 (.load 4 true (.t 62)),
          o 11 (.zero [.int .i64 0, .int .i64 0, .int .i64 0, .bool false]),
          ⟨none, none, .store 4 (.t 11) (.t 63), []⟩] false)
        (.seq (.seq (.reg [o 64 (.faddr 0 (.t 11)),
            o 65 (.load 1 false (.t 64)),
            o 66 (.bin .lss (.t 65) (.c (.int .i64 0))),
            o 67 (.mov (.t 66)),
            ⟨(some 68), (some (67, false)), .faddr 1 (.t 11), []⟩,
            ⟨(some 69), (some (67, false)), .load 1 false (.t 68), []⟩,
            ⟨(some 70), (some (67, false)), .bin .lss (.t 69) (.c (.int .i64 0)), []⟩,
            o 71 (.pick (.t 67) (.c (.bool true)) (.t 70)),
            o 72 (.mov (.t 71)),
            ⟨(some 73), (some (72, false)), .faddr 1 (.t 11), []⟩,
            ⟨(some 74), (some (72, false)), .load 1 false (.t 73), []⟩,
            ⟨(some 75), (some (72, false)), .bin .gtr (.t 74) (.c (.int .i64 1000)), []⟩,
            o 76 (.pick (.t 72) (.c (.bool true)) (.t 75))] false)
          (.cond (.t 76) (.seq (.reg [o 77 (.call false (.f 20) []),
              o 4 (.mov (.t 77))] false)
            (.ret))
            (.skip)))
        (.seq (.reg [o 78 (.mov (.t 9)),
          o 79 (.faddr 1 (.t 11)),
          o 80 (.load 1 false (.t 79)),
          o 81 (.bin .add (.t 78) (.t 80)),
          o 9 (.mov (.t 81))] false)
        (.seq (.reg [o 82 (.faddr 0 (.t 11)),
          o 83 (.load 1 false (.t 82)),
          o 84 (.mov (.t 0)),
          o 85 (.len false (.t 84)),
          o 86 (.bin .rem (.t 83) (.t 85)),
          o 12 (.mov (.t 86))] false)
        (.seq (.reg [o 87 (.mov (.t 7)),
          o 88 (.mov (.t 12)),
          o 89 (.build [.str ⟨#[]⟩, .int .i64 0, .int .i64 0, .int .i64 0] []),
          o 90 (.iaddr 4 (.t 87) (.t 88)),
          ⟨none, none, .store 4 (.t 90) (.t 89), []⟩] false)
        (.seq (.seq (.reg [o 91 (.faddr 3 (.t 11)),
            o 92 (.load 1 false (.t 91))] false)
          (.cond (.t 92) (.reg [o 93 (.load 4 true (.t 8)),
            o 94 (.mov (.t 6)),
            o 95 (.mov (.t 12)),
            ob 96 (.iaddr 1 (.t 94) (.t 95)) [1, 2],
            ob 97 (.load 1 false (.t 96)) [1, 2, 3],
            ob 98 (.call false (.f 25) [.t 93, .t 97]) (rg 0 5),
            ⟨none, none, .store 4 (.t 8) (.t 98), (rg 0 6)⟩] true)
            (.seq (.reg [o 100 (.load 4 true (.t 8)),
              o 101 (.mov (.t 6)),
              o 102 (.mov (.t 12)),
              ob 103 (.iaddr 1 (.t 101) (.t 102)) [1, 2],
              ob 104 (.load 1 false (.t 103)) [1, 2, 3],
              o 105 (.mov (.t 9)),
              o 106 (.mov (.t 0)),
              o 107 (.mov (.t 12)),
              ob 108 (.iaddr 1 (.t 106) (.t 107)) [6, 7],
              ob 109 (.load 1 false (.t 108)) [6, 7, 8],
              ob 110 (.bin .add (.t 105) (.t 109)) (rg 5 10),
              o 111 (.faddr 2 (.t 11)),
              ob 112 (.load 1 false (.t 111)) [11],
              ob 113 (.call false (.f 18) [.t 100, .t 104, .t 110, .t 112]) (rg 0 13),
              ob 99 (.mov (.t 113)) (rg 0 14),
              ob 114 (.extract (.t 99) 0) (rg 0 15),
              ob 115 (.extract (.t 99) 1) (rg 0 15),
              o 13 (.zero [.str ⟨#[]⟩, .int .i64 0, .int .i64 0, .int .i64 0]),
              ⟨none, none, .store 4 (.t 13) (.t 114), (rg 0 16 ++ [17])⟩,
              ob 14 (.mov (.t 115)) (rg 0 19)] true)
            (.seq (.reg [o 116 (.mov (.t 14))] false)
            (.cond (.t 116) (.seq (.reg [o 117 (.load 4 true (.t 13)),
                ⟨none, none, .store 4 (.t 8) (.t 117), []⟩] false)
              (.reg [o 118 (.mov (.t 7)),
              o 119 (.mov (.t 12)),
              o 120 (.load 4 true (.t 13)),
              o 121 (.iaddr 4 (.t 118) (.t 119)),
              ⟨none, none, .store 4 (.t 121) (.t 120), []⟩] false))
              (.skip))))))
        (.seq (.reg [o 15 (.mov (.c (.int .i64 0)))] false)
        (.seq (.seq (.reg [o 16 (.mov (.c (.int .i64 0)))] false)
          (.block 4 (.loop law29_LeaseExclusive_b2_live law29_LeaseExclusive_b2)))
        (.seq (.reg [o 146 (.mov (.t 15)),
          o 147 (.bin .gtr (.t 146) (.c (.int .i64 1)))] false)
        (.cond (.t 147) (.seq (.reg [o 4 (.mov (.c (.bool false)))] false)
          (.ret))
          (.skip))))))))))))
    (.reg [o 58 (.mov (.t 10)),
    o 59 (.bin .add (.t 58) (.c (.int .i64 1))),
    o 10 (.mov (.t 59))] false))
def law29_LeaseExclusive_b0_live : List Nat := [100002, 0, 1, 5]
def law29_LeaseExclusive_b0 : IR :=
  .seq (.seq (.reg [o 31 (.mov (.t 5)),
        o 32 (.mov (.t 0)),
        o 33 (.len false (.t 32)),
        o 34 (.bin .lss (.t 31) (.t 33))] false)
      (.cond (.t 34) (.skip)
        (.exit 0)))
    (.seq (.block 1 (.seq (.reg [o 37 (.mov (.t 0)),
          o 38 (.mov (.t 5)),
          o 39 (.iaddr 1 (.t 37) (.t 38)),
          o 40 (.load 1 false (.t 39)),
          o 41 (.bin .lss (.t 40) (.c (.int .i64 0))),
          o 42 (.mov (.t 41)),
          ⟨(some 43), (some (42, false)), .mov (.t 0), []⟩,
          ⟨(some 44), (some (42, false)), .mov (.t 5), []⟩,
          ⟨(some 45), (some (42, false)), .iaddr 1 (.t 43) (.t 44), []⟩,
          ⟨(some 46), (some (42, false)), .load 1 false (.t 45), []⟩,
          ⟨(some 47), (some (42, false)), .bin .gtr (.t 46) (.c (.int .i64 100)), []⟩,
          o 48 (.pick (.t 42) (.c (.bool true)) (.t 47))] false)
        (.cond (.t 48) (.seq (.reg [o 49 (.call false (.f 20) []),
            o 4 (.mov (.t 49))] false)
          (.ret))
          (.skip))))
    (.reg [o 35 (.mov (.t 5)),
    o 36 (.bin .add (.t 35) (.c (.int .i64 1))),
    o 5 (.mov (.t 36))] false))
def law29_LeaseExclusive_c : IR :=
  .seq (.reg [o 4 (.mov (.c (.bool false)))] false)
  (.seq (.seq (.reg [o 17 (.mov (.t 0)),
      o 18 (.len false (.t 17)),
      o 19 (.bin .lss (.t 18) (.c (.int .i64 1))),
      o 20 (.mov (.t 19)),
      ⟨(some 21), (some (20, false)), .mov (.t 0), []⟩,
      ⟨(some 22), (some (20, false)), .len false (.t 21), []⟩,
      ⟨(some 23), (some (20, false)), .bin .gtr (.t 22) (.c (.int .i64 5)), []⟩,
      o 24 (.pick (.t 20) (.c (.bool true)) (.t 23)),
      o 25 (.mov (.t 24)),
      ⟨(some 26), (some (25, false)), .mov (.t 1), []⟩,
      ⟨(some 27), (some (25, false)), .len false (.t 26), []⟩,
      ⟨(some 28), (some (25, false)), .bin .gtr (.t 27) (.c (.int .i64 200)), []⟩,
      o 29 (.pick (.t 25) (.c (.bool true)) (.t 28))] false)
    (.cond (.t 29) (.seq (.reg [o 30 (.call false (.f 20) []),
        o 4 (.mov (.t 30))] false)
      (.ret))
      (.skip)))
  (.seq (.seq (.reg [o 5 (.mov (.c (.int .i64 0)))] false)
    (.block 0 (.loop law29_LeaseExclusive_b0_live law29_LeaseExclusive_b0)))
  (.seq (.reg [o 50 (.lit 1 5 [.str ⟨#[]⟩] [(0, .c (.str ⟨#[97]⟩)), (1, .c (.str ⟨#[98]⟩)), (2, .c (.str ⟨#[99]⟩)), (3, .c (.str ⟨#[100]⟩)), (4, .c (.str ⟨#[101]⟩))]),
    o 6 (.mov (.t 50))] false)
  (.seq (.reg [o 51 (.mov (.t 0)),
    o 52 (.len false (.t 51)),
    o 53 (.mks 4 40 [.str ⟨#[]⟩, .int .i64 0, .int .i64 0, .int .i64 0] (.t 52)),
    o 7 (.mov (.t 53))] false)
  (.seq (.reg [o 8 (.zero [.str ⟨#[]⟩, .int .i64 0, .int .i64 0, .int .i64 0])] false)
  (.seq (.reg [o 9 (.mov (.c (.int .i64 0)))] false)
  (.seq (.seq (.reg [o 10 (.mov (.c (.int .i64 0)))] false)
    (.block 2 (.loop law29_LeaseExclusive_b1_live law29_LeaseExclusive_b1)))
  (.seq (.reg [o 148 (.call false (.f 20) []),
    o 4 (.mov (.t 148))] false)
  (.ret)))))))))
def law29_LeaseExclusive : IFn := ⟨2, 149, [.tmp 4], false, law29_LeaseExclusive_c⟩

/-- function 9: orchestrator/ orchestratorlaw29.LeaseKeeps -/
def law29_LeaseKeeps_c : IR :=
  .seq (.reg [o 4 (.box 4 (.t 0)),
    o 8 (.mov (.c (.bool false)))] false)
  (.seq (.seq (.reg [o 14 (.load 4 true (.t 4)),
      o 15 (.call false (.f 21) [.t 14]),
      o 16 (.un .not (.t 15))] false)
    (.cond (.t 16) (.seq (.reg [o 17 (.call false (.f 20) []),
        o 8 (.mov (.t 17))] false)
      (.ret))
      (.skip)))
  (.seq (.reg [o 19 (.load 4 true (.t 4)),
    o 20 (.mov (.t 1)),
    o 21 (.mov (.t 2)),
    o 22 (.mov (.t 3)),
    o 23 (.call false (.f 18) [.t 19, .t 20, .t 21, .t 22]),
    o 18 (.mov (.t 23)),
    o 24 (.extract (.t 18) 0),
    o 25 (.extract (.t 18) 1),
    o 9 (.zero [.str ⟨#[]⟩, .int .i64 0, .int .i64 0, .int .i64 0]),
    ⟨none, none, .store 4 (.t 9) (.t 24), []⟩,
    o 10 (.mov (.t 25))] false)
  (.seq (.seq (.reg [o 26 (.load 4 true (.t 9)),
      o 27 (.call false (.f 21) [.t 26]),
      o 28 (.un .not (.t 27)),
      o 29 (.mov (.t 28)),
      ⟨(some 30), (some (29, false)), .faddr 1 (.t 9), []⟩,
      ⟨(some 31), (some (29, false)), .load 1 false (.t 30), []⟩,
      ⟨(some 32), (some (29, false)), .faddr 1 (.t 4), []⟩,
      ⟨(some 33), (some (29, false)), .load 1 false (.t 32), []⟩,
      ⟨(some 34), (some (29, false)), .bin .lss (.t 31) (.t 33), []⟩,
      o 35 (.pick (.t 29) (.c (.bool true)) (.t 34)),
      o 36 (.mov (.t 35)),
      ⟨(some 37), (some (36, false)), .mov (.t 10), []⟩,
      ⟨(some 38), (some (36, false)), .un .not (.t 37), []⟩,
      ⟨(some 39), (some (36, false)), .mov (.t 38), []⟩,
      ⟨(some 40), (some (39, true)), .load 4 true (.t 9), []⟩,
      ⟨(some 41), (some (39, true)), .load 4 true (.t 4), []⟩,
      ⟨(some 42), (some (39, true)), .eqs (.st [(0, 1, .str), (1, 1, .int), (2, 1, .int), (3, 1, .int)]) true (.t 40) (.t 41), []⟩,
      ⟨(some 43), (some (36, false)), .pick (.t 39) (.t 42) (.c (.bool false)), []⟩,
      o 44 (.pick (.t 36) (.c (.bool true)) (.t 43))] false)
    (.cond (.t 44) (.seq (.reg [o 8 (.mov (.c (.bool false)))] false)
      (.ret))
      (.skip)))
  (.seq (.seq (.reg [o 45 (.load 4 true (.t 4)),
      o 46 (.faddr 0 (.t 4)),
      o 47 (.load 1 false (.t 46)),
      o 48 (.mov (.t 2)),
      o 49 (.call false (.f 23) [.t 45, .t 47, .t 48]),
      o 50 (.mov (.t 49)),
      ⟨(some 51), (some (50, true)), .mov (.t 1), []⟩,
      ⟨(some 52), (some (50, true)), .faddr 0 (.t 4), []⟩,
      ⟨(some 53), (some (50, true)), .load 1 false (.t 52), []⟩,
      ⟨(some 54), (some (50, true)), .bin .neq (.t 51) (.t 53), []⟩,
      o 55 (.pick (.t 50) (.t 54) (.c (.bool false))),
      o 56 (.mov (.t 55)),
      ⟨(some 57), (some (56, true)), .mov (.t 10), []⟩,
      o 58 (.pick (.t 56) (.t 57) (.c (.bool false)))] false)
    (.cond (.t 58) (.seq (.reg [o 8 (.mov (.c (.bool false)))] false)
      (.ret))
      (.skip)))
  (.seq (.reg [o 60 (.load 4 true (.t 4)),
    o 61 (.faddr 0 (.t 4)),
    o 62 (.load 1 false (.t 61)),
    o 63 (.mov (.t 2)),
    o 64 (.mov (.t 3)),
    o 65 (.call false (.f 18) [.t 60, .t 62, .t 63, .t 64]),
    o 59 (.mov (.t 65)),
    o 66 (.extract (.t 59) 0),
    o 67 (.extract (.t 59) 1),
    o 11 (.zero [.str ⟨#[]⟩, .int .i64 0, .int .i64 0, .int .i64 0]),
    ⟨none, none, .store 4 (.t 11) (.t 66), []⟩,
    o 12 (.mov (.t 67))] false)
  (.seq (.reg [o 68 (.faddr 0 (.t 4)),
    o 69 (.load 1 false (.t 68)),
    o 70 (.bin .neq (.t 69) (.c (.str ⟨#[]⟩))),
    o 71 (.mov (.t 70)),
    ⟨(some 72), (some (71, true)), .mov (.t 2), []⟩,
    ⟨(some 73), (some (71, true)), .bin .geq (.t 72) (.c (.int .i64 0)), []⟩,
    o 74 (.pick (.t 71) (.t 73) (.c (.bool false))),
    o 75 (.mov (.t 74)),
    ⟨(some 76), (some (75, true)), .mov (.t 2), []⟩,
    ⟨(some 77), (some (75, true)), .bin .leq (.t 76) (.c (.int .i64 1000000000000)), []⟩,
    o 78 (.pick (.t 75) (.t 77) (.c (.bool false))),
    o 79 (.mov (.t 78)),
    ⟨(some 80), (some (79, true)), .mov (.t 3), []⟩,
    ⟨(some 81), (some (79, true)), .bin .geq (.t 80) (.c (.int .i64 1)), []⟩,
    o 82 (.pick (.t 79) (.t 81) (.c (.bool false))),
    o 83 (.mov (.t 82)),
    ⟨(some 84), (some (83, true)), .mov (.t 3), []⟩,
    ⟨(some 85), (some (83, true)), .bin .leq (.t 84) (.c (.int .i64 1000000000000)), []⟩,
    o 86 (.pick (.t 83) (.t 85) (.c (.bool false))),
    o 13 (.mov (.t 86))] false)
  (.seq (.reg [o 87 (.call false (.f 20) []),
    o 88 (.mov (.t 87)),
    ⟨(some 89), (some (88, true)), .mov (.t 12), []⟩,
    ⟨(some 90), (some (88, true)), .mov (.t 13), []⟩,
    ⟨(some 91), (some (88, true)), .eqb false (.t 89) (.t 90), []⟩,
    o 92 (.pick (.t 88) (.t 91) (.c (.bool false))),
    o 93 (.mov (.t 92)),
    ⟨(some 94), (some (93, true)), .mov (.t 12), []⟩,
    ⟨(some 95), (some (93, true)), .un .not (.t 94), []⟩,
    ⟨(some 96), (some (93, true)), .mov (.t 95), []⟩,
    ⟨(some 97), (some (96, false)), .faddr 0 (.t 11), []⟩,
    ⟨(some 98), (some (96, false)), .load 1 false (.t 97), []⟩,
    ⟨(some 99), (some (96, false)), .faddr 0 (.t 4), []⟩,
    ⟨(some 100), (some (96, false)), .load 1 false (.t 99), []⟩,
    ⟨(some 101), (some (96, false)), .bin .eql (.t 98) (.t 100), []⟩,
    ⟨(some 102), (some (96, false)), .mov (.t 101), []⟩,
    ⟨(some 103), (some (102, true)), .faddr 3 (.t 11), []⟩,
    ⟨(some 104), (some (102, true)), .load 1 false (.t 103), []⟩,
    ⟨(some 105), (some (102, true)), .faddr 3 (.t 4), []⟩,
    ⟨(some 106), (some (102, true)), .load 1 false (.t 105), []⟩,
    ⟨(some 107), (some (102, true)), .bin .eql (.t 104) (.t 106), []⟩,
    ⟨(some 108), (some (96, false)), .pick (.t 102) (.t 107) (.c (.bool false)), []⟩,
    ⟨(some 109), (some (96, false)), .mov (.t 108), []⟩,
    ⟨(some 110), (some (109, true)), .faddr 2 (.t 11), []⟩,
    ⟨(some 111), (some (109, true)), .load 1 false (.t 110), []⟩,
    ⟨(some 112), (some (109, true)), .mov (.t 3), []⟩,
    ⟨(some 113), (some (109, true)), .bin .eql (.t 111) (.t 112), []⟩,
    ⟨(some 114), (some (96, false)), .pick (.t 109) (.t 113) (.c (.bool false)), []⟩,
    ⟨(some 115), (some (96, false)), .mov (.t 114), []⟩,
    ⟨(some 116), (some (115, true)), .faddr 1 (.t 11), []⟩,
    ⟨(some 117), (some (115, true)), .load 1 false (.t 116), []⟩,
    ⟨(some 118), (some (115, true)), .mov (.t 2), []⟩,
    ⟨(some 119), (some (115, true)), .bin .geq (.t 117) (.t 118), []⟩,
    ⟨(some 120), (some (96, false)), .pick (.t 115) (.t 119) (.c (.bool false)), []⟩,
    ⟨(some 121), (some (93, true)), .pick (.t 96) (.c (.bool true)) (.t 120), []⟩,
    o 122 (.pick (.t 93) (.t 121) (.c (.bool false))),
    o 8 (.mov (.t 122))] false)
  (.ret))))))))
def law29_LeaseKeeps : IFn := ⟨4, 123, [.tmp 8], false, law29_LeaseKeeps_c⟩

/-- function 10: orchestrator/ orchestratorlaw29.LeaseSwitches -/
def law29_LeaseSwitches_b0_live : List Nat := [100005, 0, 3, 4, 5, 6, 7]
def law29_LeaseSwitches_b0 : IR :=
  .seq (.seq (.reg [o 18 (.mov (.t 7)),
        o 19 (.mov (.t 0)),
        o 20 (.len false (.t 19)),
        o 21 (.bin .lss (.t 18) (.t 20))] false)
      (.cond (.t 21) (.skip)
        (.exit 0)))
    (.seq (.block 1 (.seq (.reg [o 24 (.mov (.t 0)),
          o 25 (.mov (.t 7)),
          o 26 (.iaddr 4 (.t 24) (.t 25)),
          o 27 (.load 4 true (.t 26)),
          o 8 (.zero [.int .i64 0, .int .i64 0, .int .i64 0, .bool false]),
          ⟨none, none, .store 4 (.t 8) (.t 27), []⟩] false)
        (.seq (.seq (.reg [o 28 (.faddr 0 (.t 8)),
            o 29 (.load 1 false (.t 28)),
            o 30 (.bin .lss (.t 29) (.c (.int .i64 0))),
            o 31 (.mov (.t 30)),
            ⟨(some 32), (some (31, false)), .faddr 1 (.t 8), []⟩,
            ⟨(some 33), (some (31, false)), .load 1 false (.t 32), []⟩,
            ⟨(some 34), (some (31, false)), .bin .lss (.t 33) (.c (.int .i64 0)), []⟩,
            o 35 (.pick (.t 31) (.c (.bool true)) (.t 34)),
            o 36 (.mov (.t 35)),
            ⟨(some 37), (some (36, false)), .faddr 1 (.t 8), []⟩,
            ⟨(some 38), (some (36, false)), .load 1 false (.t 37), []⟩,
            ⟨(some 39), (some (36, false)), .bin .gtr (.t 38) (.c (.int .i64 1000)), []⟩,
            o 40 (.pick (.t 36) (.c (.bool true)) (.t 39))] false)
          (.cond (.t 40) (.seq (.reg [o 41 (.call false (.f 20) []),
              o 2 (.mov (.t 41))] false)
            (.ret))
            (.skip)))
        (.seq (.reg [o 42 (.mov (.t 5)),
          o 43 (.faddr 1 (.t 8)),
          o 44 (.load 1 false (.t 43)),
          o 45 (.bin .add (.t 42) (.t 44)),
          o 5 (.mov (.t 45))] false)
        (.seq (.reg [o 46 (.mov (.t 3)),
          o 47 (.faddr 0 (.t 8)),
          o 48 (.load 1 false (.t 47)),
          o 49 (.bin .rem (.t 48) (.c (.int .i64 3))),
          o 50 (.iaddr 1 (.t 46) (.t 49)),
          o 51 (.load 1 false (.t 50)),
          o 9 (.mov (.t 51))] false)
        (.seq (.seq (.reg [o 52 (.faddr 3 (.t 8)),
            o 53 (.load 1 false (.t 52))] false)
          (.cond (.t 53) (.seq (.reg [o 54 (.load 4 true (.t 4)),
              o 55 (.mov (.t 9)),
              o 56 (.call false (.f 25) [.t 54, .t 55]),
              o 10 (.zero [.str ⟨#[]⟩, .int .i64 0, .int .i64 0, .int .i64 0]),
              ⟨none, none, .store 4 (.t 10) (.t 56), []⟩] false)
            (.seq (.seq (.reg [o 57 (.faddr 0 (.t 10)),
                o 58 (.load 1 false (.t 57)),
                o 59 (.mov (.t 9)),
                o 60 (.bin .eql (.t 58) (.t 59)),
                o 61 (.mov (.t 60)),
                ⟨(some 62), (some (61, false)), .faddr 3 (.t 10), []⟩,
                ⟨(some 63), (some (61, false)), .load 1 false (.t 62), []⟩,
                ⟨(some 64), (some (61, false)), .faddr 3 (.t 4), []⟩,
                ⟨(some 65), (some (61, false)), .load 1 false (.t 64), []⟩,
                ⟨(some 66), (some (61, false)), .bin .neq (.t 63) (.t 65), []⟩,
                o 67 (.pick (.t 61) (.c (.bool true)) (.t 66))] false)
              (.cond (.t 67) (.seq (.reg [o 2 (.mov (.c (.bool false)))] false)
                (.ret))
                (.skip)))
            (.seq (.reg [o 68 (.load 4 true (.t 10)),
              ⟨none, none, .store 4 (.t 4) (.t 68), []⟩] false)
            (.exit 1))))
            (.skip)))
        (.seq (.reg [o 70 (.load 4 true (.t 4)),
          o 71 (.mov (.t 9)),
          o 72 (.mov (.t 5)),
          o 73 (.faddr 2 (.t 8)),
          o 74 (.load 1 false (.t 73)),
          o 75 (.call false (.f 18) [.t 70, .t 71, .t 72, .t 74]),
          o 69 (.mov (.t 75)),
          o 76 (.extract (.t 69) 0),
          o 77 (.extract (.t 69) 1),
          o 11 (.zero [.str ⟨#[]⟩, .int .i64 0, .int .i64 0, .int .i64 0]),
          ⟨none, none, .store 4 (.t 11) (.t 76), []⟩,
          o 12 (.mov (.t 77))] false)
        (.seq (.seq (.reg [o 78 (.mov (.t 12)),
            o 79 (.mov (.t 78)),
            ⟨(some 80), (some (79, true)), .faddr 0 (.t 4), []⟩,
            ⟨(some 81), (some (79, true)), .load 1 false (.t 80), []⟩,
            ⟨(some 82), (some (79, true)), .mov (.t 9), []⟩,
            ⟨(some 83), (some (79, true)), .bin .neq (.t 81) (.t 82), []⟩,
            o 84 (.pick (.t 79) (.t 83) (.c (.bool false)))] false)
          (.cond (.t 84) (.reg [o 85 (.mov (.t 6)),
            o 86 (.bin .add (.t 85) (.c (.int .i64 1))),
            o 6 (.mov (.t 86))] false)
            (.skip)))
        (.seq (.seq (.reg [o 87 (.mov (.t 12)),
            o 88 (.mov (.t 87)),
            ⟨(some 89), (some (88, true)), .faddr 0 (.t 11), []⟩,
            ⟨(some 90), (some (88, true)), .load 1 false (.t 89), []⟩,
            ⟨(some 91), (some (88, true)), .mov (.t 9), []⟩,
            ⟨(some 92), (some (88, true)), .bin .neq (.t 90) (.t 91), []⟩,
            o 93 (.pick (.t 88) (.t 92) (.c (.bool false))),
            o 94 (.mov (.t 93)),
            ⟨(some 95), (some (94, false)), .faddr 3 (.t 11), []⟩,
            ⟨(some 96), (some (94, false)), .load 1 false (.t 95), []⟩,
            ⟨(some 97), (some (94, false)), .mov (.t 6), []⟩,
            ⟨(some 98), (some (94, false)), .bin .neq (.t 96) (.t 97), []⟩,
            o 99 (.pick (.t 94) (.c (.bool true)) (.t 98))] false)
          (.cond (.t 99) (.seq (.reg [o 2 (.mov (.c (.bool false)))] false)
            (.ret))
            (.skip)))
        (.reg [o 100 (.load 4 true (.t 11)),
        ⟨none, none, .store 4 (.t 4) (.t 100), []⟩] false))))))))))
    (.reg [o 22 (.mov (.t 7)),
    o 23 (.bin .add (.t 22) (.c (.int .i64 1))),
    o 7 (.mov (.t 23))] false))
def law29_LeaseSwitches_c : IR :=
  .seq (.reg [o 2 (.mov (.c (.bool false)))] false)
  (.seq (.seq (.reg [o 13 (.mov (.t 0)),
      o 14 (.len false (.t 13)),
      o 15 (.bin .gtr (.t 14) (.c (.int .i64 200)))] false)
    (.cond (.t 15) (.seq (.reg [o 16 (.call false (.f 20) []),
        o 2 (.mov (.t 16))] false)
      (.ret))
      (.skip)))
  (.seq (.reg [o 17 (.lit 1 3 [.str ⟨#[]⟩] [(0, .c (.str ⟨#[97]⟩)), (1, .c (.str ⟨#[98]⟩)), (2, .c (.str ⟨#[99]⟩))]),
    o 3 (.mov (.t 17))] false)
  (.seq (.reg [o 4 (.zero [.str ⟨#[]⟩, .int .i64 0, .int .i64 0, .int .i64 0])] false)
  (.seq (.reg [o 5 (.mov (.c (.int .i64 0))),
    o 6 (.mov (.c (.int .i64 0)))] false)
  (.seq (.seq (.reg [o 7 (.mov (.c (.int .i64 0)))] false)
    (.block 0 (.loop law29_LeaseSwitches_b0_live law29_LeaseSwitches_b0)))
  (.seq (.reg [o 101 (.call false (.f 20) []),
    o 2 (.mov (.t 101))] false)
  (.ret)))))))
def law29_LeaseSwitches : IFn := ⟨1, 102, [.tmp 2], false, law29_LeaseSwitches_c⟩

/-- function 11: orchestrator/ probe.Begin -/
def probe_Begin_c : IR :=
  .seq (.reg [o 2 (.box 4 (.t 0)),
    o 4 (.zero [.int .i64 0, .int .i64 0, .bool false, .int .i64 0])] false)
  (.seq (.reg [o 5 (.mov (.t 1)),
    o 6 (.faddr 0 (.t 2)),
    o 7 (.load 1 false (.t 6)),
    o 8 (.call false (.f 28) [.t 7, .c (.int .i64 0), .c (.int .i64 1000000000000)]),
    o 9 (.call false (.f 27) [.t 5, .t 8]),
    o 10 (.build [.int .i64 0, .int .i64 0, .bool false, .int .i64 0] [(3, 1, .t 9)]),
    ⟨none, none, .store 4 (.t 4) (.t 10), []⟩] false)
  (.ret))
def probe_Begin : IFn := ⟨2, 11, [.cell 4 4 true], false, probe_Begin_c⟩

/-- function 12: orchestrator/ orchestratorref34.Begin -/
def ref34_Begin_c : IR :=
  .seq (.reg [o 2 (.box 4 (.t 0)),
    o 4 (.zero [.int .i64 0, .int .i64 0, .bool false, .int .i64 0])] false)
  (.seq (.reg [o 5 (.mov (.t 1)),
    ob 6 (.call false (.f 29) [.t 5]) [0],
    o 7 (.faddr 0 (.t 2)),
    ob 8 (.load 1 false (.t 7)) [2],
    ob 9 (.call false (.f 29) [.t 8]) [0, 1, 2, 3],
    ob 10 (.bin .add (.t 6) (.t 9)) (rg 0 5),
    ob 11 (.call false (.f 29) [.t 10]) (rg 0 6),
    ob 12 (.build [.int .i64 0, .int .i64 0, .bool false, .int .i64 0] [(3, 1, .t 11)]) (rg 0 7),
    ⟨none, none, .store 4 (.t 4) (.t 12), (rg 0 8)⟩] true)
  (.ret))
def ref34_Begin : IFn := ⟨2, 13, [.cell 4 4 true], false, ref34_Begin_c⟩

/-- function 13: orchestrator/ probe.Due -/
def probe_Due_c : IR :=
  .seq (.reg [o 2 (.box 4 (.t 0)),
    o 4 (.mov (.c (.bool false)))] false)
  (.seq (.reg [o 5 (.mov (.t 1)),
    o 6 (.faddr 3 (.t 2)),
    o 7 (.load 1 false (.t 6)),
    o 8 (.bin .geq (.t 5) (.t 7)),
    o 4 (.mov (.t 8))] false)
  (.ret))
def probe_Due : IFn := ⟨2, 9, [.tmp 4], false, probe_Due_c⟩

/-- function 14: orchestrator/ orchestratorref34.Due -/
def ref34_Due_c : IR :=
  .seq (.reg [o 2 (.box 4 (.t 0)),
    o 4 (.mov (.c (.bool false)))] false)
  (.seq (.reg [o 5 (.mov (.t 1)),
    o 6 (.faddr 3 (.t 2)),
    o 7 (.load 1 false (.t 6)),
    o 8 (.bin .geq (.t 5) (.t 7)),
    o 4 (.mov (.t 8))] false)
  (.ret))
def ref34_Due : IFn := ⟨2, 9, [.tmp 4], false, ref34_Due_c⟩

/-- function 15: orchestrator/ orchestratorlaw34.awake -/
def law34_awake_c : IR :=
  .seq (.reg [o 0 (.mov (.c (.bool false)))] false)
  (.seq (.reg [o 5 (.build [.int .i64 0, .int .i64 0, .int .i64 0, .int .i64 0] [(0, 1, .c (.int .i64 3)), (1, 1, .c (.int .i64 10)), (2, 1, .c (.int .i64 2)), (3, 1, .c (.int .i64 3))]),
    o 1 (.zero [.int .i64 0, .int .i64 0, .int .i64 0, .int .i64 0]),
    ⟨none, none, .store 4 (.t 1) (.t 5), []⟩] false)
  (.seq (.reg [o 6 (.load 4 true (.t 1)),
    o 7 (.call false (.f 11) [.t 6, .c (.int .i64 100)]),
    o 2 (.zero [.int .i64 0, .int .i64 0, .bool false, .int .i64 0]),
    ⟨none, none, .store 4 (.t 2) (.t 7), []⟩] false)
  (.seq (.reg [o 8 (.load 4 true (.t 1)),
    o 9 (.load 4 true (.t 1)),
    o 10 (.load 4 true (.t 2)),
    ob 11 (.call false (.f 16) [.t 9, .t 10, .c (.bool true), .c (.int .i64 103)]) [1, 2],
    ob 12 (.call false (.f 16) [.t 8, .t 11, .c (.bool false), .c (.int .i64 113)]) [0, 1, 2, 3],
    o 3 (.zero [.int .i64 0, .int .i64 0, .bool false, .int .i64 0]),
    ⟨none, none, .store 4 (.t 3) (.t 12), (rg 0 6)⟩] true)
  (.seq (.reg [o 13 (.load 4 true (.t 1)),
    o 14 (.load 4 true (.t 1)),
    o 15 (.load 4 true (.t 3)),
    ob 16 (.call false (.f 16) [.t 14, .t 15, .c (.bool true), .c (.int .i64 123)]) [1, 2],
    ob 17 (.call false (.f 16) [.t 13, .t 16, .c (.bool true), .c (.int .i64 133)]) [0, 1, 2, 3],
    o 4 (.zero [.int .i64 0, .int .i64 0, .bool false, .int .i64 0]),
    ⟨none, none, .store 4 (.t 4) (.t 17), (rg 0 6)⟩] true)
  (.seq (.reg [o 18 (.load 4 true (.t 2)),
    o 19 (.build [.int .i64 0, .int .i64 0, .bool false, .int .i64 0] [(3, 1, .c (.int .i64 103))]),
    o 20 (.eqs (.st [(0, 1, .int), (1, 1, .int), (2, 1, .bool), (3, 1, .int)]) false (.t 18) (.t 19)),
    o 21 (.mov (.t 20)),
    ⟨(some 22), (some (21, true)), .load 4 true (.t 2), []⟩,
    ⟨(some 23), (some (21, true)), .call false (.f 13) [.t 22, .c (.int .i64 103)], []⟩,
    o 24 (.pick (.t 21) (.t 23) (.c (.bool false))),
    o 25 (.mov (.t 24)),
    ⟨(some 26), (some (25, true)), .load 4 true (.t 2), []⟩,
    ⟨(some 27), (some (25, true)), .call false (.f 13) [.t 26, .c (.int .i64 102)], []⟩,
    ⟨(some 28), (some (25, true)), .un .not (.t 27), []⟩,
    o 29 (.pick (.t 25) (.t 28) (.c (.bool false))),
    o 30 (.mov (.t 29)),
    ⟨(some 31), (some (30, true)), .faddr 2 (.t 3), []⟩,
    ⟨(some 32), (some (30, true)), .load 1 false (.t 31), []⟩,
    ⟨(some 33), (some (30, true)), .un .not (.t 32), []⟩,
    o 34 (.pick (.t 30) (.t 33) (.c (.bool false))),
    o 35 (.mov (.t 34)),
    ⟨(some 36), (some (35, true)), .faddr 1 (.t 3), []⟩,
    ⟨(some 37), (some (35, true)), .load 1 false (.t 36), []⟩,
    ⟨(some 38), (some (35, true)), .bin .eql (.t 37) (.c (.int .i64 1)), []⟩,
    o 39 (.pick (.t 35) (.t 38) (.c (.bool false))),
    o 40 (.mov (.t 39)),
    ⟨(some 41), (some (40, true)), .faddr 2 (.t 4), []⟩,
    ⟨(some 42), (some (40, true)), .load 1 false (.t 41), []⟩,
    o 43 (.pick (.t 40) (.t 42) (.c (.bool false))),
    o 44 (.mov (.t 43)),
    ⟨(some 45), (some (44, true)), .faddr 0 (.t 4), []⟩,
    ⟨(some 46), (some (44, true)), .load 1 false (.t 45), []⟩,
    ⟨(some 47), (some (44, true)), .bin .eql (.t 46) (.c (.int .i64 2)), []⟩,
    o 48 (.pick (.t 44) (.t 47) (.c (.bool false))),
    o 49 (.mov (.t 48)),
    ⟨(some 50), (some (49, true)), .faddr 3 (.t 4), []⟩,
    ⟨(some 51), (some (49, true)), .load 1 false (.t 50), []⟩,
    ⟨(some 52), (some (49, true)), .bin .eql (.t 51) (.c (.int .i64 143)), []⟩,
    o 53 (.pick (.t 49) (.t 52) (.c (.bool false))),
    o 0 (.mov (.t 53))] false)
  (.ret))))))
def law34_awake : IFn := ⟨0, 54, [.tmp 0], false, law34_awake_c⟩

/-- function 16: orchestrator/ probe.Step -/
def probe_Step_c : IR :=
  .seq (.reg [o 4 (.box 4 (.t 0)),
    o 5 (.box 4 (.t 1)),
    o 8 (.zero [.int .i64 0, .int .i64 0, .bool false, .int .i64 0])] false)
  (.seq (.reg [o 9 (.mov (.f 30))] false)
  (.seq (.reg [o 11 (.faddr 2 (.t 5)),
    ob 12 (.load 1 false (.t 11)) [0],
    o 13 (.mov (.t 3)),
    o 14 (.faddr 1 (.t 4)),
    ob 15 (.load 1 false (.t 14)) [3],
    ob 16 (.call false (.f 28) [.t 15, .c (.int .i64 1), .c (.int .i64 1000000000000)]) [3, 4],
    ob 17 (.call false (.f 27) [.t 13, .t 16]) [2, 3, 4, 5],
    ob 18 (.build [.int .i64 0, .int .i64 0, .bool false, .int .i64 0] [(2, 1, .t 12), (3, 1, .t 17)]) (rg 0 7),
    o 10 (.zero [.int .i64 0, .int .i64 0, .bool false, .int .i64 0]),
    ⟨none, none, .store 4 (.t 10) (.t 18), (rg 0 9)⟩] true)
  (.seq (.seq (.reg [o 19 (.mov (.t 2))] false)
    (.cond (.t 19) (.seq (.reg [o 20 (.mov (.t 9)),
        o 21 (.faddr 0 (.t 5)),
        o 22 (.load 1 false (.t 21)),
        o 23 (.call false (.t 20) [.t 22]),
        o 24 (.faddr 0 (.t 10)),
        ⟨none, none, .store 1 (.t 24) (.t 23), []⟩] false)
      (.seq (.reg [o 25 (.faddr 2 (.t 5)),
        o 26 (.load 1 false (.t 25)),
        o 27 (.mov (.t 26)),
        ⟨(some 28), (some (27, false)), .faddr 0 (.t 10), []⟩,
        ⟨(some 29), (some (27, false)), .load 1 false (.t 28), []⟩,
        ⟨(some 30), (some (27, false)), .faddr 2 (.t 4), []⟩,
        ⟨(some 31), (some (27, false)), .load 1 false (.t 30), []⟩,
        ⟨(some 32), (some (27, false)), .mnmx true (.t 31) [.c (.int .i64 1)], []⟩,
        ⟨(some 33), (some (27, false)), .bin .geq (.t 29) (.t 32), []⟩,
        o 34 (.pick (.t 27) (.c (.bool true)) (.t 33)),
        o 35 (.faddr 2 (.t 10)),
        ⟨none, none, .store 1 (.t 35) (.t 34), []⟩] false)
      (.seq (.reg [o 36 (.load 4 true (.t 10)),
        ⟨none, none, .store 4 (.t 8) (.t 36), []⟩] false)
      (.ret))))
      (.skip)))
  (.seq (.reg [o 37 (.mov (.t 9)),
    o 38 (.faddr 1 (.t 5)),
    o 39 (.load 1 false (.t 38)),
    o 40 (.call false (.t 37) [.t 39]),
    o 41 (.faddr 1 (.t 10)),
    ⟨none, none, .store 1 (.t 41) (.t 40), []⟩] false)
  (.seq (.reg [o 42 (.faddr 2 (.t 5)),
    o 43 (.load 1 false (.t 42)),
    o 44 (.mov (.t 43)),
    ⟨(some 45), (some (44, true)), .faddr 1 (.t 10), []⟩,
    ⟨(some 46), (some (44, true)), .load 1 false (.t 45), []⟩,
    ⟨(some 47), (some (44, true)), .faddr 3 (.t 4), []⟩,
    ⟨(some 48), (some (44, true)), .load 1 false (.t 47), []⟩,
    ⟨(some 49), (some (44, true)), .mnmx true (.t 48) [.c (.int .i64 1)], []⟩,
    ⟨(some 50), (some (44, true)), .bin .lss (.t 46) (.t 49), []⟩,
    o 51 (.pick (.t 44) (.t 50) (.c (.bool false))),
    o 52 (.faddr 2 (.t 10)),
    ⟨none, none, .store 1 (.t 52) (.t 51), []⟩] false)
  (.seq (.reg [o 53 (.load 4 true (.t 10)),
    ⟨none, none, .store 4 (.t 8) (.t 53), []⟩] false)
  (.ret)))))))
def probe_Step : IFn := ⟨4, 54, [.cell 8 4 true], false, probe_Step_c⟩

/-- function 17: orchestrator/ orchestratorref34.Step -/
def ref34_Step_c : IR :=
  .seq (.reg [o 4 (.box 4 (.t 0)),
    o 5 (.box 4 (.t 1)),
    o 8 (.zero [.int .i64 0, .int .i64 0, .bool false, .int .i64 0])] false)
  (.seq (.reg [o 10 (.faddr 2 (.t 5)),
    ob 11 (.load 1 false (.t 10)) [0],
    o 12 (.mov (.t 3)),
    ob 13 (.call false (.f 29) [.t 12]) [2],
    o 14 (.faddr 1 (.t 4)),
    ob 15 (.load 1 false (.t 14)) [4],
    ob 16 (.call false (.f 29) [.t 15]) [2, 3, 4, 5],
    ob 17 (.mnmx true (.t 16) [.c (.int .i64 1)]) (rg 2 7),
    ob 18 (.bin .add (.t 13) (.t 17)) (rg 2 8),
    ob 19 (.call false (.f 29) [.t 18]) (rg 2 9),
    ob 20 (.build [.int .i64 0, .int .i64 0, .bool false, .int .i64 0] [(2, 1, .t 11), (3, 1, .t 19)]) (rg 0 10),
    o 9 (.zero [.int .i64 0, .int .i64 0, .bool false, .int .i64 0]),
    ⟨none, none, .store 4 (.t 9) (.t 20), (rg 0 12)⟩] true)
  (.seq (.seq (.reg [o 21 (.mov (.t 2))] false)
    (.cond (.t 21) (.seq (.reg [o 22 (.faddr 0 (.t 5)),
        o 23 (.load 1 false (.t 22)),
        o 24 (.call false (.f 31) [.t 23, .c (.int .i64 0), .c (.int .i64 1000000000000000)]),
        o 25 (.bin .add (.t 24) (.c (.int .i64 1))),
        o 26 (.mnmx false (.t 25) [.c (.int .i64 1000000000000000)]),
        o 27 (.faddr 0 (.t 9)),
        ⟨none, none, .store 1 (.t 27) (.t 26), []⟩] false)
      (.seq (.seq (.reg [o 28 (.faddr 0 (.t 9)),
          o 29 (.load 1 false (.t 28)),
          o 30 (.faddr 2 (.t 4)),
          o 31 (.load 1 false (.t 30)),
          o 32 (.mnmx true (.t 31) [.c (.int .i64 1)]),
          o 33 (.bin .geq (.t 29) (.t 32))] false)
        (.cond (.t 33) (.reg [o 34 (.faddr 2 (.t 9)),
          ⟨none, none, .store 1 (.t 34) (.c (.bool true)), []⟩] false)
          (.skip)))
      (.seq (.reg [o 35 (.load 4 true (.t 9)),
        ⟨none, none, .store 4 (.t 8) (.t 35), []⟩] false)
      (.ret))))
      (.skip)))
  (.seq (.reg [o 36 (.faddr 1 (.t 5)),
    o 37 (.load 1 false (.t 36)),
    o 38 (.call false (.f 31) [.t 37, .c (.int .i64 0), .c (.int .i64 1000000000000000)]),
    o 39 (.bin .add (.t 38) (.c (.int .i64 1))),
    o 40 (.mnmx false (.t 39) [.c (.int .i64 1000000000000000)]),
    o 41 (.faddr 1 (.t 9)),
    ⟨none, none, .store 1 (.t 41) (.t 40), []⟩] false)
  (.seq (.seq (.reg [o 42 (.faddr 1 (.t 9)),
      o 43 (.load 1 false (.t 42)),
      o 44 (.faddr 3 (.t 4)),
      o 45 (.load 1 false (.t 44)),
      o 46 (.mnmx true (.t 45) [.c (.int .i64 1)]),
      o 47 (.bin .geq (.t 43) (.t 46))] false)
    (.cond (.t 47) (.reg [o 48 (.faddr 2 (.t 9)),
      ⟨none, none, .store 1 (.t 48) (.c (.bool false)), []⟩] false)
      (.skip)))
  (.seq (.reg [o 49 (.load 4 true (.t 9)),
    ⟨none, none, .store 4 (.t 8) (.t 49), []⟩] false)
  (.ret))))))
def ref34_Step : IFn := ⟨4, 50, [.cell 8 4 true], false, ref34_Step_c⟩

/-- function 18: orchestrator/ lease.Try -/
def lease_Try_c : IR :=
  .seq (.reg [o 4 (.box 4 (.t 0)),
    o 8 (.zero [.str ⟨#[]⟩, .int .i64 0, .int .i64 0, .int .i64 0]),
    o 9 (.mov (.c (.bool false)))] false)
  (.seq (.seq (.reg [o 10 (.load 4 true (.t 4)),
      o 11 (.call false (.f 21) [.t 10]),
      o 12 (.un .not (.t 11)),
      o 13 (.mov (.t 12)),
      ⟨(some 14), (some (13, false)), .mov (.t 1), []⟩,
      ⟨(some 15), (some (13, false)), .bin .eql (.t 14) (.c (.str ⟨#[]⟩)), []⟩,
      o 16 (.pick (.t 13) (.c (.bool true)) (.t 15)),
      o 17 (.mov (.t 16)),
      ⟨(some 18), (some (17, false)), .mov (.t 1), []⟩,
      ⟨(some 19), (some (17, false)), .len true (.t 18), []⟩,
      ⟨(some 20), (some (17, false)), .bin .gtr (.t 19) (.c (.int .i64 40)), []⟩,
      o 21 (.pick (.t 17) (.c (.bool true)) (.t 20)),
      o 22 (.mov (.t 21)),
      ⟨(some 23), (some (22, false)), .mov (.t 2), []⟩,
      ⟨(some 24), (some (22, false)), .call false (.f 32) [.t 23, .c (.int .i64 1000000000000)], []⟩,
      ⟨(some 25), (some (22, false)), .un .not (.t 24), []⟩,
      o 26 (.pick (.t 22) (.c (.bool true)) (.t 25)),
      o 27 (.mov (.t 26)),
      ⟨(some 28), (some (27, false)), .mov (.t 3), []⟩,
      ⟨(some 29), (some (27, false)), .bin .lss (.t 28) (.c (.int .i64 1)), []⟩,
      o 30 (.pick (.t 27) (.c (.bool true)) (.t 29)),
      o 31 (.mov (.t 30)),
      ⟨(some 32), (some (31, false)), .mov (.t 3), []⟩,
      ⟨(some 33), (some (31, false)), .bin .gtr (.t 32) (.c (.int .i64 1000000000000)), []⟩,
      o 34 (.pick (.t 31) (.c (.bool true)) (.t 33))] false)
    (.cond (.t 34) (.seq (.reg [o 35 (.load 4 true (.t 4)),
        ⟨none, none, .store 4 (.t 8) (.t 35), []⟩,
        o 9 (.mov (.c (.bool false)))] false)
      (.ret))
      (.skip)))
  (.seq (.seq (.reg [o 36 (.faddr 0 (.t 4)),
      o 37 (.load 1 false (.t 36)),
      o 38 (.mov (.t 1)),
      o 39 (.bin .neq (.t 37) (.t 38))] false)
    (.cond (.t 39) (.seq (.seq (.reg [o 40 (.faddr 0 (.t 4)),
          o 41 (.load 1 false (.t 40)),
          o 42 (.bin .neq (.t 41) (.c (.str ⟨#[]⟩))),
          o 43 (.mov (.t 42)),
          ⟨(some 44), (some (43, true)), .mov (.t 2), []⟩,
          ⟨(some 45), (some (43, true)), .faddr 1 (.t 4), []⟩,
          ⟨(some 46), (some (43, true)), .load 1 false (.t 45), []⟩,
          ⟨(some 47), (some (43, true)), .faddr 2 (.t 4), []⟩,
          ⟨(some 48), (some (43, true)), .load 1 false (.t 47), []⟩,
          ⟨(some 49), (some (43, true)), .bin .add (.t 46) (.t 48), []⟩,
          ⟨(some 50), (some (43, true)), .bin .lss (.t 44) (.t 49), []⟩,
          o 51 (.pick (.t 43) (.t 50) (.c (.bool false)))] false)
        (.cond (.t 51) (.seq (.reg [o 52 (.load 4 true (.t 4)),
            ⟨none, none, .store 4 (.t 8) (.t 52), []⟩,
            o 9 (.mov (.c (.bool false)))] false)
          (.ret))
          (.skip)))
      (.reg [o 53 (.faddr 3 (.t 4)),
      o 54 (.load 1 false (.t 53)),
      o 55 (.bin .add (.t 54) (.c (.int .i64 1))),
      o 56 (.mnmx false (.t 55) [.c (.int .i64 1000000000000000)]),
      o 57 (.faddr 3 (.t 4)),
      ⟨none, none, .store 1 (.t 57) (.t 56), []⟩] false))
      (.skip)))
  (.seq (.reg [o 58 (.mov (.t 1)),
    o 59 (.faddr 1 (.t 4)),
    o 60 (.load 1 false (.t 59)),
    o 61 (.mov (.t 2)),
    o 62 (.mnmx true (.t 60) [.t 61]),
    o 63 (.mov (.t 3)),
    o 64 (.faddr 0 (.t 4)),
    ⟨none, none, .store 1 (.t 64) (.t 58), []⟩,
    o 65 (.faddr 1 (.t 4)),
    ⟨none, none, .store 1 (.t 65) (.t 62), []⟩,
    o 66 (.faddr 2 (.t 4)),
    ⟨none, none, .store 1 (.t 66) (.t 63), []⟩] false)
  (.seq (.reg [o 67 (.load 4 true (.t 4)),
    ⟨none, none, .store 4 (.t 8) (.t 67), []⟩,
    o 9 (.mov (.c (.bool true)))] false)
  (.ret)))))
def lease_Try : IFn := ⟨4, 68, [.cell 8 4 true, .tmp 9], false, lease_Try_c⟩

/-- function 19: orchestrator/ orchestratorref29.Try -/
def ref29_Try_c : IR :=
  .seq (.reg [o 4 (.box 4 (.t 0)),
    o 8 (.zero [.str ⟨#[]⟩, .int .i64 0, .int .i64 0, .int .i64 0]),
    o 9 (.mov (.c (.bool false)))] false)
  (.seq (.seq (.reg [o 11 (.load 4 true (.t 4)),
      o 12 (.call false (.f 22) [.t 11]),
      o 13 (.un .not (.t 12)),
      o 14 (.mov (.t 13)),
      ⟨(some 15), (some (14, false)), .mov (.t 1), []⟩,
      ⟨(some 16), (some (14, false)), .bin .eql (.t 15) (.c (.str ⟨#[]⟩)), []⟩,
      o 17 (.pick (.t 14) (.c (.bool true)) (.t 16)),
      o 18 (.mov (.t 17)),
      ⟨(some 19), (some (18, false)), .mov (.t 1), []⟩,
      ⟨(some 20), (some (18, false)), .len true (.t 19), []⟩,
      ⟨(some 21), (some (18, false)), .bin .gtr (.t 20) (.c (.int .i64 40)), []⟩,
      o 22 (.pick (.t 18) (.c (.bool true)) (.t 21)),
      o 23 (.mov (.t 22)),
      ⟨(some 24), (some (23, false)), .mov (.t 2), []⟩,
      ⟨(some 25), (some (23, false)), .bin .lss (.t 24) (.c (.int .i64 0)), []⟩,
      o 26 (.pick (.t 23) (.c (.bool true)) (.t 25)),
      o 27 (.mov (.t 26)),
      ⟨(some 28), (some (27, false)), .mov (.t 2), []⟩,
      ⟨(some 29), (some (27, false)), .bin .gtr (.t 28) (.c (.int .i64 1000000000000)), []⟩,
      o 30 (.pick (.t 27) (.c (.bool true)) (.t 29)),
      o 31 (.mov (.t 30)),
      ⟨(some 32), (some (31, false)), .mov (.t 3), []⟩,
      ⟨(some 33), (some (31, false)), .bin .lss (.t 32) (.c (.int .i64 1)), []⟩,
      o 34 (.pick (.t 31) (.c (.bool true)) (.t 33)),
      o 35 (.mov (.t 34)),
      ⟨(some 36), (some (35, false)), .mov (.t 3), []⟩,
      ⟨(some 37), (some (35, false)), .bin .gtr (.t 36) (.c (.int .i64 1000000000000)), []⟩,
      o 38 (.pick (.t 35) (.c (.bool true)) (.t 37))] false)
    (.cond (.t 38) (.seq (.reg [o 39 (.load 4 true (.t 4)),
        ⟨none, none, .store 4 (.t 8) (.t 39), []⟩,
        o 9 (.mov (.c (.bool false)))] false)
      (.ret))
      (.skip)))
  (.seq (.seq (.reg [o 40 (.faddr 0 (.t 4)),
      o 41 (.load 1 false (.t 40)),
      o 42 (.bin .neq (.t 41) (.c (.str ⟨#[]⟩))),
      o 43 (.mov (.t 42)),
      ⟨(some 44), (some (43, true)), .faddr 0 (.t 4), []⟩,
      ⟨(some 45), (some (43, true)), .load 1 false (.t 44), []⟩,
      ⟨(some 46), (some (43, true)), .mov (.t 1), []⟩,
      ⟨(some 47), (some (43, true)), .bin .neq (.t 45) (.t 46), []⟩,
      o 48 (.pick (.t 43) (.t 47) (.c (.bool false))),
      o 49 (.mov (.t 48)),
      ⟨(some 50), (some (49, true)), .mov (.t 2), []⟩,
      ⟨(some 51), (some (49, true)), .faddr 1 (.t 4), []⟩,
      ⟨(some 52), (some (49, true)), .load 1 false (.t 51), []⟩,
      ⟨(some 53), (some (49, true)), .faddr 2 (.t 4), []⟩,
      ⟨(some 54), (some (49, true)), .load 1 false (.t 53), []⟩,
      ⟨(some 55), (some (49, true)), .bin .add (.t 52) (.t 54), []⟩,
      ⟨(some 56), (some (49, true)), .bin .lss (.t 50) (.t 55), []⟩,
      o 57 (.pick (.t 49) (.t 56) (.c (.bool false)))] false)
    (.cond (.t 57) (.seq (.reg [o 58 (.load 4 true (.t 4)),
        ⟨none, none, .store 4 (.t 8) (.t 58), []⟩,
        o 9 (.mov (.c (.bool false)))] false)
      (.ret))
      (.skip)))
  (.seq (.reg [o 59 (.mov (.t 1)),
    o 60 (.faddr 1 (.t 4)),
    o 61 (.load 1 false (.t 60)),
    o 62 (.mov (.t 2)),
    o 63 (.mnmx true (.t 61) [.t 62]),
    o 64 (.mov (.t 3)),
    o 65 (.faddr 3 (.t 4)),
    o 66 (.load 1 false (.t 65)),
    o 67 (.build [.str ⟨#[]⟩, .int .i64 0, .int .i64 0, .int .i64 0] [(0, 1, .t 59), (1, 1, .t 63), (2, 1, .t 64), (3, 1, .t 66)]),
    o 10 (.zero [.str ⟨#[]⟩, .int .i64 0, .int .i64 0, .int .i64 0]),
    ⟨none, none, .store 4 (.t 10) (.t 67), []⟩] false)
  (.seq (.seq (.reg [o 68 (.faddr 0 (.t 4)),
      o 69 (.load 1 false (.t 68)),
      o 70 (.mov (.t 1)),
      o 71 (.bin .neq (.t 69) (.t 70))] false)
    (.cond (.t 71) (.reg [o 72 (.faddr 3 (.t 4)),
      o 73 (.load 1 false (.t 72)),
      o 74 (.bin .add (.t 73) (.c (.int .i64 1))),
      o 75 (.mnmx false (.c (.int .i64 1000000000000000)) [.t 74]),
      o 76 (.faddr 3 (.t 10)),
      ⟨none, none, .store 1 (.t 76) (.t 75), []⟩] false)
      (.skip)))
  (.seq (.reg [o 77 (.load 4 true (.t 10)),
    ⟨none, none, .store 4 (.t 8) (.t 77), []⟩,
    o 9 (.mov (.c (.bool true)))] false)
  (.ret))))))
def ref29_Try : IFn := ⟨4, 78, [.cell 8 4 true, .tmp 9], false, ref29_Try_c⟩

/-- function 20: orchestrator/ orchestratorlaw29.lives -/
def law29_lives_c : IR :=
  .seq (.reg [o 0 (.mov (.c (.bool false)))] false)
  (.seq (.reg [o 10 (.build [.str ⟨#[]⟩, .int .i64 0, .int .i64 0, .int .i64 0] []),
    o 11 (.call false (.f 18) [.t 10, .c (.str ⟨#[97]⟩), .c (.int .i64 5), .c (.int .i64 10)]),
    o 9 (.mov (.t 11)),
    o 12 (.extract (.t 9) 0),
    o 13 (.extract (.t 9) 1),
    o 1 (.zero [.str ⟨#[]⟩, .int .i64 0, .int .i64 0, .int .i64 0]),
    ⟨none, none, .store 4 (.t 1) (.t 12), []⟩,
    o 2 (.mov (.t 13))] false)
  (.seq (.reg [o 15 (.load 4 true (.t 1)),
    o 16 (.call false (.f 18) [.t 15, .c (.str ⟨#[98]⟩), .c (.int .i64 14), .c (.int .i64 10)]),
    o 14 (.mov (.t 16)),
    o 17 (.extract (.t 14) 0),
    o 18 (.extract (.t 14) 1),
    o 3 (.zero [.str ⟨#[]⟩, .int .i64 0, .int .i64 0, .int .i64 0]),
    ⟨none, none, .store 4 (.t 3) (.t 17), []⟩,
    o 4 (.mov (.t 18))] false)
  (.seq (.reg [o 20 (.load 4 true (.t 1)),
    o 21 (.call false (.f 18) [.t 20, .c (.str ⟨#[98]⟩), .c (.int .i64 15), .c (.int .i64 10)]),
    o 19 (.mov (.t 21)),
    o 22 (.extract (.t 19) 0),
    o 23 (.extract (.t 19) 1),
    o 5 (.zero [.str ⟨#[]⟩, .int .i64 0, .int .i64 0, .int .i64 0]),
    ⟨none, none, .store 4 (.t 5) (.t 22), []⟩,
    o 6 (.mov (.t 23))] false)
  (.seq (.reg [o 25 (.load 4 true (.t 1)),
    o 26 (.call false (.f 18) [.t 25, .c (.str ⟨#[97]⟩), .c (.int .i64 3), .c (.int .i64 4)]),
    o 24 (.mov (.t 26)),
    o 27 (.extract (.t 24) 0),
    o 28 (.extract (.t 24) 1),
    o 7 (.zero [.str ⟨#[]⟩, .int .i64 0, .int .i64 0, .int .i64 0]),
    ⟨none, none, .store 4 (.t 7) (.t 27), []⟩,
    o 8 (.mov (.t 28))] false)
  (.seq (.reg [o 29 (.mov (.t 2)),
    o 30 (.mov (.t 29)),
    ⟨(some 31), (some (30, true)), .load 4 true (.t 1), []⟩,
    ⟨(some 32), (some (30, true)), .build [.str ⟨#[]⟩, .int .i64 0, .int .i64 0, .int .i64 0] [(0, 1, .c (.str ⟨#[97]⟩)), (1, 1, .c (.int .i64 5)), (2, 1, .c (.int .i64 10)), (3, 1, .c (.int .i64 1))], []⟩,
    ⟨(some 33), (some (30, true)), .eqs (.st [(0, 1, .str), (1, 1, .int), (2, 1, .int), (3, 1, .int)]) false (.t 31) (.t 32), []⟩,
    o 34 (.pick (.t 30) (.t 33) (.c (.bool false))),
    o 35 (.mov (.t 34)),
    ⟨(some 36), (some (35, true)), .mov (.t 4), []⟩,
    ⟨(some 37), (some (35, true)), .un .not (.t 36), []⟩,
    o 38 (.pick (.t 35) (.t 37) (.c (.bool false))),
    o 39 (.mov (.t 38)),
    ⟨(some 40), (some (39, true)), .mov (.t 6), []⟩,
    o 41 (.pick (.t 39) (.t 40) (.c (.bool false))),
    o 42 (.mov (.t 41)),
    ⟨(some 43), (some (42, true)), .load 4 true (.t 5), []⟩,
    ⟨(some 44), (some (42, true)), .build [.str ⟨#[]⟩, .int .i64 0, .int .i64 0, .int .i64 0] [(0, 1, .c (.str ⟨#[98]⟩)), (1, 1, .c (.int .i64 15)), (2, 1, .c (.int .i64 10)), (3, 1, .c (.int .i64 2))], []⟩,
    ⟨(some 45), (some (42, true)), .eqs (.st [(0, 1, .str), (1, 1, .int), (2, 1, .int), (3, 1, .int)]) false (.t 43) (.t 44), []⟩,
    o 46 (.pick (.t 42) (.t 45) (.c (.bool false))),
    o 47 (.mov (.t 46)),
    ⟨(some 48), (some (47, true)), .mov (.t 8), []⟩,
    o 49 (.pick (.t 47) (.t 48) (.c (.bool false))),
    o 50 (.mov (.t 49)),
    ⟨(some 51), (some (50, true)), .load 4 true (.t 7), []⟩,
    ⟨(some 52), (some (50, true)), .build [.str ⟨#[]⟩, .int .i64 0, .int .i64 0, .int .i64 0] [(0, 1, .c (.str ⟨#[97]⟩)), (1, 1, .c (.int .i64 5)), (2, 1, .c (.int .i64 4)), (3, 1, .c (.int .i64 1))], []⟩,
    ⟨(some 53), (some (50, true)), .eqs (.st [(0, 1, .str), (1, 1, .int), (2, 1, .int), (3, 1, .int)]) false (.t 51) (.t 52), []⟩,
    o 54 (.pick (.t 50) (.t 53) (.c (.bool false))),
    o 55 (.mov (.t 54)),
    ⟨(some 56), (some (55, true)), .load 4 true (.t 1), []⟩,
    ⟨(some 57), (some (55, true)), .call false (.f 23) [.t 56, .c (.str ⟨#[97]⟩), .c (.int .i64 14)], []⟩,
    o 58 (.pick (.t 55) (.t 57) (.c (.bool false))),
    o 59 (.mov (.t 58)),
    ⟨(some 60), (some (59, true)), .load 4 true (.t 1), []⟩,
    ⟨(some 61), (some (59, true)), .call false (.f 23) [.t 60, .c (.str ⟨#[97]⟩), .c (.int .i64 15)], []⟩,
    ⟨(some 62), (some (59, true)), .un .not (.t 61), []⟩,
    o 63 (.pick (.t 59) (.t 62) (.c (.bool false))),
    o 64 (.mov (.t 63)),
    ⟨(some 65), (some (64, true)), .load 4 true (.t 1), []⟩,
    ⟨(some 66), (some (64, true)), .call false (.f 25) [.t 65, .c (.str ⟨#[97]⟩)], []⟩,
    ⟨(some 67), (some (64, true)), .field 0 1 false (.t 66), []⟩,
    ⟨(some 68), (some (64, true)), .bin .eql (.t 67) (.c (.str ⟨#[]⟩)), []⟩,
    o 69 (.pick (.t 64) (.t 68) (.c (.bool false))),
    o 70 (.mov (.t 69)),
    ⟨(some 71), (some (70, true)), .load 4 true (.t 1), []⟩,
    ⟨(some 72), (some (70, true)), .call false (.f 21) [.t 71], []⟩,
    o 73 (.pick (.t 70) (.t 72) (.c (.bool false))),
    o 0 (.mov (.t 73))] false)
  (.ret))))))
def law29_lives : IFn := ⟨0, 74, [.tmp 0], false, law29_lives_c⟩

/-- function 21: orchestrator/ lease.Valid -/
def lease_Valid_c : IR :=
  .seq (.reg [o 1 (.box 4 (.t 0)),
    o 2 (.mov (.c (.bool false)))] false)
  (.seq (.reg [o 3 (.faddr 0 (.t 1)),
    o 4 (.load 1 false (.t 3)),
    o 5 (.len true (.t 4)),
    o 6 (.bin .leq (.t 5) (.c (.int .i64 40))),
    o 7 (.mov (.t 6)),
    ⟨(some 8), (some (7, true)), .faddr 1 (.t 1), []⟩,
    ⟨(some 9), (some (7, true)), .load 1 false (.t 8), []⟩,
    ⟨(some 10), (some (7, true)), .call false (.f 32) [.t 9, .c (.int .i64 1000000000000)], []⟩,
    o 11 (.pick (.t 7) (.t 10) (.c (.bool false))),
    o 12 (.mov (.t 11)),
    ⟨(some 13), (some (12, true)), .faddr 2 (.t 1), []⟩,
    ⟨(some 14), (some (12, true)), .load 1 false (.t 13), []⟩,
    ⟨(some 15), (some (12, true)), .call false (.f 32) [.t 14, .c (.int .i64 1000000000000)], []⟩,
    o 16 (.pick (.t 12) (.t 15) (.c (.bool false))),
    o 17 (.mov (.t 16)),
    ⟨(some 18), (some (17, true)), .faddr 3 (.t 1), []⟩,
    ⟨(some 19), (some (17, true)), .load 1 false (.t 18), []⟩,
    ⟨(some 20), (some (17, true)), .call false (.f 32) [.t 19, .c (.int .i64 1000000000000000)], []⟩,
    o 21 (.pick (.t 17) (.t 20) (.c (.bool false))),
    o 2 (.mov (.t 21))] false)
  (.ret))
def lease_Valid : IFn := ⟨1, 22, [.tmp 2], false, lease_Valid_c⟩

/-- function 22: orchestrator/ orchestratorref29.Valid -/
def ref29_Valid_c : IR :=
  .seq (.reg [o 1 (.box 4 (.t 0)),
    o 2 (.mov (.c (.bool false)))] false)
  (.seq (.reg [o 3 (.faddr 0 (.t 1)),
    o 4 (.load 1 false (.t 3)),
    o 5 (.len true (.t 4)),
    o 6 (.bin .leq (.t 5) (.c (.int .i64 40))),
    o 7 (.mov (.t 6)),
    ⟨(some 8), (some (7, true)), .faddr 1 (.t 1), []⟩,
    ⟨(some 9), (some (7, true)), .load 1 false (.t 8), []⟩,
    ⟨(some 10), (some (7, true)), .bin .geq (.t 9) (.c (.int .i64 0)), []⟩,
    o 11 (.pick (.t 7) (.t 10) (.c (.bool false))),
    o 12 (.mov (.t 11)),
    ⟨(some 13), (some (12, true)), .faddr 1 (.t 1), []⟩,
    ⟨(some 14), (some (12, true)), .load 1 false (.t 13), []⟩,
    ⟨(some 15), (some (12, true)), .bin .leq (.t 14) (.c (.int .i64 1000000000000)), []⟩,
    o 16 (.pick (.t 12) (.t 15) (.c (.bool false))),
    o 17 (.mov (.t 16)),
    ⟨(some 18), (some (17, true)), .faddr 2 (.t 1), []⟩,
    ⟨(some 19), (some (17, true)), .load 1 false (.t 18), []⟩,
    ⟨(some 20), (some (17, true)), .bin .geq (.t 19) (.c (.int .i64 0)), []⟩,
    o 21 (.pick (.t 17) (.t 20) (.c (.bool false))),
    o 22 (.mov (.t 21)),
    ⟨(some 23), (some (22, true)), .faddr 2 (.t 1), []⟩,
    ⟨(some 24), (some (22, true)), .load 1 false (.t 23), []⟩,
    ⟨(some 25), (some (22, true)), .bin .leq (.t 24) (.c (.int .i64 1000000000000)), []⟩,
    o 26 (.pick (.t 22) (.t 25) (.c (.bool false))),
    o 27 (.mov (.t 26)),
    ⟨(some 28), (some (27, true)), .faddr 3 (.t 1), []⟩,
    ⟨(some 29), (some (27, true)), .load 1 false (.t 28), []⟩,
    ⟨(some 30), (some (27, true)), .bin .geq (.t 29) (.c (.int .i64 0)), []⟩,
    o 31 (.pick (.t 27) (.t 30) (.c (.bool false))),
    o 32 (.mov (.t 31)),
    ⟨(some 33), (some (32, true)), .faddr 3 (.t 1), []⟩,
    ⟨(some 34), (some (32, true)), .load 1 false (.t 33), []⟩,
    ⟨(some 35), (some (32, true)), .bin .leq (.t 34) (.c (.int .i64 1000000000000000)), []⟩,
    o 36 (.pick (.t 32) (.t 35) (.c (.bool false))),
    o 2 (.mov (.t 36))] false)
  (.ret))
def ref29_Valid : IFn := ⟨1, 37, [.tmp 2], false, ref29_Valid_c⟩

/-- function 23: orchestrator/ lease.Holds -/
def lease_Holds_c : IR :=
  .seq (.reg [o 3 (.box 4 (.t 0)),
    o 6 (.mov (.c (.bool false)))] false)
  (.seq (.reg [o 7 (.load 4 true (.t 3)),
    o 8 (.call false (.f 21) [.t 7]),
    o 9 (.mov (.t 8)),
    ⟨(some 10), (some (9, true)), .mov (.t 1), []⟩,
    ⟨(some 11), (some (9, true)), .bin .neq (.t 10) (.c (.str ⟨#[]⟩)), []⟩,
    o 12 (.pick (.t 9) (.t 11) (.c (.bool false))),
    o 13 (.mov (.t 12)),
    ⟨(some 14), (some (13, true)), .faddr 0 (.t 3), []⟩,
    ⟨(some 15), (some (13, true)), .load 1 false (.t 14), []⟩,
    ⟨(some 16), (some (13, true)), .mov (.t 1), []⟩,
    ⟨(some 17), (some (13, true)), .bin .eql (.t 15) (.t 16), []⟩,
    o 18 (.pick (.t 13) (.t 17) (.c (.bool false))),
    o 19 (.mov (.t 18)),
    ⟨(some 20), (some (19, true)), .mov (.t 2), []⟩,
    ⟨(some 21), (some (19, true)), .faddr 1 (.t 3), []⟩,
    ⟨(some 22), (some (19, true)), .load 1 false (.t 21), []⟩,
    ⟨(some 23), (some (19, true)), .faddr 2 (.t 3), []⟩,
    ⟨(some 24), (some (19, true)), .load 1 false (.t 23), []⟩,
    ⟨(some 25), (some (19, true)), .bin .add (.t 22) (.t 24), []⟩,
    ⟨(some 26), (some (19, true)), .bin .lss (.t 20) (.t 25), []⟩,
    o 27 (.pick (.t 19) (.t 26) (.c (.bool false))),
    o 6 (.mov (.t 27))] false)
  (.ret))
def lease_Holds : IFn := ⟨3, 28, [.tmp 6], false, lease_Holds_c⟩

/-- function 24: orchestrator/ orchestratorref29.Holds -/
def ref29_Holds_c : IR :=
  .seq (.reg [o 3 (.box 4 (.t 0)),
    o 6 (.mov (.c (.bool false)))] false)
  (.seq (.reg [o 7 (.load 4 true (.t 3)),
    o 8 (.call false (.f 22) [.t 7]),
    o 9 (.mov (.t 8)),
    ⟨(some 10), (some (9, true)), .mov (.t 1), []⟩,
    ⟨(some 11), (some (9, true)), .bin .neq (.t 10) (.c (.str ⟨#[]⟩)), []⟩,
    o 12 (.pick (.t 9) (.t 11) (.c (.bool false))),
    o 13 (.mov (.t 12)),
    ⟨(some 14), (some (13, true)), .mov (.t 1), []⟩,
    ⟨(some 15), (some (13, true)), .faddr 0 (.t 3), []⟩,
    ⟨(some 16), (some (13, true)), .load 1 false (.t 15), []⟩,
    ⟨(some 17), (some (13, true)), .bin .eql (.t 14) (.t 16), []⟩,
    o 18 (.pick (.t 13) (.t 17) (.c (.bool false))),
    o 19 (.mov (.t 18)),
    ⟨(some 20), (some (19, true)), .mov (.t 2), []⟩,
    ⟨(some 21), (some (19, true)), .faddr 1 (.t 3), []⟩,
    ⟨(some 22), (some (19, true)), .load 1 false (.t 21), []⟩,
    ⟨(some 23), (some (19, true)), .faddr 2 (.t 3), []⟩,
    ⟨(some 24), (some (19, true)), .load 1 false (.t 23), []⟩,
    ⟨(some 25), (some (19, true)), .bin .add (.t 22) (.t 24), []⟩,
    ⟨(some 26), (some (19, true)), .bin .lss (.t 20) (.t 25), []⟩,
    o 27 (.pick (.t 19) (.t 26) (.c (.bool false))),
    o 6 (.mov (.t 27))] false)
  (.ret))
def ref29_Holds : IFn := ⟨3, 28, [.tmp 6], false, ref29_Holds_c⟩

/-- function 25: orchestrator/ lease.Release -/
def lease_Release_c : IR :=
  .seq (.reg [o 2 (.box 4 (.t 0)),
    o 4 (.zero [.str ⟨#[]⟩, .int .i64 0, .int .i64 0, .int .i64 0])] false)
  (.seq (.seq (.reg [o 5 (.load 4 true (.t 2)),
      o 6 (.call false (.f 21) [.t 5]),
      o 7 (.mov (.t 6)),
      ⟨(some 8), (some (7, true)), .mov (.t 1), []⟩,
      ⟨(some 9), (some (7, true)), .bin .neq (.t 8) (.c (.str ⟨#[]⟩)), []⟩,
      o 10 (.pick (.t 7) (.t 9) (.c (.bool false))),
      o 11 (.mov (.t 10)),
      ⟨(some 12), (some (11, true)), .faddr 0 (.t 2), []⟩,
      ⟨(some 13), (some (11, true)), .load 1 false (.t 12), []⟩,
      ⟨(some 14), (some (11, true)), .mov (.t 1), []⟩,
      ⟨(some 15), (some (11, true)), .bin .eql (.t 13) (.t 14), []⟩,
      o 16 (.pick (.t 11) (.t 15) (.c (.bool false)))] false)
    (.cond (.t 16) (.reg [o 17 (.faddr 0 (.t 2)),
      ⟨none, none, .store 1 (.t 17) (.c (.str ⟨#[]⟩)), []⟩] false)
      (.skip)))
  (.seq (.reg [o 18 (.load 4 true (.t 2)),
    ⟨none, none, .store 4 (.t 4) (.t 18), []⟩] false)
  (.ret)))
def lease_Release : IFn := ⟨2, 19, [.cell 4 4 true], false, lease_Release_c⟩

/-- function 26: orchestrator/ orchestratorref29.Release -/
def ref29_Release_c : IR :=
  .seq (.reg [o 2 (.box 4 (.t 0)),
    o 4 (.zero [.str ⟨#[]⟩, .int .i64 0, .int .i64 0, .int .i64 0])] false)
  (.seq (.seq (.reg [o 5 (.load 4 true (.t 2)),
      o 6 (.call false (.f 22) [.t 5]),
      o 7 (.mov (.t 6)),
      ⟨(some 8), (some (7, true)), .mov (.t 1), []⟩,
      ⟨(some 9), (some (7, true)), .bin .neq (.t 8) (.c (.str ⟨#[]⟩)), []⟩,
      o 10 (.pick (.t 7) (.t 9) (.c (.bool false))),
      o 11 (.mov (.t 10)),
      ⟨(some 12), (some (11, true)), .mov (.t 1), []⟩,
      ⟨(some 13), (some (11, true)), .faddr 0 (.t 2), []⟩,
      ⟨(some 14), (some (11, true)), .load 1 false (.t 13), []⟩,
      ⟨(some 15), (some (11, true)), .bin .eql (.t 12) (.t 14), []⟩,
      o 16 (.pick (.t 11) (.t 15) (.c (.bool false)))] false)
    (.cond (.t 16) (.seq (.reg [o 17 (.faddr 1 (.t 2)),
        o 18 (.load 1 false (.t 17)),
        o 19 (.faddr 2 (.t 2)),
        o 20 (.load 1 false (.t 19)),
        o 21 (.faddr 3 (.t 2)),
        o 22 (.load 1 false (.t 21)),
        o 23 (.build [.str ⟨#[]⟩, .int .i64 0, .int .i64 0, .int .i64 0] [(1, 1, .t 18), (2, 1, .t 20), (3, 1, .t 22)]),
        ⟨none, none, .store 4 (.t 4) (.t 23), []⟩] false)
      (.ret))
      (.skip)))
  (.seq (.reg [o 24 (.load 4 true (.t 2)),
    ⟨none, none, .store 4 (.t 4) (.t 24), []⟩] false)
  (.ret)))
def ref29_Release : IFn := ⟨2, 25, [.cell 4 4 true], false, ref29_Release_c⟩

/-- function 27: orchestrator/ probe.after -/
def probe_after_c : IR :=
  .seq (.reg [o 4 (.mov (.c (.int .i64 0)))] false)
  (.seq (.reg [o 5 (.mov (.t 0)),
    o 6 (.call false (.f 28) [.t 5, .c (.int .i64 0), .c (.int .i64 1000000000000)]),
    o 7 (.mov (.t 1)),
    o 8 (.bin .add (.t 6) (.t 7)),
    o 9 (.mnmx false (.t 8) [.c (.int .i64 1000000000000)]),
    o 4 (.mov (.t 9))] false)
  (.ret))
def probe_after : IFn := ⟨2, 10, [.tmp 4], false, probe_after_c⟩

/-- function 28: orchestrator/ probe.clamp -/
def probe_clamp_c : IR :=
  .seq (.reg [o 6 (.mov (.c (.int .i64 0)))] false)
  (.seq (.reg [o 7 (.mov (.t 0)),
    o 8 (.mov (.t 1)),
    o 9 (.mnmx true (.t 7) [.t 8]),
    o 10 (.mov (.t 2)),
    o 11 (.mnmx false (.t 9) [.t 10]),
    o 6 (.mov (.t 11))] false)
  (.ret))
def probe_clamp : IFn := ⟨3, 12, [.tmp 6], false, probe_clamp_c⟩

/-- function 29: orchestrator/ orchestratorref34.time -/
def ref34_time_c : IR :=
  .seq (.reg [o 2 (.mov (.c (.int .i64 0)))] false)
  (.seq (.reg [o 3 (.mov (.t 0)),
    o 4 (.call false (.f 31) [.t 3, .c (.int .i64 0), .c (.int .i64 1000000000000)]),
    o 2 (.mov (.t 4))] false)
  (.ret))
def ref34_time : IFn := ⟨1, 5, [.tmp 2], false, ref34_time_c⟩

/-- function 30: orchestrator/ probe.Step$1 -/
def probe_Step_1_c : IR :=
  .seq (.reg [o 2 (.mov (.c (.int .i64 0)))] false)
  (.seq (.reg [o 3 (.mov (.t 0)),
    o 4 (.call false (.f 28) [.t 3, .c (.int .i64 0), .c (.int .i64 1000000000000000)]),
    o 5 (.bin .add (.t 4) (.c (.int .i64 1))),
    o 6 (.mnmx false (.t 5) [.c (.int .i64 1000000000000000)]),
    o 2 (.mov (.t 6))] false)
  (.ret))
def probe_Step_1 : IFn := ⟨1, 7, [.tmp 2], false, probe_Step_1_c⟩

/-- function 31: orchestrator/ orchestratorref01.Clamp -/
def ref01_Clamp_c : IR :=
  .seq (.reg [o 6 (.mov (.c (.int .i64 0)))] false)
  (.seq (.reg [o 7 (.mov (.t 0)),
    o 8 (.mov (.t 1)),
    o 9 (.mnmx true (.t 7) [.t 8]),
    o 10 (.mov (.t 2)),
    o 11 (.mnmx false (.t 9) [.t 10]),
    o 6 (.mov (.t 11))] false)
  (.ret))
def ref01_Clamp : IFn := ⟨3, 12, [.tmp 6], false, ref01_Clamp_c⟩

/-- function 32: orchestrator/ lease.within -/
def lease_within_c : IR :=
  .seq (.reg [o 4 (.mov (.c (.bool false)))] false)
  (.seq (.reg [o 5 (.mov (.t 0)),
    o 6 (.bin .geq (.t 5) (.c (.int .i64 0))),
    o 7 (.mov (.t 6)),
    ⟨(some 8), (some (7, true)), .mov (.t 0), []⟩,
    ⟨(some 9), (some (7, true)), .mov (.t 1), []⟩,
    ⟨(some 10), (some (7, true)), .bin .leq (.t 8) (.t 9), []⟩,
    o 11 (.pick (.t 7) (.t 10) (.c (.bool false))),
    o 4 (.mov (.t 11))] false)
  (.ret))
def lease_within : IFn := ⟨2, 12, [.tmp 4], false, lease_within_c⟩

def table : List (Nat × Fun) :=
  [(3, .ir law34_ProbeBegins),
   (4, .ir law34_ProbeSteps),
   (5, .ir law34_ProbeThresholds),
   (6, .ir law34_ProbeOne),
   (7, .ir law29_LeaseTries),
   (8, .ir law29_LeaseExclusive),
   (9, .ir law29_LeaseKeeps),
   (10, .ir law29_LeaseSwitches),
   (11, .ir probe_Begin),
   (12, .ir ref34_Begin),
   (13, .ir probe_Due),
   (14, .ir ref34_Due),
   (15, .ir law34_awake),
   (16, .ir probe_Step),
   (17, .ir ref34_Step),
   (18, .ir lease_Try),
   (19, .ir ref29_Try),
   (20, .ir law29_lives),
   (21, .ir lease_Valid),
   (22, .ir ref29_Valid),
   (23, .ir lease_Holds),
   (24, .ir ref29_Holds),
   (25, .ir lease_Release),
   (26, .ir ref29_Release),
   (27, .ir probe_after),
   (28, .ir probe_clamp),
   (29, .ir ref34_time),
   (30, .ir probe_Step_1),
   (31, .ir ref01_Clamp),
   (32, .ir lease_within)]
end Go.Proofs.Ytgdipcoknfhobaa.Ir
