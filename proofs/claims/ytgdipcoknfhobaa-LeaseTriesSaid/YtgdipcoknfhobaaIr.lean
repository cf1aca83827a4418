/- The seat's functions as the evaluator takes them; printed by a program, checked against the given ones in YtgdipcoknfhobaaTie. -/
import Derived.Test.YtgdipcoknfhobaaPvA
namespace Go.Proofs.Ytgdipcoknfhobaa.Ir
open Go.Pv

/-- function 3: orchestrator/ orchestratorlaw34.ProbeBegins -/
def law34_ProbeBegins_c : IR :=
  .seq (.reg [⟨(some 3), none, .box 4 (.t 0), []⟩,
      ⟨(some 4), none, .box 4 (.t 1), []⟩,
      ⟨(some 6), none, .mov (.c (.bool false)), []⟩] false)
  (.seq (.reg [⟨(some 7), none, .load 4 true (.t 3), []⟩,
      ⟨(some 8), none, .mov (.t 2), []⟩,
      ⟨(some 9), none, .call false (.f 11) [.t 7, .t 8], [0, 1]⟩,
      ⟨(some 10), none, .load 4 true (.t 3), []⟩,
      ⟨(some 11), none, .mov (.t 2), []⟩,
      ⟨(some 12), none, .call false (.f 12) [.t 10, .t 11], [0, 1, 2, 3, 4]⟩,
      ⟨(some 13), none, .eqs (.st [(0, 1, .int), (1, 1, .int), (2, 1, .bool), (3, 1, .int)]) false (.t 9) (.t 12), [0, 1, 2, 3, 4, 5]⟩,
      ⟨(some 14), none, .mov (.t 13), [0, 1, 2, 3, 4, 5, 6]⟩,
      ⟨(some 15), (some (14, true)), .load 4 true (.t 4), [0, 1, 2, 3, 4, 5, 6, 7]⟩,
      ⟨(some 16), (some (14, true)), .mov (.t 2), [0, 1, 2, 3, 4, 5, 6, 7]⟩,
      ⟨(some 17), (some (14, true)), .call false (.f 13) [.t 15, .t 16], [0, 1, 2, 3, 4, 5, 6, 7, 8, 9]⟩,
      ⟨(some 18), (some (14, true)), .load 4 true (.t 4), [0, 1, 2, 3, 4, 5, 6, 7]⟩,
      ⟨(some 19), (some (14, true)), .mov (.t 2), [0, 1, 2, 3, 4, 5, 6, 7]⟩,
      ⟨(some 20), (some (14, true)), .call false (.f 14) [.t 18, .t 19], [0, 1, 2, 3, 4, 5, 6, 7, 8, 9, 10, 11, 12]⟩,
      ⟨(some 21), (some (14, true)), .eqb false (.t 17) (.t 20), [0, 1, 2, 3, 4, 5, 6, 7, 8, 9, 10, 11, 12, 13]⟩,
      ⟨(some 22), none, .pick (.t 14) (.t 21) (.c (.bool false)), [0, 1, 2, 3, 4, 5, 6, 7, 8, 9, 10, 11, 12, 13, 14]⟩,
      ⟨(some 23), none, .mov (.t 22), [0, 1, 2, 3, 4, 5, 6, 7, 8, 9, 10, 11, 12, 13, 14, 15]⟩,
      ⟨(some 24), (some (23, true)), .call false (.f 15) [], [0, 1, 2, 3, 4, 5, 6, 7, 8, 9, 10, 11, 12, 13, 14, 15, 16]⟩,
      ⟨(some 25), none, .pick (.t 23) (.t 24) (.c (.bool false)), [0, 1, 2, 3, 4, 5, 6, 7, 8, 9, 10, 11, 12, 13, 14, 15, 16, 17]⟩,
      ⟨(some 6), none, .mov (.t 25), [0, 1, 2, 3, 4, 5, 6, 7, 8, 9, 10, 11, 12, 13, 14, 15, 16, 17, 18]⟩] true)
  (.ret))
def law34_ProbeBegins : IFn := ⟨3, 26, [.tmp 6], false, law34_ProbeBegins_c⟩

/-- function 4: orchestrator/ orchestratorlaw34.ProbeSteps -/
def law34_ProbeSteps_c : IR :=
  .seq (.reg [⟨(some 4), none, .box 4 (.t 0), []⟩,
      ⟨(some 5), none, .box 4 (.t 1), []⟩,
      ⟨(some 8), none, .mov (.c (.bool false)), []⟩] false)
  (.seq (.reg [⟨(some 9), none, .load 4 true (.t 4), []⟩,
      ⟨(some 10), none, .load 4 true (.t 5), []⟩,
      ⟨(some 11), none, .mov (.t 2), []⟩,
      ⟨(some 12), none, .mov (.t 3), []⟩,
      ⟨(some 13), none, .call false (.f 16) [.t 9, .t 10, .t 11, .t 12], [0, 1, 2, 3]⟩,
      ⟨(some 14), none, .load 4 true (.t 4), []⟩,
      ⟨(some 15), none, .load 4 true (.t 5), []⟩,
      ⟨(some 16), none, .mov (.t 2), []⟩,
      ⟨(some 17), none, .mov (.t 3), []⟩,
      ⟨(some 18), none, .call false (.f 17) [.t 14, .t 15, .t 16, .t 17], [0, 1, 2, 3, 4, 5, 6, 7, 8]⟩,
      ⟨(some 19), none, .eqs (.st [(0, 1, .int), (1, 1, .int), (2, 1, .bool), (3, 1, .int)]) false (.t 13) (.t 18), [0, 1, 2, 3, 4, 5, 6, 7, 8, 9]⟩,
      ⟨(some 20), none, .mov (.t 19), [0, 1, 2, 3, 4, 5, 6, 7, 8, 9, 10]⟩,
      ⟨(some 21), (some (20, true)), .call false (.f 15) [], [0, 1, 2, 3, 4, 5, 6, 7, 8, 9, 10, 11]⟩,
      ⟨(some 22), none, .pick (.t 20) (.t 21) (.c (.bool false)), [0, 1, 2, 3, 4, 5, 6, 7, 8, 9, 10, 11, 12]⟩,
      ⟨(some 8), none, .mov (.t 22), [0, 1, 2, 3, 4, 5, 6, 7, 8, 9, 10, 11, 12, 13]⟩] true)
  (.ret))
def law34_ProbeSteps : IFn := ⟨4, 23, [.tmp 8], false, law34_ProbeSteps_c⟩

/-- function 5: orchestrator/ orchestratorlaw34.ProbeThresholds -/
def law34_ProbeThresholds_b0_live : List Nat := [100001, 1, 2, 5, 6, 7, 8]
def law34_ProbeThresholds_b0 : IR :=
  .seq (.seq (.reg [⟨(some 15), none, .mov (.t 8), []⟩,
          ⟨(some 16), none, .mov (.t 1), []⟩,
          ⟨(some 17), none, .len false (.t 16), []⟩,
          ⟨(some 18), none, .bin .lss (.t 15) (.t 17), []⟩] false)
      (.cond (.t 18) (.skip)
        (.exit 0)))
    (.seq (.block 1 (.seq (.seq (.reg [⟨(some 21), none, .mov (.t 8), []⟩,
              ⟨(some 22), none, .bin .gtr (.t 21) (.c (.int .i64 0)), [0]⟩,
              ⟨(some 23), none, .mov (.t 22), [0, 1]⟩,
              ⟨(some 24), (some (23, true)), .mov (.t 1), [0, 1, 2]⟩,
              ⟨(some 25), (some (23, true)), .mov (.t 8), [0, 1, 2]⟩,
              ⟨(some 26), (some (23, true)), .iaddr 1 (.t 24) (.t 25), [0, 1, 2, 3, 4]⟩,
              ⟨(some 27), (some (23, true)), .load 1 false (.t 26), [0, 1, 2, 3, 4, 5]⟩,
              ⟨(some 28), (some (23, true)), .mov (.t 1), [0, 1, 2]⟩,
              ⟨(some 29), (some (23, true)), .mov (.t 8), [0, 1, 2]⟩,
              ⟨(some 30), (some (23, true)), .bin .sub (.t 29) (.c (.int .i64 1)), [0, 1, 2, 8]⟩,
              ⟨(some 31), (some (23, true)), .iaddr 1 (.t 28) (.t 30), [0, 1, 2, 7, 8, 9]⟩,
              ⟨(some 32), (some (23, true)), .load 1 false (.t 31), [0, 1, 2, 7, 8, 9, 10]⟩,
              ⟨(some 33), (some (23, true)), .eqb true (.t 27) (.t 32), [0, 1, 2, 3, 4, 5, 6, 7, 8, 9, 10, 11]⟩,
              ⟨(some 34), none, .pick (.t 23) (.t 33) (.c (.bool false)), [0, 1, 2, 3, 4, 5, 6, 7, 8, 9, 10, 11, 12]⟩] true)
          (.cond (.t 34) (.reg [⟨(some 6), none, .mov (.c (.int .i64 0)), []⟩] false)
            (.skip)))
        (.seq (.reg [⟨(some 35), none, .mov (.t 6), []⟩,
            ⟨(some 36), none, .bin .add (.t 35) (.c (.int .i64 1)), []⟩,
            ⟨(some 6), none, .mov (.t 36), []⟩] false)
        (.seq (.seq (.reg [⟨(some 37), none, .mov (.t 1), []⟩,
              ⟨(some 38), none, .mov (.t 8), []⟩,
              ⟨(some 39), none, .iaddr 1 (.t 37) (.t 38), []⟩,
              ⟨(some 40), none, .load 1 false (.t 39), []⟩,
              ⟨(some 41), none, .mov (.t 40), []⟩,
              ⟨(some 42), (some (41, true)), .mov (.t 6), []⟩,
              ⟨(some 43), (some (41, true)), .faddr 2 (.t 2), []⟩,
              ⟨(some 44), (some (41, true)), .load 1 false (.t 43), []⟩,
              ⟨(some 45), (some (41, true)), .mnmx true (.t 44) [.c (.int .i64 1)], []⟩,
              ⟨(some 46), (some (41, true)), .bin .geq (.t 42) (.t 45), []⟩,
              ⟨(some 47), none, .pick (.t 41) (.t 46) (.c (.bool false)), []⟩] false)
          (.cond (.t 47) (.reg [⟨(some 7), none, .mov (.c (.bool true)), []⟩] false)
            (.skip)))
        (.seq (.seq (.reg [⟨(some 48), none, .mov (.t 1), []⟩,
              ⟨(some 49), none, .mov (.t 8), []⟩,
              ⟨(some 50), none, .iaddr 1 (.t 48) (.t 49), []⟩,
              ⟨(some 51), none, .load 1 false (.t 50), []⟩,
              ⟨(some 52), none, .un .not (.t 51), []⟩,
              ⟨(some 53), none, .mov (.t 52), []⟩,
              ⟨(some 54), (some (53, true)), .mov (.t 6), []⟩,
              ⟨(some 55), (some (53, true)), .faddr 3 (.t 2), []⟩,
              ⟨(some 56), (some (53, true)), .load 1 false (.t 55), []⟩,
              ⟨(some 57), (some (53, true)), .mnmx true (.t 56) [.c (.int .i64 1)], []⟩,
              ⟨(some 58), (some (53, true)), .bin .geq (.t 54) (.t 57), []⟩,
              ⟨(some 59), none, .pick (.t 53) (.t 58) (.c (.bool false)), []⟩] false)
          (.cond (.t 59) (.reg [⟨(some 7), none, .mov (.c (.bool false)), []⟩] false)
            (.skip)))
        (.seq (.reg [⟨(some 60), none, .load 4 true (.t 2), []⟩,
            ⟨(some 61), none, .load 4 true (.t 5), []⟩,
            ⟨(some 62), none, .mov (.t 1), []⟩,
            ⟨(some 63), none, .mov (.t 8), []⟩,
            ⟨(some 64), none, .iaddr 1 (.t 62) (.t 63), [2, 3]⟩,
            ⟨(some 65), none, .load 1 false (.t 64), [2, 3, 4]⟩,
            ⟨(some 66), none, .mov (.t 8), []⟩,
            ⟨(some 67), none, .call false (.f 16) [.t 60, .t 61, .t 65, .t 66], [0, 1, 2, 3, 4, 5, 6]⟩,
            ⟨none, none, .store 4 (.t 5) (.t 67), [0, 1, 2, 3, 4, 5, 6, 7]⟩] true)
        (.seq (.reg [⟨(some 68), none, .faddr 2 (.t 5), []⟩,
            ⟨(some 69), none, .load 1 false (.t 68), []⟩,
            ⟨(some 70), none, .mov (.t 7), []⟩,
            ⟨(some 71), none, .eqb true (.t 69) (.t 70), []⟩] false)
        (.cond (.t 71) (.seq (.reg [⟨(some 4), none, .mov (.c (.bool false)), []⟩] false)
          (.ret))
          (.skip)))))))))
    (.reg [⟨(some 19), none, .mov (.t 8), []⟩,
      ⟨(some 20), none, .bin .add (.t 19) (.c (.int .i64 1)), []⟩,
      ⟨(some 8), none, .mov (.t 20), []⟩] false))
def law34_ProbeThresholds_c : IR :=
  .seq (.reg [⟨(some 2), none, .box 4 (.t 0), []⟩,
      ⟨(some 4), none, .mov (.c (.bool false)), []⟩] false)
  (.seq (.seq (.reg [⟨(some 9), none, .mov (.t 1), []⟩,
        ⟨(some 10), none, .len false (.t 9), []⟩,
        ⟨(some 11), none, .bin .gtr (.t 10) (.c (.int .i64 200)), []⟩] false)
    (.cond (.t 11) (.seq (.reg [⟨(some 12), none, .call false (.f 15) [], []⟩,
          ⟨(some 4), none, .mov (.t 12), []⟩] false)
      (.ret))
      (.skip)))
  (.seq (.reg [⟨(some 13), none, .load 4 true (.t 2), []⟩,
      ⟨(some 14), none, .call false (.f 11) [.t 13, .c (.int .i64 0)], []⟩,
      ⟨(some 5), none, .zero [.int .i64 0, .int .i64 0, .bool false, .int .i64 0], []⟩,
      ⟨none, none, .store 4 (.t 5) (.t 14), []⟩] false)
  (.seq (.reg [⟨(some 6), none, .mov (.c (.int .i64 0)), []⟩,
      ⟨(some 7), none, .mov (.c (.bool false)), []⟩] false)
  (.seq (.seq (.reg [⟨(some 8), none, .mov (.c (.int .i64 0)), []⟩] false)
    (.block 0 (.loop law34_ProbeThresholds_b0_live law34_ProbeThresholds_b0)))
  (.seq (.reg [⟨(some 72), none, .call false (.f 15) [], []⟩,
      ⟨(some 4), none, .mov (.t 72), []⟩] false)
  (.ret))))))
def law34_ProbeThresholds : IFn := ⟨2, 73, [.tmp 4], false, law34_ProbeThresholds_c⟩

/-- function 6: orchestrator/ orchestratorlaw34.ProbeOne -/
def law34_ProbeOne_c : IR :=
  .seq (.reg [⟨(some 4), none, .box 4 (.t 0), []⟩,
      ⟨(some 5), none, .box 4 (.t 1), []⟩,
      ⟨(some 8), none, .mov (.c (.bool false)), []⟩] false)
  (.seq (.reg [⟨(some 12), none, .mov (.t 3), []⟩,
      ⟨(some 13), none, .conv .i64 (.t 12), []⟩,
      ⟨(some 9), none, .mov (.t 13), []⟩] false)
  (.seq (.reg [⟨(some 14), none, .load 4 true (.t 4), []⟩,
      ⟨(some 15), none, .load 4 true (.t 5), []⟩,
      ⟨(some 16), none, .mov (.t 2), []⟩,
      ⟨(some 17), none, .mov (.t 9), []⟩,
      ⟨(some 18), none, .call false (.f 16) [.t 14, .t 15, .t 16, .t 17], []⟩,
      ⟨(some 10), none, .zero [.int .i64 0, .int .i64 0, .bool false, .int .i64 0], []⟩,
      ⟨none, none, .store 4 (.t 10) (.t 18), []⟩] false)
  (.seq (.reg [⟨(some 19), none, .faddr 1 (.t 4), []⟩,
      ⟨(some 20), none, .load 1 false (.t 19), []⟩,
      ⟨(some 21), none, .mnmx true (.t 20) [.c (.int .i64 1)], []⟩,
      ⟨(some 22), none, .mnmx false (.t 21) [.c (.int .i64 1000000000000)], []⟩,
      ⟨(some 11), none, .mov (.t 22), []⟩] false)
  (.seq (.seq (.reg [⟨(some 23), none, .faddr 0 (.t 10), []⟩,
        ⟨(some 24), none, .load 1 false (.t 23), []⟩,
        ⟨(some 25), none, .bin .gtr (.t 24) (.c (.int .i64 0)), []⟩,
        ⟨(some 26), none, .mov (.t 2), []⟩,
        ⟨(some 27), none, .eqb true (.t 25) (.t 26), []⟩,
        ⟨(some 28), none, .mov (.t 27), []⟩,
        ⟨(some 29), (some (28, false)), .faddr 1 (.t 10), []⟩,
        ⟨(some 30), (some (28, false)), .load 1 false (.t 29), []⟩,
        ⟨(some 31), (some (28, false)), .bin .gtr (.t 30) (.c (.int .i64 0)), []⟩,
        ⟨(some 32), (some (28, false)), .mov (.t 2), []⟩,
        ⟨(some 33), (some (28, false)), .eqb false (.t 31) (.t 32), []⟩,
        ⟨(some 34), none, .pick (.t 28) (.c (.bool true)) (.t 33), []⟩] false)
    (.cond (.t 34) (.seq (.reg [⟨(some 8), none, .mov (.c (.bool false)), []⟩] false)
      (.ret))
      (.skip)))
  (.seq (.reg [⟨(some 35), none, .mov (.t 11), []⟩,
      ⟨(some 36), none, .bin .gtr (.t 35) (.c (.int .i64 1000000)), []⟩,
      ⟨(some 37), none, .mov (.t 36), []⟩,
      ⟨(some 38), (some (37, false)), .load 4 true (.t 10), []⟩,
      ⟨(some 39), (some (37, false)), .mov (.t 9), []⟩,
      ⟨(some 40), (some (37, false)), .mov (.t 11), []⟩,
      ⟨(some 41), (some (37, false)), .bin .add (.t 39) (.t 40), []⟩,
      ⟨(some 42), (some (37, false)), .call false (.f 13) [.t 38, .t 41], []⟩,
      ⟨(some 43), (some (37, false)), .mov (.t 42), []⟩,
      ⟨(some 44), (some (43, true)), .load 4 true (.t 10), []⟩,
      ⟨(some 45), (some (43, true)), .mov (.t 9), []⟩,
      ⟨(some 46), (some (43, true)), .mov (.t 11), []⟩,
      ⟨(some 47), (some (43, true)), .bin .add (.t 45) (.t 46), []⟩,
      ⟨(some 48), (some (43, true)), .bin .sub (.t 47) (.c (.int .i64 1)), []⟩,
      ⟨(some 49), (some (43, true)), .call false (.f 13) [.t 44, .t 48], []⟩,
      ⟨(some 50), (some (43, true)), .un .not (.t 49), []⟩,
      ⟨(some 51), (some (37, false)), .pick (.t 43) (.t 50) (.c (.bool false)), []⟩,
      ⟨(some 52), none, .pick (.t 37) (.c (.bool true)) (.t 51), []⟩,
      ⟨(some 53), none, .mov (.t 52), []⟩,
      ⟨(some 54), (some (53, true)), .call false (.f 15) [], []⟩,
      ⟨(some 55), none, .pick (.t 53) (.t 54) (.c (.bool false)), []⟩,
      ⟨(some 8), none, .mov (.t 55), []⟩] false)
  (.ret))))))
def law34_ProbeOne : IFn := ⟨4, 56, [.tmp 8], false, law34_ProbeOne_c⟩

/-- function 7: orchestrator/ orchestratorlaw29.LeaseTries -/
def law29_LeaseTries_c : IR :=
  .seq (.reg [⟨(some 4), none, .box 4 (.t 0), []⟩,
      ⟨(some 8), none, .mov (.c (.bool false)), []⟩] false)
  (.seq (.reg [⟨(some 14), none, .load 4 true (.t 4), []⟩,
      ⟨(some 15), none, .mov (.t 1), []⟩,
      ⟨(some 16), none, .mov (.t 2), []⟩,
      ⟨(some 17), none, .mov (.t 3), []⟩,
      ⟨(some 18), none, .call false (.f 18) [.t 14, .t 15, .t 16, .t 17], []⟩,
      ⟨(some 13), none, .mov (.t 18), []⟩,
      ⟨(some 19), none, .extract (.t 13) 0, []⟩,
      ⟨(some 20), none, .extract (.t 13) 1, []⟩,
      ⟨(some 9), none, .zero [.str ⟨#[]⟩, .int .i64 0, .int .i64 0, .int .i64 0], []⟩,
      ⟨none, none, .store 4 (.t 9) (.t 19), []⟩,
      ⟨(some 10), none, .mov (.t 20), []⟩] false)
  (.seq (.reg [⟨(some 22), none, .load 4 true (.t 4), []⟩,
      ⟨(some 23), none, .mov (.t 1), []⟩,
      ⟨(some 24), none, .mov (.t 2), []⟩,
      ⟨(some 25), none, .mov (.t 3), []⟩,
      ⟨(some 26), none, .call false (.f 19) [.t 22, .t 23, .t 24, .t 25], []⟩,
      ⟨(some 21), none, .mov (.t 26), []⟩,
      ⟨(some 27), none, .extract (.t 21) 0, []⟩,
      ⟨(some 28), none, .extract (.t 21) 1, []⟩,
      ⟨(some 11), none, .zero [.str ⟨#[]⟩, .int .i64 0, .int .i64 0, .int .i64 0], []⟩,
      ⟨none, none, .store 4 (.t 11) (.t 27), []⟩,
      ⟨(some 12), none, .mov (.t 28), []⟩] false)
  (.seq (.reg [⟨(some 29), none, .call false (.f 20) [], []⟩,
      ⟨(some 30), none, .mov (.t 29), [0]⟩,
      ⟨(some 31), (some (30, true)), .load 4 true (.t 4), [0, 1]⟩,
      ⟨(some 32), (some (30, true)), .call false (.f 21) [.t 31], [0, 1, 2]⟩,
      ⟨(some 33), (some (30, true)), .load 4 true (.t 4), [0, 1]⟩,
      ⟨(some 34), (some (30, true)), .call false (.f 22) [.t 33], [0, 1, 2, 3, 4]⟩,
      ⟨(some 35), (some (30, true)), .eqb false (.t 32) (.t 34), [0, 1, 2, 3, 4, 5]⟩,
      ⟨(some 36), none, .pick (.t 30) (.t 35) (.c (.bool false)), [0, 1, 2, 3, 4, 5, 6]⟩,
      ⟨(some 37), none, .mov (.t 36), [0, 1, 2, 3, 4, 5, 6, 7]⟩,
      ⟨(some 38), (some (37, true)), .load 4 true (.t 9), [0, 1, 2, 3, 4, 5, 6, 7, 8]⟩,
      ⟨(some 39), (some (37, true)), .load 4 true (.t 11), [0, 1, 2, 3, 4, 5, 6, 7, 8]⟩,
      ⟨(some 40), (some (37, true)), .eqs (.st [(0, 1, .str), (1, 1, .int), (2, 1, .int), (3, 1, .int)]) false (.t 38) (.t 39), [0, 1, 2, 3, 4, 5, 6, 7, 8, 9, 10]⟩,
      ⟨(some 41), none, .pick (.t 37) (.t 40) (.c (.bool false)), [0, 1, 2, 3, 4, 5, 6, 7, 8, 9, 10, 11]⟩,
      ⟨(some 42), none, .mov (.t 41), [0, 1, 2, 3, 4, 5, 6, 7, 8, 9, 10, 11, 12]⟩,
      ⟨(some 43), (some (42, true)), .mov (.t 10), [0, 1, 2, 3, 4, 5, 6, 7, 8, 9, 10, 11, 12, 13]⟩,
      ⟨(some 44), (some (42, true)), .mov (.t 12), [0, 1, 2, 3, 4, 5, 6, 7, 8, 9, 10, 11, 12, 13]⟩,
      ⟨(some 45), (some (42, true)), .eqb false (.t 43) (.t 44), [0, 1, 2, 3, 4, 5, 6, 7, 8, 9, 10, 11, 12, 13, 14, 15]⟩,
      ⟨(some 46), none, .pick (.t 42) (.t 45) (.c (.bool false)), [0, 1, 2, 3, 4, 5, 6, 7, 8, 9, 10, 11, 12, 13, 14, 15, 16]⟩,
      ⟨(some 47), none, .mov (.t 46), [0, 1, 2, 3, 4, 5, 6, 7, 8, 9, 10, 11, 12, 13, 14, 15, 16, 17]⟩,
      ⟨(some 48), (some (47, true)), .load 4 true (.t 4), [0, 1, 2, 3, 4, 5, 6, 7, 8, 9, 10, 11, 12, 13, 14, 15, 16, 17, 18]⟩,
      ⟨(some 49), (some (47, true)), .mov (.t 1), [0, 1, 2, 3, 4, 5, 6, 7, 8, 9, 10, 11, 12, 13, 14, 15, 16, 17, 18]⟩,
      ⟨(some 50), (some (47, true)), .mov (.t 2), [0, 1, 2, 3, 4, 5, 6, 7, 8, 9, 10, 11, 12, 13, 14, 15, 16, 17, 18]⟩,
      ⟨(some 51), (some (47, true)), .call false (.f 23) [.t 48, .t 49, .t 50], [0, 1, 2, 3, 4, 5, 6, 7, 8, 9, 10, 11, 12, 13, 14, 15, 16, 17, 18, 19, 20, 21]⟩,
      ⟨(some 52), (some (47, true)), .load 4 true (.t 4), [0, 1, 2, 3, 4, 5, 6, 7, 8, 9, 10, 11, 12, 13, 14, 15, 16, 17, 18]⟩,
      ⟨(some 53), (some (47, true)), .mov (.t 1), [0, 1, 2, 3, 4, 5, 6, 7, 8, 9, 10, 11, 12, 13, 14, 15, 16, 17, 18]⟩,
      ⟨(some 54), (some (47, true)), .mov (.t 2), [0, 1, 2, 3, 4, 5, 6, 7, 8, 9, 10, 11, 12, 13, 14, 15, 16, 17, 18]⟩,
      ⟨(some 55), (some (47, true)), .call false (.f 24) [.t 52, .t 53, .t 54], [0, 1, 2, 3, 4, 5, 6, 7, 8, 9, 10, 11, 12, 13, 14, 15, 16, 17, 18, 19, 20, 21, 22, 23, 24, 25]⟩,
      ⟨(some 56), (some (47, true)), .eqb false (.t 51) (.t 55), [0, 1, 2, 3, 4, 5, 6, 7, 8, 9, 10, 11, 12, 13, 14, 15, 16, 17, 18, 19, 20, 21, 22, 23, 24, 25, 26]⟩,
      ⟨(some 57), none, .pick (.t 47) (.t 56) (.c (.bool false)), [0, 1, 2, 3, 4, 5, 6, 7, 8, 9, 10, 11, 12, 13, 14, 15, 16, 17, 18, 19, 20, 21, 22, 23, 24, 25, 26, 27]⟩,
      ⟨(some 58), none, .mov (.t 57), [0, 1, 2, 3, 4, 5, 6, 7, 8, 9, 10, 11, 12, 13, 14, 15, 16, 17, 18, 19, 20, 21, 22, 23, 24, 25, 26, 27, 28]⟩,
      ⟨(some 59), (some (58, true)), .load 4 true (.t 4), [0, 1, 2, 3, 4, 5, 6, 7, 8, 9, 10, 11, 12, 13, 14, 15, 16, 17, 18, 19, 20, 21, 22, 23, 24, 25, 26, 27, 28, 29]⟩,
      ⟨(some 60), (some (58, true)), .mov (.t 1), [0, 1, 2, 3, 4, 5, 6, 7, 8, 9, 10, 11, 12, 13, 14, 15, 16, 17, 18, 19, 20, 21, 22, 23, 24, 25, 26, 27, 28, 29]⟩,
      ⟨(some 61), (some (58, true)), .call false (.f 25) [.t 59, .t 60], [0, 1, 2, 3, 4, 5, 6, 7, 8, 9, 10, 11, 12, 13, 14, 15, 16, 17, 18, 19, 20, 21, 22, 23, 24, 25, 26, 27, 28, 29, 30, 31]⟩,
      ⟨(some 62), (some (58, true)), .load 4 true (.t 4), [0, 1, 2, 3, 4, 5, 6, 7, 8, 9, 10, 11, 12, 13, 14, 15, 16, 17, 18, 19, 20, 21, 22, 23, 24, 25, 26, 27, 28, 29]⟩,
      ⟨(some 63), (some (58, true)), .mov (.t 1), [0, 1, 2, 3, 4, 5, 6, 7, 8, 9, 10, 11, 12, 13, 14, 15, 16, 17, 18, 19, 20, 21, 22, 23, 24, 25, 26, 27, 28, 29]⟩,
      ⟨(some 64), (some (58, true)), .call false (.f 26) [.t 62, .t 63], [0, 1, 2, 3, 4, 5, 6, 7, 8, 9, 10, 11, 12, 13, 14, 15, 16, 17, 18, 19, 20, 21, 22, 23, 24, 25, 26, 27, 28, 29, 30, 31, 32, 33, 34]⟩,
      ⟨(some 65), (some (58, true)), .eqs (.st [(0, 1, .str), (1, 1, .int), (2, 1, .int), (3, 1, .int)]) false (.t 61) (.t 64), [0, 1, 2, 3, 4, 5, 6, 7, 8, 9, 10, 11, 12, 13, 14, 15, 16, 17, 18, 19, 20, 21, 22, 23, 24, 25, 26, 27, 28, 29, 30, 31, 32, 33, 34, 35]⟩,
      ⟨(some 66), none, .pick (.t 58) (.t 65) (.c (.bool false)), [0, 1, 2, 3, 4, 5, 6, 7, 8, 9, 10, 11, 12, 13, 14, 15, 16, 17, 18, 19, 20, 21, 22, 23, 24, 25, 26, 27, 28, 29, 30, 31, 32, 33, 34, 35, 36]⟩,
      ⟨(some 8), none, .mov (.t 66), [0, 1, 2, 3, 4, 5, 6, 7, 8, 9, 10, 11, 12, 13, 14, 15, 16, 17, 18, 19, 20, 21, 22, 23, 24, 25, 26, 27, 28, 29, 30, 31, 32, 33, 34, 35, 36, 37]⟩] true)
  (.ret))))
def law29_LeaseTries : IFn := ⟨4, 67, [.tmp 8], false, law29_LeaseTries_c⟩

/-- function 8: orchestrator/ orchestratorlaw29.LeaseExclusive -/
def law29_LeaseExclusive_b2_live : List Nat := [100004, 0, 1, 6, 7, 8, 9, 10, 15, 16]
def law29_LeaseExclusive_b2 : IR :=
  .seq (.seq (.reg [⟨(some 122), none, .mov (.t 16), []⟩,
          ⟨(some 123), none, .mov (.t 0), []⟩,
          ⟨(some 124), none, .len false (.t 123), []⟩,
          ⟨(some 125), none, .bin .lss (.t 122) (.t 124), []⟩] false)
      (.cond (.t 125) (.skip)
        (.exit 4)))
    (.seq (.block 5 (.seq (.reg [⟨(some 128), none, .mov (.t 7), []⟩,
            ⟨(some 129), none, .mov (.t 16), []⟩,
            ⟨(some 130), none, .iaddr 4 (.t 128) (.t 129), [0, 1]⟩,
            ⟨(some 131), none, .load 4 true (.t 130), [0, 1, 2]⟩,
            ⟨(some 132), none, .mov (.t 6), []⟩,
            ⟨(some 133), none, .mov (.t 16), []⟩,
            ⟨(some 134), none, .iaddr 1 (.t 132) (.t 133), [4, 5]⟩,
            ⟨(some 135), none, .load 1 false (.t 134), [4, 5, 6]⟩,
            ⟨(some 136), none, .mov (.t 9), []⟩,
            ⟨(some 137), none, .mov (.t 0), []⟩,
            ⟨(some 138), none, .mov (.t 16), []⟩,
            ⟨(some 139), none, .iaddr 1 (.t 137) (.t 138), [9, 10]⟩,
            ⟨(some 140), none, .load 1 false (.t 139), [9, 10, 11]⟩,
            ⟨(some 141), none, .bin .add (.t 136) (.t 140), [8, 9, 10, 11, 12]⟩,
            ⟨(some 142), none, .bin .add (.t 141) (.c (.int .i64 100)), [8, 9, 10, 11, 12, 13]⟩,
            ⟨(some 143), none, .call false (.f 23) [.t 131, .t 135, .t 142], [0, 1, 2, 3, 4, 5, 6, 7, 8, 9, 10, 11, 12, 13, 14]⟩] true)
        (.cond (.t 143) (.reg [⟨(some 144), none, .mov (.t 15), []⟩,
            ⟨(some 145), none, .bin .add (.t 144) (.c (.int .i64 1)), []⟩,
            ⟨(some 15), none, .mov (.t 145), []⟩] false)
          (.skip))))
    (.reg [⟨(some 126), none, .mov (.t 16), []⟩,
      ⟨(some 127), none, .bin .add (.t 126) (.c (.int .i64 1)), []⟩,
      ⟨(some 16), none, .mov (.t 127), []⟩] false))
def law29_LeaseExclusive_b1_live : List Nat := [100003, 0, 1, 6, 7, 8, 9, 10]
def law29_LeaseExclusive_b1 : IR :=
  .seq (.seq (.reg [⟨(some 54), none, .mov (.t 10), []⟩,
          ⟨(some 55), none, .mov (.t 1), []⟩,
          ⟨(some 56), none, .len false (.t 55), []⟩,
          ⟨(some 57), none, .bin .lss (.t 54) (.t 56), []⟩] false)
      (.cond (.t 57) (.skip)
        (.exit 2)))
    (.seq (.block 3 (.seq (.reg [⟨(some 60), none, .mov (.t 1), []⟩,
            ⟨(some 61), none, .mov (.t 10), []⟩,
            ⟨(some 62), none, .iaddr 4 (.t 60) (.t 61), []⟩,
            ⟨(some 63), none, .load 4 true (.t 62), []⟩,
            ⟨(some 11), none, .zero [.int .i64 0, .int .i64 0, .int .i64 0, .bool false], []⟩,
            ⟨none, none, .store 4 (.t 11) (.t 63), []⟩] false)
        (.seq (.seq (.reg [⟨(some 64), none, .faddr 0 (.t 11), []⟩,
              ⟨(some 65), none, .load 1 false (.t 64), []⟩,
              ⟨(some 66), none, .bin .lss (.t 65) (.c (.int .i64 0)), []⟩,
              ⟨(some 67), none, .mov (.t 66), []⟩,
              ⟨(some 68), (some (67, false)), .faddr 1 (.t 11), []⟩,
              ⟨(some 69), (some (67, false)), .load 1 false (.t 68), []⟩,
              ⟨(some 70), (some (67, false)), .bin .lss (.t 69) (.c (.int .i64 0)), []⟩,
              ⟨(some 71), none, .pick (.t 67) (.c (.bool true)) (.t 70), []⟩,
              ⟨(some 72), none, .mov (.t 71), []⟩,
              ⟨(some 73), (some (72, false)), .faddr 1 (.t 11), []⟩,
              ⟨(some 74), (some (72, false)), .load 1 false (.t 73), []⟩,
              ⟨(some 75), (some (72, false)), .bin .gtr (.t 74) (.c (.int .i64 1000)), []⟩,
              ⟨(some 76), none, .pick (.t 72) (.c (.bool true)) (.t 75), []⟩] false)
          (.cond (.t 76) (.seq (.reg [⟨(some 77), none, .call false (.f 20) [], []⟩,
                ⟨(some 4), none, .mov (.t 77), []⟩] false)
            (.ret))
            (.skip)))
        (.seq (.reg [⟨(some 78), none, .mov (.t 9), []⟩,
            ⟨(some 79), none, .faddr 1 (.t 11), []⟩,
            ⟨(some 80), none, .load 1 false (.t 79), []⟩,
            ⟨(some 81), none, .bin .add (.t 78) (.t 80), []⟩,
            ⟨(some 9), none, .mov (.t 81), []⟩] false)
        (.seq (.reg [⟨(some 82), none, .faddr 0 (.t 11), []⟩,
            ⟨(some 83), none, .load 1 false (.t 82), []⟩,
            ⟨(some 84), none, .mov (.t 0), []⟩,
            ⟨(some 85), none, .len false (.t 84), []⟩,
            ⟨(some 86), none, .bin .rem (.t 83) (.t 85), []⟩,
            ⟨(some 12), none, .mov (.t 86), []⟩] false)
        (.seq (.reg [⟨(some 87), none, .mov (.t 7), []⟩,
            ⟨(some 88), none, .mov (.t 12), []⟩,
            ⟨(some 89), none, .build [.str ⟨#[]⟩, .int .i64 0, .int .i64 0, .int .i64 0] [], []⟩,
            ⟨(some 90), none, .iaddr 4 (.t 87) (.t 88), []⟩,
            ⟨none, none, .store 4 (.t 90) (.t 89), []⟩] false)
        (.seq (.seq (.reg [⟨(some 91), none, .faddr 3 (.t 11), []⟩,
              ⟨(some 92), none, .load 1 false (.t 91), []⟩] false)
          (.cond (.t 92) (.reg [⟨(some 93), none, .load 4 true (.t 8), []⟩,
              ⟨(some 94), none, .mov (.t 6), []⟩,
              ⟨(some 95), none, .mov (.t 12), []⟩,
              ⟨(some 96), none, .iaddr 1 (.t 94) (.t 95), [1, 2]⟩,
              ⟨(some 97), none, .load 1 false (.t 96), [1, 2, 3]⟩,
              ⟨(some 98), none, .call false (.f 25) [.t 93, .t 97], [0, 1, 2, 3, 4]⟩,
              ⟨none, none, .store 4 (.t 8) (.t 98), [0, 1, 2, 3, 4, 5]⟩] true)
            (.seq (.reg [⟨(some 100), none, .load 4 true (.t 8), []⟩,
                ⟨(some 101), none, .mov (.t 6), []⟩,
                ⟨(some 102), none, .mov (.t 12), []⟩,
                ⟨(some 103), none, .iaddr 1 (.t 101) (.t 102), [1, 2]⟩,
                ⟨(some 104), none, .load 1 false (.t 103), [1, 2, 3]⟩,
                ⟨(some 105), none, .mov (.t 9), []⟩,
                ⟨(some 106), none, .mov (.t 0), []⟩,
                ⟨(some 107), none, .mov (.t 12), []⟩,
                ⟨(some 108), none, .iaddr 1 (.t 106) (.t 107), [6, 7]⟩,
                ⟨(some 109), none, .load 1 false (.t 108), [6, 7, 8]⟩,
                ⟨(some 110), none, .bin .add (.t 105) (.t 109), [5, 6, 7, 8, 9]⟩,
                ⟨(some 111), none, .faddr 2 (.t 11), []⟩,
                ⟨(some 112), none, .load 1 false (.t 111), [11]⟩,
                ⟨(some 113), none, .call false (.f 18) [.t 100, .t 104, .t 110, .t 112], [0, 1, 2, 3, 4, 5, 6, 7, 8, 9, 10, 11, 12]⟩,
                ⟨(some 99), none, .mov (.t 113), [0, 1, 2, 3, 4, 5, 6, 7, 8, 9, 10, 11, 12, 13]⟩,
                ⟨(some 114), none, .extract (.t 99) 0, [0, 1, 2, 3, 4, 5, 6, 7, 8, 9, 10, 11, 12, 13, 14]⟩,
                ⟨(some 115), none, .extract (.t 99) 1, [0, 1, 2, 3, 4, 5, 6, 7, 8, 9, 10, 11, 12, 13, 14]⟩,
                ⟨(some 13), none, .zero [.str ⟨#[]⟩, .int .i64 0, .int .i64 0, .int .i64 0], []⟩,
                ⟨none, none, .store 4 (.t 13) (.t 114), [0, 1, 2, 3, 4, 5, 6, 7, 8, 9, 10, 11, 12, 13, 14, 15, 17]⟩,
                ⟨(some 14), none, .mov (.t 115), [0, 1, 2, 3, 4, 5, 6, 7, 8, 9, 10, 11, 12, 13, 14, 15, 16, 17, 18]⟩] true)
            (.seq (.reg [⟨(some 116), none, .mov (.t 14), []⟩] false)
            (.cond (.t 116) (.seq (.reg [⟨(some 117), none, .load 4 true (.t 13), []⟩,
                  ⟨none, none, .store 4 (.t 8) (.t 117), []⟩] false)
              (.reg [⟨(some 118), none, .mov (.t 7), []⟩,
                ⟨(some 119), none, .mov (.t 12), []⟩,
                ⟨(some 120), none, .load 4 true (.t 13), []⟩,
                ⟨(some 121), none, .iaddr 4 (.t 118) (.t 119), []⟩,
                ⟨none, none, .store 4 (.t 121) (.t 120), []⟩] false))
              (.skip))))))
        (.seq (.reg [⟨(some 15), none, .mov (.c (.int .i64 0)), []⟩] false)
        (.seq (.seq (.reg [⟨(some 16), none, .mov (.c (.int .i64 0)), []⟩] false)
          (.block 4 (.loop law29_LeaseExclusive_b2_live law29_LeaseExclusive_b2)))
        (.seq (.reg [⟨(some 146), none, .mov (.t 15), []⟩,
            ⟨(some 147), none, .bin .gtr (.t 146) (.c (.int .i64 1)), []⟩] false)
        (.cond (.t 147) (.seq (.reg [⟨(some 4), none, .mov (.c (.bool false)), []⟩] false)
          (.ret))
          (.skip))))))))))))
    (.reg [⟨(some 58), none, .mov (.t 10), []⟩,
      ⟨(some 59), none, .bin .add (.t 58) (.c (.int .i64 1)), []⟩,
      ⟨(some 10), none, .mov (.t 59), []⟩] false))
def law29_LeaseExclusive_b0_live : List Nat := [100002, 0, 1, 5]
def law29_LeaseExclusive_b0 : IR :=
  .seq (.seq (.reg [⟨(some 31), none, .mov (.t 5), []⟩,
          ⟨(some 32), none, .mov (.t 0), []⟩,
          ⟨(some 33), none, .len false (.t 32), []⟩,
          ⟨(some 34), none, .bin .lss (.t 31) (.t 33), []⟩] false)
      (.cond (.t 34) (.skip)
        (.exit 0)))
    (.seq (.block 1 (.seq (.reg [⟨(some 37), none, .mov (.t 0), []⟩,
            ⟨(some 38), none, .mov (.t 5), []⟩,
            ⟨(some 39), none, .iaddr 1 (.t 37) (.t 38), []⟩,
            ⟨(some 40), none, .load 1 false (.t 39), []⟩,
            ⟨(some 41), none, .bin .lss (.t 40) (.c (.int .i64 0)), []⟩,
            ⟨(some 42), none, .mov (.t 41), []⟩,
            ⟨(some 43), (some (42, false)), .mov (.t 0), []⟩,
            ⟨(some 44), (some (42, false)), .mov (.t 5), []⟩,
            ⟨(some 45), (some (42, false)), .iaddr 1 (.t 43) (.t 44), []⟩,
            ⟨(some 46), (some (42, false)), .load 1 false (.t 45), []⟩,
            ⟨(some 47), (some (42, false)), .bin .gtr (.t 46) (.c (.int .i64 100)), []⟩,
            ⟨(some 48), none, .pick (.t 42) (.c (.bool true)) (.t 47), []⟩] false)
        (.cond (.t 48) (.seq (.reg [⟨(some 49), none, .call false (.f 20) [], []⟩,
              ⟨(some 4), none, .mov (.t 49), []⟩] false)
          (.ret))
          (.skip))))
    (.reg [⟨(some 35), none, .mov (.t 5), []⟩,
      ⟨(some 36), none, .bin .add (.t 35) (.c (.int .i64 1)), []⟩,
      ⟨(some 5), none, .mov (.t 36), []⟩] false))
def law29_LeaseExclusive_c : IR :=
  .seq (.reg [⟨(some 4), none, .mov (.c (.bool false)), []⟩] false)
  (.seq (.seq (.reg [⟨(some 17), none, .mov (.t 0), []⟩,
        ⟨(some 18), none, .len false (.t 17), []⟩,
        ⟨(some 19), none, .bin .lss (.t 18) (.c (.int .i64 1)), []⟩,
        ⟨(some 20), none, .mov (.t 19), []⟩,
        ⟨(some 21), (some (20, false)), .mov (.t 0), []⟩,
        ⟨(some 22), (some (20, false)), .len false (.t 21), []⟩,
        ⟨(some 23), (some (20, false)), .bin .gtr (.t 22) (.c (.int .i64 5)), []⟩,
        ⟨(some 24), none, .pick (.t 20) (.c (.bool true)) (.t 23), []⟩,
        ⟨(some 25), none, .mov (.t 24), []⟩,
        ⟨(some 26), (some (25, false)), .mov (.t 1), []⟩,
        ⟨(some 27), (some (25, false)), .len false (.t 26), []⟩,
        ⟨(some 28), (some (25, false)), .bin .gtr (.t 27) (.c (.int .i64 200)), []⟩,
        ⟨(some 29), none, .pick (.t 25) (.c (.bool true)) (.t 28), []⟩] false)
    (.cond (.t 29) (.seq (.reg [⟨(some 30), none, .call false (.f 20) [], []⟩,
          ⟨(some 4), none, .mov (.t 30), []⟩] false)
      (.ret))
      (.skip)))
  (.seq (.seq (.reg [⟨(some 5), none, .mov (.c (.int .i64 0)), []⟩] false)
    (.block 0 (.loop law29_LeaseExclusive_b0_live law29_LeaseExclusive_b0)))
  (.seq (.reg [⟨(some 50), none, .lit 1 5 [.str ⟨#[]⟩] [(0, .c (.str ⟨#[97]⟩)), (1, .c (.str ⟨#[98]⟩)), (2, .c (.str ⟨#[99]⟩)), (3, .c (.str ⟨#[100]⟩)), (4, .c (.str ⟨#[101]⟩))], []⟩,
      ⟨(some 6), none, .mov (.t 50), []⟩] false)
  (.seq (.reg [⟨(some 51), none, .mov (.t 0), []⟩,
      ⟨(some 52), none, .len false (.t 51), []⟩,
      ⟨(some 53), none, .mks 4 40 [.str ⟨#[]⟩, .int .i64 0, .int .i64 0, .int .i64 0] (.t 52), []⟩,
      ⟨(some 7), none, .mov (.t 53), []⟩] false)
  (.seq (.reg [⟨(some 8), none, .zero [.str ⟨#[]⟩, .int .i64 0, .int .i64 0, .int .i64 0], []⟩] false)
  (.seq (.reg [⟨(some 9), none, .mov (.c (.int .i64 0)), []⟩] false)
  (.seq (.seq (.reg [⟨(some 10), none, .mov (.c (.int .i64 0)), []⟩] false)
    (.block 2 (.loop law29_LeaseExclusive_b1_live law29_LeaseExclusive_b1)))
  (.seq (.reg [⟨(some 148), none, .call false (.f 20) [], []⟩,
      ⟨(some 4), none, .mov (.t 148), []⟩] false)
  (.ret)))))))))
def law29_LeaseExclusive : IFn := ⟨2, 149, [.tmp 4], false, law29_LeaseExclusive_c⟩

/-- function 9: orchestrator/ orchestratorlaw29.LeaseKeeps -/
def law29_LeaseKeeps_c : IR :=
  .seq (.reg [⟨(some 4), none, .box 4 (.t 0), []⟩,
      ⟨(some 8), none, .mov (.c (.bool false)), []⟩] false)
  (.seq (.seq (.reg [⟨(some 14), none, .load 4 true (.t 4), []⟩,
        ⟨(some 15), none, .call false (.f 21) [.t 14], []⟩,
        ⟨(some 16), none, .un .not (.t 15), []⟩] false)
    (.cond (.t 16) (.seq (.reg [⟨(some 17), none, .call false (.f 20) [], []⟩,
          ⟨(some 8), none, .mov (.t 17), []⟩] false)
      (.ret))
      (.skip)))
  (.seq (.reg [⟨(some 19), none, .load 4 true (.t 4), []⟩,
      ⟨(some 20), none, .mov (.t 1), []⟩,
      ⟨(some 21), none, .mov (.t 2), []⟩,
      ⟨(some 22), none, .mov (.t 3), []⟩,
      ⟨(some 23), none, .call false (.f 18) [.t 19, .t 20, .t 21, .t 22], []⟩,
      ⟨(some 18), none, .mov (.t 23), []⟩,
      ⟨(some 24), none, .extract (.t 18) 0, []⟩,
      ⟨(some 25), none, .extract (.t 18) 1, []⟩,
      ⟨(some 9), none, .zero [.str ⟨#[]⟩, .int .i64 0, .int .i64 0, .int .i64 0], []⟩,
      ⟨none, none, .store 4 (.t 9) (.t 24), []⟩,
      ⟨(some 10), none, .mov (.t 25), []⟩] false)
  (.seq (.seq (.reg [⟨(some 26), none, .load 4 true (.t 9), []⟩,
        ⟨(some 27), none, .call false (.f 21) [.t 26], []⟩,
        ⟨(some 28), none, .un .not (.t 27), []⟩,
        ⟨(some 29), none, .mov (.t 28), []⟩,
        ⟨(some 30), (some (29, false)), .faddr 1 (.t 9), []⟩,
        ⟨(some 31), (some (29, false)), .load 1 false (.t 30), []⟩,
        ⟨(some 32), (some (29, false)), .faddr 1 (.t 4), []⟩,
        ⟨(some 33), (some (29, false)), .load 1 false (.t 32), []⟩,
        ⟨(some 34), (some (29, false)), .bin .lss (.t 31) (.t 33), []⟩,
        ⟨(some 35), none, .pick (.t 29) (.c (.bool true)) (.t 34), []⟩,
        ⟨(some 36), none, .mov (.t 35), []⟩,
        ⟨(some 37), (some (36, false)), .mov (.t 10), []⟩,
        ⟨(some 38), (some (36, false)), .un .not (.t 37), []⟩,
        ⟨(some 39), (some (36, false)), .mov (.t 38), []⟩,
        ⟨(some 40), (some (39, true)), .load 4 true (.t 9), []⟩,
        ⟨(some 41), (some (39, true)), .load 4 true (.t 4), []⟩,
        ⟨(some 42), (some (39, true)), .eqs (.st [(0, 1, .str), (1, 1, .int), (2, 1, .int), (3, 1, .int)]) true (.t 40) (.t 41), []⟩,
        ⟨(some 43), (some (36, false)), .pick (.t 39) (.t 42) (.c (.bool false)), []⟩,
        ⟨(some 44), none, .pick (.t 36) (.c (.bool true)) (.t 43), []⟩] false)
    (.cond (.t 44) (.seq (.reg [⟨(some 8), none, .mov (.c (.bool false)), []⟩] false)
      (.ret))
      (.skip)))
  (.seq (.seq (.reg [⟨(some 45), none, .load 4 true (.t 4), []⟩,
        ⟨(some 46), none, .faddr 0 (.t 4), []⟩,
        ⟨(some 47), none, .load 1 false (.t 46), []⟩,
        ⟨(some 48), none, .mov (.t 2), []⟩,
        ⟨(some 49), none, .call false (.f 23) [.t 45, .t 47, .t 48], []⟩,
        ⟨(some 50), none, .mov (.t 49), []⟩,
        ⟨(some 51), (some (50, true)), .mov (.t 1), []⟩,
        ⟨(some 52), (some (50, true)), .faddr 0 (.t 4), []⟩,
        ⟨(some 53), (some (50, true)), .load 1 false (.t 52), []⟩,
        ⟨(some 54), (some (50, true)), .bin .neq (.t 51) (.t 53), []⟩,
        ⟨(some 55), none, .pick (.t 50) (.t 54) (.c (.bool false)), []⟩,
        ⟨(some 56), none, .mov (.t 55), []⟩,
        ⟨(some 57), (some (56, true)), .mov (.t 10), []⟩,
        ⟨(some 58), none, .pick (.t 56) (.t 57) (.c (.bool false)), []⟩] false)
    (.cond (.t 58) (.seq (.reg [⟨(some 8), none, .mov (.c (.bool false)), []⟩] false)
      (.ret))
      (.skip)))
  (.seq (.reg [⟨(some 60), none, .load 4 true (.t 4), []⟩,
      ⟨(some 61), none, .faddr 0 (.t 4), []⟩,
      ⟨(some 62), none, .load 1 false (.t 61), []⟩,
      ⟨(some 63), none, .mov (.t 2), []⟩,
      ⟨(some 64), none, .mov (.t 3), []⟩,
      ⟨(some 65), none, .call false (.f 18) [.t 60, .t 62, .t 63, .t 64], []⟩,
      ⟨(some 59), none, .mov (.t 65), []⟩,
      ⟨(some 66), none, .extract (.t 59) 0, []⟩,
      ⟨(some 67), none, .extract (.t 59) 1, []⟩,
      ⟨(some 11), none, .zero [.str ⟨#[]⟩, .int .i64 0, .int .i64 0, .int .i64 0], []⟩,
      ⟨none, none, .store 4 (.t 11) (.t 66), []⟩,
      ⟨(some 12), none, .mov (.t 67), []⟩] false)
  (.seq (.reg [⟨(some 68), none, .faddr 0 (.t 4), []⟩,
      ⟨(some 69), none, .load 1 false (.t 68), []⟩,
      ⟨(some 70), none, .bin .neq (.t 69) (.c (.str ⟨#[]⟩)), []⟩,
      ⟨(some 71), none, .mov (.t 70), []⟩,
      ⟨(some 72), (some (71, true)), .mov (.t 2), []⟩,
      ⟨(some 73), (some (71, true)), .bin .geq (.t 72) (.c (.int .i64 0)), []⟩,
      ⟨(some 74), none, .pick (.t 71) (.t 73) (.c (.bool false)), []⟩,
      ⟨(some 75), none, .mov (.t 74), []⟩,
      ⟨(some 76), (some (75, true)), .mov (.t 2), []⟩,
      ⟨(some 77), (some (75, true)), .bin .leq (.t 76) (.c (.int .i64 1000000000000)), []⟩,
      ⟨(some 78), none, .pick (.t 75) (.t 77) (.c (.bool false)), []⟩,
      ⟨(some 79), none, .mov (.t 78), []⟩,
      ⟨(some 80), (some (79, true)), .mov (.t 3), []⟩,
      ⟨(some 81), (some (79, true)), .bin .geq (.t 80) (.c (.int .i64 1)), []⟩,
      ⟨(some 82), none, .pick (.t 79) (.t 81) (.c (.bool false)), []⟩,
      ⟨(some 83), none, .mov (.t 82), []⟩,
      ⟨(some 84), (some (83, true)), .mov (.t 3), []⟩,
      ⟨(some 85), (some (83, true)), .bin .leq (.t 84) (.c (.int .i64 1000000000000)), []⟩,
      ⟨(some 86), none, .pick (.t 83) (.t 85) (.c (.bool false)), []⟩,
      ⟨(some 13), none, .mov (.t 86), []⟩] false)
  (.seq (.reg [⟨(some 87), none, .call false (.f 20) [], []⟩,
      ⟨(some 88), none, .mov (.t 87), []⟩,
      ⟨(some 89), (some (88, true)), .mov (.t 12), []⟩,
      ⟨(some 90), (some (88, true)), .mov (.t 13), []⟩,
      ⟨(some 91), (some (88, true)), .eqb false (.t 89) (.t 90), []⟩,
      ⟨(some 92), none, .pick (.t 88) (.t 91) (.c (.bool false)), []⟩,
      ⟨(some 93), none, .mov (.t 92), []⟩,
      ⟨(some 94), (some (93, true)), .mov (.t 12), []⟩,
      ⟨(some 95), (some (93, true)), .un .not (.t 94), []⟩,
      ⟨(some 96), (some (93, true)), .mov (.t 95), []⟩,
      ⟨(some 97), (some (96, false)), .faddr 0 (.t 11), []⟩,
      ⟨(some 98), (some (96, false)), .load 1 false (.t 97), []⟩,
      ⟨(some 99), (some (96, false)), .faddr 0 (.t 4), []⟩,
      ⟨(some 100), (some (96, false)), .load 1 false (.t 99), []⟩,
      ⟨(some 101), (some (96, false)), .bin .eql (.t 98) (.t 100), []⟩,
      ⟨(some 102), (some (96, false)), .mov (.t 101), []⟩,
      ⟨(some 103), (some (102, true)), .faddr 3 (.t 11), []⟩,
      ⟨(some 104), (some (102, true)), .load 1 false (.t 103), []⟩,
      ⟨(some 105), (some (102, true)), .faddr 3 (.t 4), []⟩,
      ⟨(some 106), (some (102, true)), .load 1 false (.t 105), []⟩,
      ⟨(some 107), (some (102, true)), .bin .eql (.t 104) (.t 106), []⟩,
      ⟨(some 108), (some (96, false)), .pick (.t 102) (.t 107) (.c (.bool false)), []⟩,
      ⟨(some 109), (some (96, false)), .mov (.t 108), []⟩,
      ⟨(some 110), (some (109, true)), .faddr 2 (.t 11), []⟩,
      ⟨(some 111), (some (109, true)), .load 1 false (.t 110), []⟩,
      ⟨(some 112), (some (109, true)), .mov (.t 3), []⟩,
      ⟨(some 113), (some (109, true)), .bin .eql (.t 111) (.t 112), []⟩,
      ⟨(some 114), (some (96, false)), .pick (.t 109) (.t 113) (.c (.bool false)), []⟩,
      ⟨(some 115), (some (96, false)), .mov (.t 114), []⟩,
      ⟨(some 116), (some (115, true)), .faddr 1 (.t 11), []⟩,
      ⟨(some 117), (some (115, true)), .load 1 false (.t 116), []⟩,
      ⟨(some 118), (some (115, true)), .mov (.t 2), []⟩,
      ⟨(some 119), (some (115, true)), .bin .geq (.t 117) (.t 118), []⟩,
      ⟨(some 120), (some (96, false)), .pick (.t 115) (.t 119) (.c (.bool false)), []⟩,
      ⟨(some 121), (some (93, true)), .pick (.t 96) (.c (.bool true)) (.t 120), []⟩,
      ⟨(some 122), none, .pick (.t 93) (.t 121) (.c (.bool false)), []⟩,
      ⟨(some 8), none, .mov (.t 122), []⟩] false)
  (.ret))))))))
def law29_LeaseKeeps : IFn := ⟨4, 123, [.tmp 8], false, law29_LeaseKeeps_c⟩

/-- function 10: orchestrator/ orchestratorlaw29.LeaseSwitches -/
def law29_LeaseSwitches_b0_live : List Nat := [100005, 0, 3, 4, 5, 6, 7]
def law29_LeaseSwitches_b0 : IR :=
  .seq (.seq (.reg [⟨(some 18), none, .mov (.t 7), []⟩,
          ⟨(some 19), none, .mov (.t 0), []⟩,
          ⟨(some 20), none, .len false (.t 19), []⟩,
          ⟨(some 21), none, .bin .lss (.t 18) (.t 20), []⟩] false)
      (.cond (.t 21) (.skip)
        (.exit 0)))
    (.seq (.block 1 (.seq (.reg [⟨(some 24), none, .mov (.t 0), []⟩,
            ⟨(some 25), none, .mov (.t 7), []⟩,
            ⟨(some 26), none, .iaddr 4 (.t 24) (.t 25), []⟩,
            ⟨(some 27), none, .load 4 true (.t 26), []⟩,
            ⟨(some 8), none, .zero [.int .i64 0, .int .i64 0, .int .i64 0, .bool false], []⟩,
            ⟨none, none, .store 4 (.t 8) (.t 27), []⟩] false)
        (.seq (.seq (.reg [⟨(some 28), none, .faddr 0 (.t 8), []⟩,
              ⟨(some 29), none, .load 1 false (.t 28), []⟩,
              ⟨(some 30), none, .bin .lss (.t 29) (.c (.int .i64 0)), []⟩,
              ⟨(some 31), none, .mov (.t 30), []⟩,
              ⟨(some 32), (some (31, false)), .faddr 1 (.t 8), []⟩,
              ⟨(some 33), (some (31, false)), .load 1 false (.t 32), []⟩,
              ⟨(some 34), (some (31, false)), .bin .lss (.t 33) (.c (.int .i64 0)), []⟩,
              ⟨(some 35), none, .pick (.t 31) (.c (.bool true)) (.t 34), []⟩,
              ⟨(some 36), none, .mov (.t 35), []⟩,
              ⟨(some 37), (some (36, false)), .faddr 1 (.t 8), []⟩,
              ⟨(some 38), (some (36, false)), .load 1 false (.t 37), []⟩,
              ⟨(some 39), (some (36, false)), .bin .gtr (.t 38) (.c (.int .i64 1000)), []⟩,
              ⟨(some 40), none, .pick (.t 36) (.c (.bool true)) (.t 39), []⟩] false)
          (.cond (.t 40) (.seq (.reg [⟨(some 41), none, .call false (.f 20) [], []⟩,
                ⟨(some 2), none, .mov (.t 41), []⟩] false)
            (.ret))
            (.skip)))
        (.seq (.reg [⟨(some 42), none, .mov (.t 5), []⟩,
            ⟨(some 43), none, .faddr 1 (.t 8), []⟩,
            ⟨(some 44), none, .load 1 false (.t 43), []⟩,
            ⟨(some 45), none, .bin .add (.t 42) (.t 44), []⟩,
            ⟨(some 5), none, .mov (.t 45), []⟩] false)
        (.seq (.reg [⟨(some 46), none, .mov (.t 3), []⟩,
            ⟨(some 47), none, .faddr 0 (.t 8), []⟩,
            ⟨(some 48), none, .load 1 false (.t 47), []⟩,
            ⟨(some 49), none, .bin .rem (.t 48) (.c (.int .i64 3)), []⟩,
            ⟨(some 50), none, .iaddr 1 (.t 46) (.t 49), []⟩,
            ⟨(some 51), none, .load 1 false (.t 50), []⟩,
            ⟨(some 9), none, .mov (.t 51), []⟩] false)
        (.seq (.seq (.reg [⟨(some 52), none, .faddr 3 (.t 8), []⟩,
              ⟨(some 53), none, .load 1 false (.t 52), []⟩] false)
          (.cond (.t 53) (.seq (.reg [⟨(some 54), none, .load 4 true (.t 4), []⟩,
                ⟨(some 55), none, .mov (.t 9), []⟩,
                ⟨(some 56), none, .call false (.f 25) [.t 54, .t 55], []⟩,
                ⟨(some 10), none, .zero [.str ⟨#[]⟩, .int .i64 0, .int .i64 0, .int .i64 0], []⟩,
                ⟨none, none, .store 4 (.t 10) (.t 56), []⟩] false)
            (.seq (.seq (.reg [⟨(some 57), none, .faddr 0 (.t 10), []⟩,
                  ⟨(some 58), none, .load 1 false (.t 57), []⟩,
                  ⟨(some 59), none, .mov (.t 9), []⟩,
                  ⟨(some 60), none, .bin .eql (.t 58) (.t 59), []⟩,
                  ⟨(some 61), none, .mov (.t 60), []⟩,
                  ⟨(some 62), (some (61, false)), .faddr 3 (.t 10), []⟩,
                  ⟨(some 63), (some (61, false)), .load 1 false (.t 62), []⟩,
                  ⟨(some 64), (some (61, false)), .faddr 3 (.t 4), []⟩,
                  ⟨(some 65), (some (61, false)), .load 1 false (.t 64), []⟩,
                  ⟨(some 66), (some (61, false)), .bin .neq (.t 63) (.t 65), []⟩,
                  ⟨(some 67), none, .pick (.t 61) (.c (.bool true)) (.t 66), []⟩] false)
              (.cond (.t 67) (.seq (.reg [⟨(some 2), none, .mov (.c (.bool false)), []⟩] false)
                (.ret))
                (.skip)))
            (.seq (.reg [⟨(some 68), none, .load 4 true (.t 10), []⟩,
                ⟨none, none, .store 4 (.t 4) (.t 68), []⟩] false)
            (.exit 1))))
            (.skip)))
        (.seq (.reg [⟨(some 70), none, .load 4 true (.t 4), []⟩,
            ⟨(some 71), none, .mov (.t 9), []⟩,
            ⟨(some 72), none, .mov (.t 5), []⟩,
            ⟨(some 73), none, .faddr 2 (.t 8), []⟩,
            ⟨(some 74), none, .load 1 false (.t 73), []⟩,
            ⟨(some 75), none, .call false (.f 18) [.t 70, .t 71, .t 72, .t 74], []⟩,
            ⟨(some 69), none, .mov (.t 75), []⟩,
            ⟨(some 76), none, .extract (.t 69) 0, []⟩,
            ⟨(some 77), none, .extract (.t 69) 1, []⟩,
            ⟨(some 11), none, .zero [.str ⟨#[]⟩, .int .i64 0, .int .i64 0, .int .i64 0], []⟩,
            ⟨none, none, .store 4 (.t 11) (.t 76), []⟩,
            ⟨(some 12), none, .mov (.t 77), []⟩] false)
        (.seq (.seq (.reg [⟨(some 78), none, .mov (.t 12), []⟩,
              ⟨(some 79), none, .mov (.t 78), []⟩,
              ⟨(some 80), (some (79, true)), .faddr 0 (.t 4), []⟩,
              ⟨(some 81), (some (79, true)), .load 1 false (.t 80), []⟩,
              ⟨(some 82), (some (79, true)), .mov (.t 9), []⟩,
              ⟨(some 83), (some (79, true)), .bin .neq (.t 81) (.t 82), []⟩,
              ⟨(some 84), none, .pick (.t 79) (.t 83) (.c (.bool false)), []⟩] false)
          (.cond (.t 84) (.reg [⟨(some 85), none, .mov (.t 6), []⟩,
              ⟨(some 86), none, .bin .add (.t 85) (.c (.int .i64 1)), []⟩,
              ⟨(some 6), none, .mov (.t 86), []⟩] false)
            (.skip)))
        (.seq (.seq (.reg [⟨(some 87), none, .mov (.t 12), []⟩,
              ⟨(some 88), none, .mov (.t 87), []⟩,
              ⟨(some 89), (some (88, true)), .faddr 0 (.t 11), []⟩,
              ⟨(some 90), (some (88, true)), .load 1 false (.t 89), []⟩,
              ⟨(some 91), (some (88, true)), .mov (.t 9), []⟩,
              ⟨(some 92), (some (88, true)), .bin .neq (.t 90) (.t 91), []⟩,
              ⟨(some 93), none, .pick (.t 88) (.t 92) (.c (.bool false)), []⟩,
              ⟨(some 94), none, .mov (.t 93), []⟩,
              ⟨(some 95), (some (94, false)), .faddr 3 (.t 11), []⟩,
              ⟨(some 96), (some (94, false)), .load 1 false (.t 95), []⟩,
              ⟨(some 97), (some (94, false)), .mov (.t 6), []⟩,
              ⟨(some 98), (some (94, false)), .bin .neq (.t 96) (.t 97), []⟩,
              ⟨(some 99), none, .pick (.t 94) (.c (.bool true)) (.t 98), []⟩] false)
          (.cond (.t 99) (.seq (.reg [⟨(some 2), none, .mov (.c (.bool false)), []⟩] false)
            (.ret))
            (.skip)))
        (.reg [⟨(some 100), none, .load 4 true (.t 11), []⟩,
          ⟨none, none, .store 4 (.t 4) (.t 100), []⟩] false))))))))))
    (.reg [⟨(some 22), none, .mov (.t 7), []⟩,
      ⟨(some 23), none, .bin .add (.t 22) (.c (.int .i64 1)), []⟩,
      ⟨(some 7), none, .mov (.t 23), []⟩] false))
def law29_LeaseSwitches_c : IR :=
  .seq (.reg [⟨(some 2), none, .mov (.c (.bool false)), []⟩] false)
  (.seq (.seq (.reg [⟨(some 13), none, .mov (.t 0), []⟩,
        ⟨(some 14), none, .len false (.t 13), []⟩,
        ⟨(some 15), none, .bin .gtr (.t 14) (.c (.int .i64 200)), []⟩] false)
    (.cond (.t 15) (.seq (.reg [⟨(some 16), none, .call false (.f 20) [], []⟩,
          ⟨(some 2), none, .mov (.t 16), []⟩] false)
      (.ret))
      (.skip)))
  (.seq (.reg [⟨(some 17), none, .lit 1 3 [.str ⟨#[]⟩] [(0, .c (.str ⟨#[97]⟩)), (1, .c (.str ⟨#[98]⟩)), (2, .c (.str ⟨#[99]⟩))], []⟩,
      ⟨(some 3), none, .mov (.t 17), []⟩] false)
  (.seq (.reg [⟨(some 4), none, .zero [.str ⟨#[]⟩, .int .i64 0, .int .i64 0, .int .i64 0], []⟩] false)
  (.seq (.reg [⟨(some 5), none, .mov (.c (.int .i64 0)), []⟩,
      ⟨(some 6), none, .mov (.c (.int .i64 0)), []⟩] false)
  (.seq (.seq (.reg [⟨(some 7), none, .mov (.c (.int .i64 0)), []⟩] false)
    (.block 0 (.loop law29_LeaseSwitches_b0_live law29_LeaseSwitches_b0)))
  (.seq (.reg [⟨(some 101), none, .call false (.f 20) [], []⟩,
      ⟨(some 2), none, .mov (.t 101), []⟩] false)
  (.ret)))))))
def law29_LeaseSwitches : IFn := ⟨1, 102, [.tmp 2], false, law29_LeaseSwitches_c⟩

/-- function 11: orchestrator/ probe.Begin -/
def probe_Begin_c : IR :=
  .seq (.reg [⟨(some 2), none, .box 4 (.t 0), []⟩,
      ⟨(some 4), none, .zero [.int .i64 0, .int .i64 0, .bool false, .int .i64 0], []⟩] false)
  (.seq (.reg [⟨(some 5), none, .mov (.t 1), []⟩,
      ⟨(some 6), none, .faddr 0 (.t 2), []⟩,
      ⟨(some 7), none, .load 1 false (.t 6), []⟩,
      ⟨(some 8), none, .call false (.f 28) [.t 7, .c (.int .i64 0), .c (.int .i64 1000000000000)], []⟩,
      ⟨(some 9), none, .call false (.f 27) [.t 5, .t 8], []⟩,
      ⟨(some 10), none, .build [.int .i64 0, .int .i64 0, .bool false, .int .i64 0] [(3, 1, .t 9)], []⟩,
      ⟨none, none, .store 4 (.t 4) (.t 10), []⟩] false)
  (.ret))
def probe_Begin : IFn := ⟨2, 11, [.cell 4 4 true], false, probe_Begin_c⟩

/-- function 12: orchestrator/ orchestratorref34.Begin -/
def ref34_Begin_c : IR :=
  .seq (.reg [⟨(some 2), none, .box 4 (.t 0), []⟩,
      ⟨(some 4), none, .zero [.int .i64 0, .int .i64 0, .bool false, .int .i64 0], []⟩] false)
  (.seq (.reg [⟨(some 5), none, .mov (.t 1), []⟩,
      ⟨(some 6), none, .call false (.f 29) [.t 5], [0]⟩,
      ⟨(some 7), none, .faddr 0 (.t 2), []⟩,
      ⟨(some 8), none, .load 1 false (.t 7), [2]⟩,
      ⟨(some 9), none, .call false (.f 29) [.t 8], [0, 1, 2, 3]⟩,
      ⟨(some 10), none, .bin .add (.t 6) (.t 9), [0, 1, 2, 3, 4]⟩,
      ⟨(some 11), none, .call false (.f 29) [.t 10], [0, 1, 2, 3, 4, 5]⟩,
      ⟨(some 12), none, .build [.int .i64 0, .int .i64 0, .bool false, .int .i64 0] [(3, 1, .t 11)], [0, 1, 2, 3, 4, 5, 6]⟩,
      ⟨none, none, .store 4 (.t 4) (.t 12), [0, 1, 2, 3, 4, 5, 6, 7]⟩] true)
  (.ret))
def ref34_Begin : IFn := ⟨2, 13, [.cell 4 4 true], false, ref34_Begin_c⟩

/-- function 13: orchestrator/ probe.Due -/
def probe_Due_c : IR :=
  .seq (.reg [⟨(some 2), none, .box 4 (.t 0), []⟩,
      ⟨(some 4), none, .mov (.c (.bool false)), []⟩] false)
  (.seq (.reg [⟨(some 5), none, .mov (.t 1), []⟩,
      ⟨(some 6), none, .faddr 3 (.t 2), []⟩,
      ⟨(some 7), none, .load 1 false (.t 6), []⟩,
      ⟨(some 8), none, .bin .geq (.t 5) (.t 7), []⟩,
      ⟨(some 4), none, .mov (.t 8), []⟩] false)
  (.ret))
def probe_Due : IFn := ⟨2, 9, [.tmp 4], false, probe_Due_c⟩

/-- function 14: orchestrator/ orchestratorref34.Due -/
def ref34_Due_c : IR :=
  .seq (.reg [⟨(some 2), none, .box 4 (.t 0), []⟩,
      ⟨(some 4), none, .mov (.c (.bool false)), []⟩] false)
  (.seq (.reg [⟨(some 5), none, .mov (.t 1), []⟩,
      ⟨(some 6), none, .faddr 3 (.t 2), []⟩,
      ⟨(some 7), none, .load 1 false (.t 6), []⟩,
      ⟨(some 8), none, .bin .geq (.t 5) (.t 7), []⟩,
      ⟨(some 4), none, .mov (.t 8), []⟩] false)
  (.ret))
def ref34_Due : IFn := ⟨2, 9, [.tmp 4], false, ref34_Due_c⟩

/-- function 15: orchestrator/ orchestratorlaw34.awake -/
def law34_awake_c : IR :=
  .seq (.reg [⟨(some 0), none, .mov (.c (.bool false)), []⟩] false)
  (.seq (.reg [⟨(some 5), none, .build [.int .i64 0, .int .i64 0, .int .i64 0, .int .i64 0] [(0, 1, .c (.int .i64 3)), (1, 1, .c (.int .i64 10)), (2, 1, .c (.int .i64 2)), (3, 1, .c (.int .i64 3))], []⟩,
      ⟨(some 1), none, .zero [.int .i64 0, .int .i64 0, .int .i64 0, .int .i64 0], []⟩,
      ⟨none, none, .store 4 (.t 1) (.t 5), []⟩] false)
  (.seq (.reg [⟨(some 6), none, .load 4 true (.t 1), []⟩,
      ⟨(some 7), none, .call false (.f 11) [.t 6, .c (.int .i64 100)], []⟩,
      ⟨(some 2), none, .zero [.int .i64 0, .int .i64 0, .bool false, .int .i64 0], []⟩,
      ⟨none, none, .store 4 (.t 2) (.t 7), []⟩] false)
  (.seq (.reg [⟨(some 8), none, .load 4 true (.t 1), []⟩,
      ⟨(some 9), none, .load 4 true (.t 1), []⟩,
      ⟨(some 10), none, .load 4 true (.t 2), []⟩,
      ⟨(some 11), none, .call false (.f 16) [.t 9, .t 10, .c (.bool true), .c (.int .i64 103)], [1, 2]⟩,
      ⟨(some 12), none, .call false (.f 16) [.t 8, .t 11, .c (.bool false), .c (.int .i64 113)], [0, 1, 2, 3]⟩,
      ⟨(some 3), none, .zero [.int .i64 0, .int .i64 0, .bool false, .int .i64 0], []⟩,
      ⟨none, none, .store 4 (.t 3) (.t 12), [0, 1, 2, 3, 4, 5]⟩] true)
  (.seq (.reg [⟨(some 13), none, .load 4 true (.t 1), []⟩,
      ⟨(some 14), none, .load 4 true (.t 1), []⟩,
      ⟨(some 15), none, .load 4 true (.t 3), []⟩,
      ⟨(some 16), none, .call false (.f 16) [.t 14, .t 15, .c (.bool true), .c (.int .i64 123)], [1, 2]⟩,
      ⟨(some 17), none, .call false (.f 16) [.t 13, .t 16, .c (.bool true), .c (.int .i64 133)], [0, 1, 2, 3]⟩,
      ⟨(some 4), none, .zero [.int .i64 0, .int .i64 0, .bool false, .int .i64 0], []⟩,
      ⟨none, none, .store 4 (.t 4) (.t 17), [0, 1, 2, 3, 4, 5]⟩] true)
  (.seq (.reg [⟨(some 18), none, .load 4 true (.t 2), []⟩,
      ⟨(some 19), none, .build [.int .i64 0, .int .i64 0, .bool false, .int .i64 0] [(3, 1, .c (.int .i64 103))], []⟩,
      ⟨(some 20), none, .eqs (.st [(0, 1, .int), (1, 1, .int), (2, 1, .bool), (3, 1, .int)]) false (.t 18) (.t 19), []⟩,
      ⟨(some 21), none, .mov (.t 20), []⟩,
      ⟨(some 22), (some (21, true)), .load 4 true (.t 2), []⟩,
      ⟨(some 23), (some (21, true)), .call false (.f 13) [.t 22, .c (.int .i64 103)], []⟩,
      ⟨(some 24), none, .pick (.t 21) (.t 23) (.c (.bool false)), []⟩,
      ⟨(some 25), none, .mov (.t 24), []⟩,
      ⟨(some 26), (some (25, true)), .load 4 true (.t 2), []⟩,
      ⟨(some 27), (some (25, true)), .call false (.f 13) [.t 26, .c (.int .i64 102)], []⟩,
      ⟨(some 28), (some (25, true)), .un .not (.t 27), []⟩,
      ⟨(some 29), none, .pick (.t 25) (.t 28) (.c (.bool false)), []⟩,
      ⟨(some 30), none, .mov (.t 29), []⟩,
      ⟨(some 31), (some (30, true)), .faddr 2 (.t 3), []⟩,
      ⟨(some 32), (some (30, true)), .load 1 false (.t 31), []⟩,
      ⟨(some 33), (some (30, true)), .un .not (.t 32), []⟩,
      ⟨(some 34), none, .pick (.t 30) (.t 33) (.c (.bool false)), []⟩,
      ⟨(some 35), none, .mov (.t 34), []⟩,
      ⟨(some 36), (some (35, true)), .faddr 1 (.t 3), []⟩,
      ⟨(some 37), (some (35, true)), .load 1 false (.t 36), []⟩,
      ⟨(some 38), (some (35, true)), .bin .eql (.t 37) (.c (.int .i64 1)), []⟩,
      ⟨(some 39), none, .pick (.t 35) (.t 38) (.c (.bool false)), []⟩,
      ⟨(some 40), none, .mov (.t 39), []⟩,
      ⟨(some 41), (some (40, true)), .faddr 2 (.t 4), []⟩,
      ⟨(some 42), (some (40, true)), .load 1 false (.t 41), []⟩,
      ⟨(some 43), none, .pick (.t 40) (.t 42) (.c (.bool false)), []⟩,
      ⟨(some 44), none, .mov (.t 43), []⟩,
      ⟨(some 45), (some (44, true)), .faddr 0 (.t 4), []⟩,
      ⟨(some 46), (some (44, true)), .load 1 false (.t 45), []⟩,
      ⟨(some 47), (some (44, true)), .bin .eql (.t 46) (.c (.int .i64 2)), []⟩,
      ⟨(some 48), none, .pick (.t 44) (.t 47) (.c (.bool false)), []⟩,
      ⟨(some 49), none, .mov (.t 48), []⟩,
      ⟨(some 50), (some (49, true)), .faddr 3 (.t 4), []⟩,
      ⟨(some 51), (some (49, true)), .load 1 false (.t 50), []⟩,
      ⟨(some 52), (some (49, true)), .bin .eql (.t 51) (.c (.int .i64 143)), []⟩,
      ⟨(some 53), none, .pick (.t 49) (.t 52) (.c (.bool false)), []⟩,
      ⟨(some 0), none, .mov (.t 53), []⟩] false)
  (.ret))))))
def law34_awake : IFn := ⟨0, 54, [.tmp 0], false, law34_awake_c⟩

/-- function 16: orchestrator/ probe.Step -/
def probe_Step_c : IR :=
  .seq (.reg [⟨(some 4), none, .box 4 (.t 0), []⟩,
      ⟨(some 5), none, .box 4 (.t 1), []⟩,
      ⟨(some 8), none, .zero [.int .i64 0, .int .i64 0, .bool false, .int .i64 0], []⟩] false)
  (.seq (.reg [⟨(some 9), none, .mov (.f 30), []⟩] false)
  (.seq (.reg [⟨(some 11), none, .faddr 2 (.t 5), []⟩,
      ⟨(some 12), none, .load 1 false (.t 11), [0]⟩,
      ⟨(some 13), none, .mov (.t 3), []⟩,
      ⟨(some 14), none, .faddr 1 (.t 4), []⟩,
      ⟨(some 15), none, .load 1 false (.t 14), [3]⟩,
      ⟨(some 16), none, .call false (.f 28) [.t 15, .c (.int .i64 1), .c (.int .i64 1000000000000)], [3, 4]⟩,
      ⟨(some 17), none, .call false (.f 27) [.t 13, .t 16], [2, 3, 4, 5]⟩,
      ⟨(some 18), none, .build [.int .i64 0, .int .i64 0, .bool false, .int .i64 0] [(2, 1, .t 12), (3, 1, .t 17)], [0, 1, 2, 3, 4, 5, 6]⟩,
      ⟨(some 10), none, .zero [.int .i64 0, .int .i64 0, .bool false, .int .i64 0], []⟩,
      ⟨none, none, .store 4 (.t 10) (.t 18), [0, 1, 2, 3, 4, 5, 6, 7, 8]⟩] true)
  (.seq (.seq (.reg [⟨(some 19), none, .mov (.t 2), []⟩] false)
    (.cond (.t 19) (.seq (.reg [⟨(some 20), none, .mov (.t 9), []⟩,
          ⟨(some 21), none, .faddr 0 (.t 5), []⟩,
          ⟨(some 22), none, .load 1 false (.t 21), []⟩,
          ⟨(some 23), none, .call false (.t 20) [.t 22], []⟩,
          ⟨(some 24), none, .faddr 0 (.t 10), []⟩,
          ⟨none, none, .store 1 (.t 24) (.t 23), []⟩] false)
      (.seq (.reg [⟨(some 25), none, .faddr 2 (.t 5), []⟩,
          ⟨(some 26), none, .load 1 false (.t 25), []⟩,
          ⟨(some 27), none, .mov (.t 26), []⟩,
          ⟨(some 28), (some (27, false)), .faddr 0 (.t 10), []⟩,
          ⟨(some 29), (some (27, false)), .load 1 false (.t 28), []⟩,
          ⟨(some 30), (some (27, false)), .faddr 2 (.t 4), []⟩,
          ⟨(some 31), (some (27, false)), .load 1 false (.t 30), []⟩,
          ⟨(some 32), (some (27, false)), .mnmx true (.t 31) [.c (.int .i64 1)], []⟩,
          ⟨(some 33), (some (27, false)), .bin .geq (.t 29) (.t 32), []⟩,
          ⟨(some 34), none, .pick (.t 27) (.c (.bool true)) (.t 33), []⟩,
          ⟨(some 35), none, .faddr 2 (.t 10), []⟩,
          ⟨none, none, .store 1 (.t 35) (.t 34), []⟩] false)
      (.seq (.reg [⟨(some 36), none, .load 4 true (.t 10), []⟩,
          ⟨none, none, .store 4 (.t 8) (.t 36), []⟩] false)
      (.ret))))
      (.skip)))
  (.seq (.reg [⟨(some 37), none, .mov (.t 9), []⟩,
      ⟨(some 38), none, .faddr 1 (.t 5), []⟩,
      ⟨(some 39), none, .load 1 false (.t 38), []⟩,
      ⟨(some 40), none, .call false (.t 37) [.t 39], []⟩,
      ⟨(some 41), none, .faddr 1 (.t 10), []⟩,
      ⟨none, none, .store 1 (.t 41) (.t 40), []⟩] false)
  (.seq (.reg [⟨(some 42), none, .faddr 2 (.t 5), []⟩,
      ⟨(some 43), none, .load 1 false (.t 42), []⟩,
      ⟨(some 44), none, .mov (.t 43), []⟩,
      ⟨(some 45), (some (44, true)), .faddr 1 (.t 10), []⟩,
      ⟨(some 46), (some (44, true)), .load 1 false (.t 45), []⟩,
      ⟨(some 47), (some (44, true)), .faddr 3 (.t 4), []⟩,
      ⟨(some 48), (some (44, true)), .load 1 false (.t 47), []⟩,
      ⟨(some 49), (some (44, true)), .mnmx true (.t 48) [.c (.int .i64 1)], []⟩,
      ⟨(some 50), (some (44, true)), .bin .lss (.t 46) (.t 49), []⟩,
      ⟨(some 51), none, .pick (.t 44) (.t 50) (.c (.bool false)), []⟩,
      ⟨(some 52), none, .faddr 2 (.t 10), []⟩,
      ⟨none, none, .store 1 (.t 52) (.t 51), []⟩] false)
  (.seq (.reg [⟨(some 53), none, .load 4 true (.t 10), []⟩,
      ⟨none, none, .store 4 (.t 8) (.t 53), []⟩] false)
  (.ret)))))))
def probe_Step : IFn := ⟨4, 54, [.cell 8 4 true], false, probe_Step_c⟩

/-- function 17: orchestrator/ orchestratorref34.Step -/
def ref34_Step_c : IR :=
  .seq (.reg [⟨(some 4), none, .box 4 (.t 0), []⟩,
      ⟨(some 5), none, .box 4 (.t 1), []⟩,
      ⟨(some 8), none, .zero [.int .i64 0, .int .i64 0, .bool false, .int .i64 0], []⟩] false)
  (.seq (.reg [⟨(some 10), none, .faddr 2 (.t 5), []⟩,
      ⟨(some 11), none, .load 1 false (.t 10), [0]⟩,
      ⟨(some 12), none, .mov (.t 3), []⟩,
      ⟨(some 13), none, .call false (.f 29) [.t 12], [2]⟩,
      ⟨(some 14), none, .faddr 1 (.t 4), []⟩,
      ⟨(some 15), none, .load 1 false (.t 14), [4]⟩,
      ⟨(some 16), none, .call false (.f 29) [.t 15], [2, 3, 4, 5]⟩,
      ⟨(some 17), none, .mnmx true (.t 16) [.c (.int .i64 1)], [2, 3, 4, 5, 6]⟩,
      ⟨(some 18), none, .bin .add (.t 13) (.t 17), [2, 3, 4, 5, 6, 7]⟩,
      ⟨(some 19), none, .call false (.f 29) [.t 18], [2, 3, 4, 5, 6, 7, 8]⟩,
      ⟨(some 20), none, .build [.int .i64 0, .int .i64 0, .bool false, .int .i64 0] [(2, 1, .t 11), (3, 1, .t 19)], [0, 1, 2, 3, 4, 5, 6, 7, 8, 9]⟩,
      ⟨(some 9), none, .zero [.int .i64 0, .int .i64 0, .bool false, .int .i64 0], []⟩,
      ⟨none, none, .store 4 (.t 9) (.t 20), [0, 1, 2, 3, 4, 5, 6, 7, 8, 9, 10, 11]⟩] true)
  (.seq (.seq (.reg [⟨(some 21), none, .mov (.t 2), []⟩] false)
    (.cond (.t 21) (.seq (.reg [⟨(some 22), none, .faddr 0 (.t 5), []⟩,
          ⟨(some 23), none, .load 1 false (.t 22), []⟩,
          ⟨(some 24), none, .call false (.f 31) [.t 23, .c (.int .i64 0), .c (.int .i64 1000000000000000)], []⟩,
          ⟨(some 25), none, .bin .add (.t 24) (.c (.int .i64 1)), []⟩,
          ⟨(some 26), none, .mnmx false (.t 25) [.c (.int .i64 1000000000000000)], []⟩,
          ⟨(some 27), none, .faddr 0 (.t 9), []⟩,
          ⟨none, none, .store 1 (.t 27) (.t 26), []⟩] false)
      (.seq (.seq (.reg [⟨(some 28), none, .faddr 0 (.t 9), []⟩,
            ⟨(some 29), none, .load 1 false (.t 28), []⟩,
            ⟨(some 30), none, .faddr 2 (.t 4), []⟩,
            ⟨(some 31), none, .load 1 false (.t 30), []⟩,
            ⟨(some 32), none, .mnmx true (.t 31) [.c (.int .i64 1)], []⟩,
            ⟨(some 33), none, .bin .geq (.t 29) (.t 32), []⟩] false)
        (.cond (.t 33) (.reg [⟨(some 34), none, .faddr 2 (.t 9), []⟩,
            ⟨none, none, .store 1 (.t 34) (.c (.bool true)), []⟩] false)
          (.skip)))
      (.seq (.reg [⟨(some 35), none, .load 4 true (.t 9), []⟩,
          ⟨none, none, .store 4 (.t 8) (.t 35), []⟩] false)
      (.ret))))
      (.skip)))
  (.seq (.reg [⟨(some 36), none, .faddr 1 (.t 5), []⟩,
      ⟨(some 37), none, .load 1 false (.t 36), []⟩,
      ⟨(some 38), none, .call false (.f 31) [.t 37, .c (.int .i64 0), .c (.int .i64 1000000000000000)], []⟩,
      ⟨(some 39), none, .bin .add (.t 38) (.c (.int .i64 1)), []⟩,
      ⟨(some 40), none, .mnmx false (.t 39) [.c (.int .i64 1000000000000000)], []⟩,
      ⟨(some 41), none, .faddr 1 (.t 9), []⟩,
      ⟨none, none, .store 1 (.t 41) (.t 40), []⟩] false)
  (.seq (.seq (.reg [⟨(some 42), none, .faddr 1 (.t 9), []⟩,
        ⟨(some 43), none, .load 1 false (.t 42), []⟩,
        ⟨(some 44), none, .faddr 3 (.t 4), []⟩,
        ⟨(some 45), none, .load 1 false (.t 44), []⟩,
        ⟨(some 46), none, .mnmx true (.t 45) [.c (.int .i64 1)], []⟩,
        ⟨(some 47), none, .bin .geq (.t 43) (.t 46), []⟩] false)
    (.cond (.t 47) (.reg [⟨(some 48), none, .faddr 2 (.t 9), []⟩,
        ⟨none, none, .store 1 (.t 48) (.c (.bool false)), []⟩] false)
      (.skip)))
  (.seq (.reg [⟨(some 49), none, .load 4 true (.t 9), []⟩,
      ⟨none, none, .store 4 (.t 8) (.t 49), []⟩] false)
  (.ret))))))
def ref34_Step : IFn := ⟨4, 50, [.cell 8 4 true], false, ref34_Step_c⟩

/-- function 18: orchestrator/ lease.Try -/
def lease_Try_c : IR :=
  .seq (.reg [⟨(some 4), none, .box 4 (.t 0), []⟩,
      ⟨(some 8), none, .zero [.str ⟨#[]⟩, .int .i64 0, .int .i64 0, .int .i64 0], []⟩,
      ⟨(some 9), none, .mov (.c (.bool false)), []⟩] false)
  (.seq (.seq (.reg [⟨(some 10), none, .load 4 true (.t 4), []⟩,
        ⟨(some 11), none, .call false (.f 21) [.t 10], []⟩,
        ⟨(some 12), none, .un .not (.t 11), []⟩,
        ⟨(some 13), none, .mov (.t 12), []⟩,
        ⟨(some 14), (some (13, false)), .mov (.t 1), []⟩,
        ⟨(some 15), (some (13, false)), .bin .eql (.t 14) (.c (.str ⟨#[]⟩)), []⟩,
        ⟨(some 16), none, .pick (.t 13) (.c (.bool true)) (.t 15), []⟩,
        ⟨(some 17), none, .mov (.t 16), []⟩,
        ⟨(some 18), (some (17, false)), .mov (.t 1), []⟩,
        ⟨(some 19), (some (17, false)), .len true (.t 18), []⟩,
        ⟨(some 20), (some (17, false)), .bin .gtr (.t 19) (.c (.int .i64 40)), []⟩,
        ⟨(some 21), none, .pick (.t 17) (.c (.bool true)) (.t 20), []⟩,
        ⟨(some 22), none, .mov (.t 21), []⟩,
        ⟨(some 23), (some (22, false)), .mov (.t 2), []⟩,
        ⟨(some 24), (some (22, false)), .call false (.f 32) [.t 23, .c (.int .i64 1000000000000)], []⟩,
        ⟨(some 25), (some (22, false)), .un .not (.t 24), []⟩,
        ⟨(some 26), none, .pick (.t 22) (.c (.bool true)) (.t 25), []⟩,
        ⟨(some 27), none, .mov (.t 26), []⟩,
        ⟨(some 28), (some (27, false)), .mov (.t 3), []⟩,
        ⟨(some 29), (some (27, false)), .bin .lss (.t 28) (.c (.int .i64 1)), []⟩,
        ⟨(some 30), none, .pick (.t 27) (.c (.bool true)) (.t 29), []⟩,
        ⟨(some 31), none, .mov (.t 30), []⟩,
        ⟨(some 32), (some (31, false)), .mov (.t 3), []⟩,
        ⟨(some 33), (some (31, false)), .bin .gtr (.t 32) (.c (.int .i64 1000000000000)), []⟩,
        ⟨(some 34), none, .pick (.t 31) (.c (.bool true)) (.t 33), []⟩] false)
    (.cond (.t 34) (.seq (.reg [⟨(some 35), none, .load 4 true (.t 4), []⟩,
          ⟨none, none, .store 4 (.t 8) (.t 35), []⟩,
          ⟨(some 9), none, .mov (.c (.bool false)), []⟩] false)
      (.ret))
      (.skip)))
  (.seq (.seq (.reg [⟨(some 36), none, .faddr 0 (.t 4), []⟩,
        ⟨(some 37), none, .load 1 false (.t 36), []⟩,
        ⟨(some 38), none, .mov (.t 1), []⟩,
        ⟨(some 39), none, .bin .neq (.t 37) (.t 38), []⟩] false)
    (.cond (.t 39) (.seq (.seq (.reg [⟨(some 40), none, .faddr 0 (.t 4), []⟩,
            ⟨(some 41), none, .load 1 false (.t 40), []⟩,
            ⟨(some 42), none, .bin .neq (.t 41) (.c (.str ⟨#[]⟩)), []⟩,
            ⟨(some 43), none, .mov (.t 42), []⟩,
            ⟨(some 44), (some (43, true)), .mov (.t 2), []⟩,
            ⟨(some 45), (some (43, true)), .faddr 1 (.t 4), []⟩,
            ⟨(some 46), (some (43, true)), .load 1 false (.t 45), []⟩,
            ⟨(some 47), (some (43, true)), .faddr 2 (.t 4), []⟩,
            ⟨(some 48), (some (43, true)), .load 1 false (.t 47), []⟩,
            ⟨(some 49), (some (43, true)), .bin .add (.t 46) (.t 48), []⟩,
            ⟨(some 50), (some (43, true)), .bin .lss (.t 44) (.t 49), []⟩,
            ⟨(some 51), none, .pick (.t 43) (.t 50) (.c (.bool false)), []⟩] false)
        (.cond (.t 51) (.seq (.reg [⟨(some 52), none, .load 4 true (.t 4), []⟩,
              ⟨none, none, .store 4 (.t 8) (.t 52), []⟩,
              ⟨(some 9), none, .mov (.c (.bool false)), []⟩] false)
          (.ret))
          (.skip)))
      (.reg [⟨(some 53), none, .faddr 3 (.t 4), []⟩,
        ⟨(some 54), none, .load 1 false (.t 53), []⟩,
        ⟨(some 55), none, .bin .add (.t 54) (.c (.int .i64 1)), []⟩,
        ⟨(some 56), none, .mnmx false (.t 55) [.c (.int .i64 1000000000000000)], []⟩,
        ⟨(some 57), none, .faddr 3 (.t 4), []⟩,
        ⟨none, none, .store 1 (.t 57) (.t 56), []⟩] false))
      (.skip)))
  (.seq (.reg [⟨(some 58), none, .mov (.t 1), []⟩,
      ⟨(some 59), none, .faddr 1 (.t 4), []⟩,
      ⟨(some 60), none, .load 1 false (.t 59), []⟩,
      ⟨(some 61), none, .mov (.t 2), []⟩,
      ⟨(some 62), none, .mnmx true (.t 60) [.t 61], []⟩,
      ⟨(some 63), none, .mov (.t 3), []⟩,
      ⟨(some 64), none, .faddr 0 (.t 4), []⟩,
      ⟨none, none, .store 1 (.t 64) (.t 58), []⟩,
      ⟨(some 65), none, .faddr 1 (.t 4), []⟩,
      ⟨none, none, .store 1 (.t 65) (.t 62), []⟩,
      ⟨(some 66), none, .faddr 2 (.t 4), []⟩,
      ⟨none, none, .store 1 (.t 66) (.t 63), []⟩] false)
  (.seq (.reg [⟨(some 67), none, .load 4 true (.t 4), []⟩,
      ⟨none, none, .store 4 (.t 8) (.t 67), []⟩,
      ⟨(some 9), none, .mov (.c (.bool true)), []⟩] false)
  (.ret)))))
def lease_Try : IFn := ⟨4, 68, [.cell 8 4 true, .tmp 9], false, lease_Try_c⟩

/-- function 19: orchestrator/ orchestratorref29.Try -/
def ref29_Try_c : IR :=
  .seq (.reg [⟨(some 4), none, .box 4 (.t 0), []⟩,
      ⟨(some 8), none, .zero [.str ⟨#[]⟩, .int .i64 0, .int .i64 0, .int .i64 0], []⟩,
      ⟨(some 9), none, .mov (.c (.bool false)), []⟩] false)
  (.seq (.seq (.reg [⟨(some 11), none, .load 4 true (.t 4), []⟩,
        ⟨(some 12), none, .call false (.f 22) [.t 11], []⟩,
        ⟨(some 13), none, .un .not (.t 12), []⟩,
        ⟨(some 14), none, .mov (.t 13), []⟩,
        ⟨(some 15), (some (14, false)), .mov (.t 1), []⟩,
        ⟨(some 16), (some (14, false)), .bin .eql (.t 15) (.c (.str ⟨#[]⟩)), []⟩,
        ⟨(some 17), none, .pick (.t 14) (.c (.bool true)) (.t 16), []⟩,
        ⟨(some 18), none, .mov (.t 17), []⟩,
        ⟨(some 19), (some (18, false)), .mov (.t 1), []⟩,
        ⟨(some 20), (some (18, false)), .len true (.t 19), []⟩,
        ⟨(some 21), (some (18, false)), .bin .gtr (.t 20) (.c (.int .i64 40)), []⟩,
        ⟨(some 22), none, .pick (.t 18) (.c (.bool true)) (.t 21), []⟩,
        ⟨(some 23), none, .mov (.t 22), []⟩,
        ⟨(some 24), (some (23, false)), .mov (.t 2), []⟩,
        ⟨(some 25), (some (23, false)), .bin .lss (.t 24) (.c (.int .i64 0)), []⟩,
        ⟨(some 26), none, .pick (.t 23) (.c (.bool true)) (.t 25), []⟩,
        ⟨(some 27), none, .mov (.t 26), []⟩,
        ⟨(some 28), (some (27, false)), .mov (.t 2), []⟩,
        ⟨(some 29), (some (27, false)), .bin .gtr (.t 28) (.c (.int .i64 1000000000000)), []⟩,
        ⟨(some 30), none, .pick (.t 27) (.c (.bool true)) (.t 29), []⟩,
        ⟨(some 31), none, .mov (.t 30), []⟩,
        ⟨(some 32), (some (31, false)), .mov (.t 3), []⟩,
        ⟨(some 33), (some (31, false)), .bin .lss (.t 32) (.c (.int .i64 1)), []⟩,
        ⟨(some 34), none, .pick (.t 31) (.c (.bool true)) (.t 33), []⟩,
        ⟨(some 35), none, .mov (.t 34), []⟩,
        ⟨(some 36), (some (35, false)), .mov (.t 3), []⟩,
        ⟨(some 37), (some (35, false)), .bin .gtr (.t 36) (.c (.int .i64 1000000000000)), []⟩,
        ⟨(some 38), none, .pick (.t 35) (.c (.bool true)) (.t 37), []⟩] false)
    (.cond (.t 38) (.seq (.reg [⟨(some 39), none, .load 4 true (.t 4), []⟩,
          ⟨none, none, .store 4 (.t 8) (.t 39), []⟩,
          ⟨(some 9), none, .mov (.c (.bool false)), []⟩] false)
      (.ret))
      (.skip)))
  (.seq (.seq (.reg [⟨(some 40), none, .faddr 0 (.t 4), []⟩,
        ⟨(some 41), none, .load 1 false (.t 40), []⟩,
        ⟨(some 42), none, .bin .neq (.t 41) (.c (.str ⟨#[]⟩)), []⟩,
        ⟨(some 43), none, .mov (.t 42), []⟩,
        ⟨(some 44), (some (43, true)), .faddr 0 (.t 4), []⟩,
        ⟨(some 45), (some (43, true)), .load 1 false (.t 44), []⟩,
        ⟨(some 46), (some (43, true)), .mov (.t 1), []⟩,
        ⟨(some 47), (some (43, true)), .bin .neq (.t 45) (.t 46), []⟩,
        ⟨(some 48), none, .pick (.t 43) (.t 47) (.c (.bool false)), []⟩,
        ⟨(some 49), none, .mov (.t 48), []⟩,
        ⟨(some 50), (some (49, true)), .mov (.t 2), []⟩,
        ⟨(some 51), (some (49, true)), .faddr 1 (.t 4), []⟩,
        ⟨(some 52), (some (49, true)), .load 1 false (.t 51), []⟩,
        ⟨(some 53), (some (49, true)), .faddr 2 (.t 4), []⟩,
        ⟨(some 54), (some (49, true)), .load 1 false (.t 53), []⟩,
        ⟨(some 55), (some (49, true)), .bin .add (.t 52) (.t 54), []⟩,
        ⟨(some 56), (some (49, true)), .bin .lss (.t 50) (.t 55), []⟩,
        ⟨(some 57), none, .pick (.t 49) (.t 56) (.c (.bool false)), []⟩] false)
    (.cond (.t 57) (.seq (.reg [⟨(some 58), none, .load 4 true (.t 4), []⟩,
          ⟨none, none, .store 4 (.t 8) (.t 58), []⟩,
          ⟨(some 9), none, .mov (.c (.bool false)), []⟩] false)
      (.ret))
      (.skip)))
  (.seq (.reg [⟨(some 59), none, .mov (.t 1), []⟩,
      ⟨(some 60), none, .faddr 1 (.t 4), []⟩,
      ⟨(some 61), none, .load 1 false (.t 60), []⟩,
      ⟨(some 62), none, .mov (.t 2), []⟩,
      ⟨(some 63), none, .mnmx true (.t 61) [.t 62], []⟩,
      ⟨(some 64), none, .mov (.t 3), []⟩,
      ⟨(some 65), none, .faddr 3 (.t 4), []⟩,
      ⟨(some 66), none, .load 1 false (.t 65), []⟩,
      ⟨(some 67), none, .build [.str ⟨#[]⟩, .int .i64 0, .int .i64 0, .int .i64 0] [(0, 1, .t 59), (1, 1, .t 63), (2, 1, .t 64), (3, 1, .t 66)], []⟩,
      ⟨(some 10), none, .zero [.str ⟨#[]⟩, .int .i64 0, .int .i64 0, .int .i64 0], []⟩,
      ⟨none, none, .store 4 (.t 10) (.t 67), []⟩] false)
  (.seq (.seq (.reg [⟨(some 68), none, .faddr 0 (.t 4), []⟩,
        ⟨(some 69), none, .load 1 false (.t 68), []⟩,
        ⟨(some 70), none, .mov (.t 1), []⟩,
        ⟨(some 71), none, .bin .neq (.t 69) (.t 70), []⟩] false)
    (.cond (.t 71) (.reg [⟨(some 72), none, .faddr 3 (.t 4), []⟩,
        ⟨(some 73), none, .load 1 false (.t 72), []⟩,
        ⟨(some 74), none, .bin .add (.t 73) (.c (.int .i64 1)), []⟩,
        ⟨(some 75), none, .mnmx false (.c (.int .i64 1000000000000000)) [.t 74], []⟩,
        ⟨(some 76), none, .faddr 3 (.t 10), []⟩,
        ⟨none, none, .store 1 (.t 76) (.t 75), []⟩] false)
      (.skip)))
  (.seq (.reg [⟨(some 77), none, .load 4 true (.t 10), []⟩,
      ⟨none, none, .store 4 (.t 8) (.t 77), []⟩,
      ⟨(some 9), none, .mov (.c (.bool true)), []⟩] false)
  (.ret))))))
def ref29_Try : IFn := ⟨4, 78, [.cell 8 4 true, .tmp 9], false, ref29_Try_c⟩

/-- function 20: orchestrator/ orchestratorlaw29.lives -/
def law29_lives_c : IR :=
  .seq (.reg [⟨(some 0), none, .mov (.c (.bool false)), []⟩] false)
  (.seq (.reg [⟨(some 10), none, .build [.str ⟨#[]⟩, .int .i64 0, .int .i64 0, .int .i64 0] [], []⟩,
      ⟨(some 11), none, .call false (.f 18) [.t 10, .c (.str ⟨#[97]⟩), .c (.int .i64 5), .c (.int .i64 10)], []⟩,
      ⟨(some 9), none, .mov (.t 11), []⟩,
      ⟨(some 12), none, .extract (.t 9) 0, []⟩,
      ⟨(some 13), none, .extract (.t 9) 1, []⟩,
      ⟨(some 1), none, .zero [.str ⟨#[]⟩, .int .i64 0, .int .i64 0, .int .i64 0], []⟩,
      ⟨none, none, .store 4 (.t 1) (.t 12), []⟩,
      ⟨(some 2), none, .mov (.t 13), []⟩] false)
  (.seq (.reg [⟨(some 15), none, .load 4 true (.t 1), []⟩,
      ⟨(some 16), none, .call false (.f 18) [.t 15, .c (.str ⟨#[98]⟩), .c (.int .i64 14), .c (.int .i64 10)], []⟩,
      ⟨(some 14), none, .mov (.t 16), []⟩,
      ⟨(some 17), none, .extract (.t 14) 0, []⟩,
      ⟨(some 18), none, .extract (.t 14) 1, []⟩,
      ⟨(some 3), none, .zero [.str ⟨#[]⟩, .int .i64 0, .int .i64 0, .int .i64 0], []⟩,
      ⟨none, none, .store 4 (.t 3) (.t 17), []⟩,
      ⟨(some 4), none, .mov (.t 18), []⟩] false)
  (.seq (.reg [⟨(some 20), none, .load 4 true (.t 1), []⟩,
      ⟨(some 21), none, .call false (.f 18) [.t 20, .c (.str ⟨#[98]⟩), .c (.int .i64 15), .c (.int .i64 10)], []⟩,
      ⟨(some 19), none, .mov (.t 21), []⟩,
      ⟨(some 22), none, .extract (.t 19) 0, []⟩,
      ⟨(some 23), none, .extract (.t 19) 1, []⟩,
      ⟨(some 5), none, .zero [.str ⟨#[]⟩, .int .i64 0, .int .i64 0, .int .i64 0], []⟩,
      ⟨none, none, .store 4 (.t 5) (.t 22), []⟩,
      ⟨(some 6), none, .mov (.t 23), []⟩] false)
  (.seq (.reg [⟨(some 25), none, .load 4 true (.t 1), []⟩,
      ⟨(some 26), none, .call false (.f 18) [.t 25, .c (.str ⟨#[97]⟩), .c (.int .i64 3), .c (.int .i64 4)], []⟩,
      ⟨(some 24), none, .mov (.t 26), []⟩,
      ⟨(some 27), none, .extract (.t 24) 0, []⟩,
      ⟨(some 28), none, .extract (.t 24) 1, []⟩,
      ⟨(some 7), none, .zero [.str ⟨#[]⟩, .int .i64 0, .int .i64 0, .int .i64 0], []⟩,
      ⟨none, none, .store 4 (.t 7) (.t 27), []⟩,
      ⟨(some 8), none, .mov (.t 28), []⟩] false)
  (.seq (.reg [⟨(some 29), none, .mov (.t 2), []⟩,
      ⟨(some 30), none, .mov (.t 29), []⟩,
      ⟨(some 31), (some (30, true)), .load 4 true (.t 1), []⟩,
      ⟨(some 32), (some (30, true)), .build [.str ⟨#[]⟩, .int .i64 0, .int .i64 0, .int .i64 0] [(0, 1, .c (.str ⟨#[97]⟩)), (1, 1, .c (.int .i64 5)), (2, 1, .c (.int .i64 10)), (3, 1, .c (.int .i64 1))], []⟩,
      ⟨(some 33), (some (30, true)), .eqs (.st [(0, 1, .str), (1, 1, .int), (2, 1, .int), (3, 1, .int)]) false (.t 31) (.t 32), []⟩,
      ⟨(some 34), none, .pick (.t 30) (.t 33) (.c (.bool false)), []⟩,
      ⟨(some 35), none, .mov (.t 34), []⟩,
      ⟨(some 36), (some (35, true)), .mov (.t 4), []⟩,
      ⟨(some 37), (some (35, true)), .un .not (.t 36), []⟩,
      ⟨(some 38), none, .pick (.t 35) (.t 37) (.c (.bool false)), []⟩,
      ⟨(some 39), none, .mov (.t 38), []⟩,
      ⟨(some 40), (some (39, true)), .mov (.t 6), []⟩,
      ⟨(some 41), none, .pick (.t 39) (.t 40) (.c (.bool false)), []⟩,
      ⟨(some 42), none, .mov (.t 41), []⟩,
      ⟨(some 43), (some (42, true)), .load 4 true (.t 5), []⟩,
      ⟨(some 44), (some (42, true)), .build [.str ⟨#[]⟩, .int .i64 0, .int .i64 0, .int .i64 0] [(0, 1, .c (.str ⟨#[98]⟩)), (1, 1, .c (.int .i64 15)), (2, 1, .c (.int .i64 10)), (3, 1, .c (.int .i64 2))], []⟩,
      ⟨(some 45), (some (42, true)), .eqs (.st [(0, 1, .str), (1, 1, .int), (2, 1, .int), (3, 1, .int)]) false (.t 43) (.t 44), []⟩,
      ⟨(some 46), none, .pick (.t 42) (.t 45) (.c (.bool false)), []⟩,
      ⟨(some 47), none, .mov (.t 46), []⟩,
      ⟨(some 48), (some (47, true)), .mov (.t 8), []⟩,
      ⟨(some 49), none, .pick (.t 47) (.t 48) (.c (.bool false)), []⟩,
      ⟨(some 50), none, .mov (.t 49), []⟩,
      ⟨(some 51), (some (50, true)), .load 4 true (.t 7), []⟩,
      ⟨(some 52), (some (50, true)), .build [.str ⟨#[]⟩, .int .i64 0, .int .i64 0, .int .i64 0] [(0, 1, .c (.str ⟨#[97]⟩)), (1, 1, .c (.int .i64 5)), (2, 1, .c (.int .i64 4)), (3, 1, .c (.int .i64 1))], []⟩,
      ⟨(some 53), (some (50, true)), .eqs (.st [(0, 1, .str), (1, 1, .int), (2, 1, .int), (3, 1, .int)]) false (.t 51) (.t 52), []⟩,
      ⟨(some 54), none, .pick (.t 50) (.t 53) (.c (.bool false)), []⟩,
      ⟨(some 55), none, .mov (.t 54), []⟩,
      ⟨(some 56), (some (55, true)), .load 4 true (.t 1), []⟩,
      ⟨(some 57), (some (55, true)), .call false (.f 23) [.t 56, .c (.str ⟨#[97]⟩), .c (.int .i64 14)], []⟩,
      ⟨(some 58), none, .pick (.t 55) (.t 57) (.c (.bool false)), []⟩,
      ⟨(some 59), none, .mov (.t 58), []⟩,
      ⟨(some 60), (some (59, true)), .load 4 true (.t 1), []⟩,
      ⟨(some 61), (some (59, true)), .call false (.f 23) [.t 60, .c (.str ⟨#[97]⟩), .c (.int .i64 15)], []⟩,
      ⟨(some 62), (some (59, true)), .un .not (.t 61), []⟩,
      ⟨(some 63), none, .pick (.t 59) (.t 62) (.c (.bool false)), []⟩,
      ⟨(some 64), none, .mov (.t 63), []⟩,
      ⟨(some 65), (some (64, true)), .load 4 true (.t 1), []⟩,
      ⟨(some 66), (some (64, true)), .call false (.f 25) [.t 65, .c (.str ⟨#[97]⟩)], []⟩,
      ⟨(some 67), (some (64, true)), .field 0 1 false (.t 66), []⟩,
      ⟨(some 68), (some (64, true)), .bin .eql (.t 67) (.c (.str ⟨#[]⟩)), []⟩,
      ⟨(some 69), none, .pick (.t 64) (.t 68) (.c (.bool false)), []⟩,
      ⟨(some 70), none, .mov (.t 69), []⟩,
      ⟨(some 71), (some (70, true)), .load 4 true (.t 1), []⟩,
      ⟨(some 72), (some (70, true)), .call false (.f 21) [.t 71], []⟩,
      ⟨(some 73), none, .pick (.t 70) (.t 72) (.c (.bool false)), []⟩,
      ⟨(some 0), none, .mov (.t 73), []⟩] false)
  (.ret))))))
def law29_lives : IFn := ⟨0, 74, [.tmp 0], false, law29_lives_c⟩

/-- function 21: orchestrator/ lease.Valid -/
def lease_Valid_c : IR :=
  .seq (.reg [⟨(some 1), none, .box 4 (.t 0), []⟩,
      ⟨(some 2), none, .mov (.c (.bool false)), []⟩] false)
  (.seq (.reg [⟨(some 3), none, .faddr 0 (.t 1), []⟩,
      ⟨(some 4), none, .load 1 false (.t 3), []⟩,
      ⟨(some 5), none, .len true (.t 4), []⟩,
      ⟨(some 6), none, .bin .leq (.t 5) (.c (.int .i64 40)), []⟩,
      ⟨(some 7), none, .mov (.t 6), []⟩,
      ⟨(some 8), (some (7, true)), .faddr 1 (.t 1), []⟩,
      ⟨(some 9), (some (7, true)), .load 1 false (.t 8), []⟩,
      ⟨(some 10), (some (7, true)), .call false (.f 32) [.t 9, .c (.int .i64 1000000000000)], []⟩,
      ⟨(some 11), none, .pick (.t 7) (.t 10) (.c (.bool false)), []⟩,
      ⟨(some 12), none, .mov (.t 11), []⟩,
      ⟨(some 13), (some (12, true)), .faddr 2 (.t 1), []⟩,
      ⟨(some 14), (some (12, true)), .load 1 false (.t 13), []⟩,
      ⟨(some 15), (some (12, true)), .call false (.f 32) [.t 14, .c (.int .i64 1000000000000)], []⟩,
      ⟨(some 16), none, .pick (.t 12) (.t 15) (.c (.bool false)), []⟩,
      ⟨(some 17), none, .mov (.t 16), []⟩,
      ⟨(some 18), (some (17, true)), .faddr 3 (.t 1), []⟩,
      ⟨(some 19), (some (17, true)), .load 1 false (.t 18), []⟩,
      ⟨(some 20), (some (17, true)), .call false (.f 32) [.t 19, .c (.int .i64 1000000000000000)], []⟩,
      ⟨(some 21), none, .pick (.t 17) (.t 20) (.c (.bool false)), []⟩,
      ⟨(some 2), none, .mov (.t 21), []⟩] false)
  (.ret))
def lease_Valid : IFn := ⟨1, 22, [.tmp 2], false, lease_Valid_c⟩

/-- function 22: orchestrator/ orchestratorref29.Valid -/
def ref29_Valid_c : IR :=
  .seq (.reg [⟨(some 1), none, .box 4 (.t 0), []⟩,
      ⟨(some 2), none, .mov (.c (.bool false)), []⟩] false)
  (.seq (.reg [⟨(some 3), none, .faddr 0 (.t 1), []⟩,
      ⟨(some 4), none, .load 1 false (.t 3), []⟩,
      ⟨(some 5), none, .len true (.t 4), []⟩,
      ⟨(some 6), none, .bin .leq (.t 5) (.c (.int .i64 40)), []⟩,
      ⟨(some 7), none, .mov (.t 6), []⟩,
      ⟨(some 8), (some (7, true)), .faddr 1 (.t 1), []⟩,
      ⟨(some 9), (some (7, true)), .load 1 false (.t 8), []⟩,
      ⟨(some 10), (some (7, true)), .bin .geq (.t 9) (.c (.int .i64 0)), []⟩,
      ⟨(some 11), none, .pick (.t 7) (.t 10) (.c (.bool false)), []⟩,
      ⟨(some 12), none, .mov (.t 11), []⟩,
      ⟨(some 13), (some (12, true)), .faddr 1 (.t 1), []⟩,
      ⟨(some 14), (some (12, true)), .load 1 false (.t 13), []⟩,
      ⟨(some 15), (some (12, true)), .bin .leq (.t 14) (.c (.int .i64 1000000000000)), []⟩,
      ⟨(some 16), none, .pick (.t 12) (.t 15) (.c (.bool false)), []⟩,
      ⟨(some 17), none, .mov (.t 16), []⟩,
      ⟨(some 18), (some (17, true)), .faddr 2 (.t 1), []⟩,
      ⟨(some 19), (some (17, true)), .load 1 false (.t 18), []⟩,
      ⟨(some 20), (some (17, true)), .bin .geq (.t 19) (.c (.int .i64 0)), []⟩,
      ⟨(some 21), none, .pick (.t 17) (.t 20) (.c (.bool false)), []⟩,
      ⟨(some 22), none, .mov (.t 21), []⟩,
      ⟨(some 23), (some (22, true)), .faddr 2 (.t 1), []⟩,
      ⟨(some 24), (some (22, true)), .load 1 false (.t 23), []⟩,
      ⟨(some 25), (some (22, true)), .bin .leq (.t 24) (.c (.int .i64 1000000000000)), []⟩,
      ⟨(some 26), none, .pick (.t 22) (.t 25) (.c (.bool false)), []⟩,
      ⟨(some 27), none, .mov (.t 26), []⟩,
      ⟨(some 28), (some (27, true)), .faddr 3 (.t 1), []⟩,
      ⟨(some 29), (some (27, true)), .load 1 false (.t 28), []⟩,
      ⟨(some 30), (some (27, true)), .bin .geq (.t 29) (.c (.int .i64 0)), []⟩,
      ⟨(some 31), none, .pick (.t 27) (.t 30) (.c (.bool false)), []⟩,
      ⟨(some 32), none, .mov (.t 31), []⟩,
      ⟨(some 33), (some (32, true)), .faddr 3 (.t 1), []⟩,
      ⟨(some 34), (some (32, true)), .load 1 false (.t 33), []⟩,
      ⟨(some 35), (some (32, true)), .bin .leq (.t 34) (.c (.int .i64 1000000000000000)), []⟩,
      ⟨(some 36), none, .pick (.t 32) (.t 35) (.c (.bool false)), []⟩,
      ⟨(some 2), none, .mov (.t 36), []⟩] false)
  (.ret))
def ref29_Valid : IFn := ⟨1, 37, [.tmp 2], false, ref29_Valid_c⟩

/-- function 23: orchestrator/ lease.Holds -/
def lease_Holds_c : IR :=
  .seq (.reg [⟨(some 3), none, .box 4 (.t 0), []⟩,
      ⟨(some 6), none, .mov (.c (.bool false)), []⟩] false)
  (.seq (.reg [⟨(some 7), none, .load 4 true (.t 3), []⟩,
      ⟨(some 8), none, .call false (.f 21) [.t 7], []⟩,
      ⟨(some 9), none, .mov (.t 8), []⟩,
      ⟨(some 10), (some (9, true)), .mov (.t 1), []⟩,
      ⟨(some 11), (some (9, true)), .bin .neq (.t 10) (.c (.str ⟨#[]⟩)), []⟩,
      ⟨(some 12), none, .pick (.t 9) (.t 11) (.c (.bool false)), []⟩,
      ⟨(some 13), none, .mov (.t 12), []⟩,
      ⟨(some 14), (some (13, true)), .faddr 0 (.t 3), []⟩,
      ⟨(some 15), (some (13, true)), .load 1 false (.t 14), []⟩,
      ⟨(some 16), (some (13, true)), .mov (.t 1), []⟩,
      ⟨(some 17), (some (13, true)), .bin .eql (.t 15) (.t 16), []⟩,
      ⟨(some 18), none, .pick (.t 13) (.t 17) (.c (.bool false)), []⟩,
      ⟨(some 19), none, .mov (.t 18), []⟩,
      ⟨(some 20), (some (19, true)), .mov (.t 2), []⟩,
      ⟨(some 21), (some (19, true)), .faddr 1 (.t 3), []⟩,
      ⟨(some 22), (some (19, true)), .load 1 false (.t 21), []⟩,
      ⟨(some 23), (some (19, true)), .faddr 2 (.t 3), []⟩,
      ⟨(some 24), (some (19, true)), .load 1 false (.t 23), []⟩,
      ⟨(some 25), (some (19, true)), .bin .add (.t 22) (.t 24), []⟩,
      ⟨(some 26), (some (19, true)), .bin .lss (.t 20) (.t 25), []⟩,
      ⟨(some 27), none, .pick (.t 19) (.t 26) (.c (.bool false)), []⟩,
      ⟨(some 6), none, .mov (.t 27), []⟩] false)
  (.ret))
def lease_Holds : IFn := ⟨3, 28, [.tmp 6], false, lease_Holds_c⟩

/-- function 24: orchestrator/ orchestratorref29.Holds -/
def ref29_Holds_c : IR :=
  .seq (.reg [⟨(some 3), none, .box 4 (.t 0), []⟩,
      ⟨(some 6), none, .mov (.c (.bool false)), []⟩] false)
  (.seq (.reg [⟨(some 7), none, .load 4 true (.t 3), []⟩,
      ⟨(some 8), none, .call false (.f 22) [.t 7], []⟩,
      ⟨(some 9), none, .mov (.t 8), []⟩,
      ⟨(some 10), (some (9, true)), .mov (.t 1), []⟩,
      ⟨(some 11), (some (9, true)), .bin .neq (.t 10) (.c (.str ⟨#[]⟩)), []⟩,
      ⟨(some 12), none, .pick (.t 9) (.t 11) (.c (.bool false)), []⟩,
      ⟨(some 13), none, .mov (.t 12), []⟩,
      ⟨(some 14), (some (13, true)), .mov (.t 1), []⟩,
      ⟨(some 15), (some (13, true)), .faddr 0 (.t 3), []⟩,
      ⟨(some 16), (some (13, true)), .load 1 false (.t 15), []⟩,
      ⟨(some 17), (some (13, true)), .bin .eql (.t 14) (.t 16), []⟩,
      ⟨(some 18), none, .pick (.t 13) (.t 17) (.c (.bool false)), []⟩,
      ⟨(some 19), none, .mov (.t 18), []⟩,
      ⟨(some 20), (some (19, true)), .mov (.t 2), []⟩,
      ⟨(some 21), (some (19, true)), .faddr 1 (.t 3), []⟩,
      ⟨(some 22), (some (19, true)), .load 1 false (.t 21), []⟩,
      ⟨(some 23), (some (19, true)), .faddr 2 (.t 3), []⟩,
      ⟨(some 24), (some (19, true)), .load 1 false (.t 23), []⟩,
      ⟨(some 25), (some (19, true)), .bin .add (.t 22) (.t 24), []⟩,
      ⟨(some 26), (some (19, true)), .bin .lss (.t 20) (.t 25), []⟩,
      ⟨(some 27), none, .pick (.t 19) (.t 26) (.c (.bool false)), []⟩,
      ⟨(some 6), none, .mov (.t 27), []⟩] false)
  (.ret))
def ref29_Holds : IFn := ⟨3, 28, [.tmp 6], false, ref29_Holds_c⟩

/-- function 25: orchestrator/ lease.Release -/
def lease_Release_c : IR :=
  .seq (.reg [⟨(some 2), none, .box 4 (.t 0), []⟩,
      ⟨(some 4), none, .zero [.str ⟨#[]⟩, .int .i64 0, .int .i64 0, .int .i64 0], []⟩] false)
  (.seq (.seq (.reg [⟨(some 5), none, .load 4 true (.t 2), []⟩,
        ⟨(some 6), none, .call false (.f 21) [.t 5], []⟩,
        ⟨(some 7), none, .mov (.t 6), []⟩,
        ⟨(some 8), (some (7, true)), .mov (.t 1), []⟩,
        ⟨(some 9), (some (7, true)), .bin .neq (.t 8) (.c (.str ⟨#[]⟩)), []⟩,
        ⟨(some 10), none, .pick (.t 7) (.t 9) (.c (.bool false)), []⟩,
        ⟨(some 11), none, .mov (.t 10), []⟩,
        ⟨(some 12), (some (11, true)), .faddr 0 (.t 2), []⟩,
        ⟨(some 13), (some (11, true)), .load 1 false (.t 12), []⟩,
        ⟨(some 14), (some (11, true)), .mov (.t 1), []⟩,
        ⟨(some 15), (some (11, true)), .bin .eql (.t 13) (.t 14), []⟩,
        ⟨(some 16), none, .pick (.t 11) (.t 15) (.c (.bool false)), []⟩] false)
    (.cond (.t 16) (.reg [⟨(some 17), none, .faddr 0 (.t 2), []⟩,
        ⟨none, none, .store 1 (.t 17) (.c (.str ⟨#[]⟩)), []⟩] false)
      (.skip)))
  (.seq (.reg [⟨(some 18), none, .load 4 true (.t 2), []⟩,
      ⟨none, none, .store 4 (.t 4) (.t 18), []⟩] false)
  (.ret)))
def lease_Release : IFn := ⟨2, 19, [.cell 4 4 true], false, lease_Release_c⟩

/-- function 26: orchestrator/ orchestratorref29.Release -/
def ref29_Release_c : IR :=
  .seq (.reg [⟨(some 2), none, .box 4 (.t 0), []⟩,
      ⟨(some 4), none, .zero [.str ⟨#[]⟩, .int .i64 0, .int .i64 0, .int .i64 0], []⟩] false)
  (.seq (.seq (.reg [⟨(some 5), none, .load 4 true (.t 2), []⟩,
        ⟨(some 6), none, .call false (.f 22) [.t 5], []⟩,
        ⟨(some 7), none, .mov (.t 6), []⟩,
        ⟨(some 8), (some (7, true)), .mov (.t 1), []⟩,
        ⟨(some 9), (some (7, true)), .bin .neq (.t 8) (.c (.str ⟨#[]⟩)), []⟩,
        ⟨(some 10), none, .pick (.t 7) (.t 9) (.c (.bool false)), []⟩,
        ⟨(some 11), none, .mov (.t 10), []⟩,
        ⟨(some 12), (some (11, true)), .mov (.t 1), []⟩,
        ⟨(some 13), (some (11, true)), .faddr 0 (.t 2), []⟩,
        ⟨(some 14), (some (11, true)), .load 1 false (.t 13), []⟩,
        ⟨(some 15), (some (11, true)), .bin .eql (.t 12) (.t 14), []⟩,
        ⟨(some 16), none, .pick (.t 11) (.t 15) (.c (.bool false)), []⟩] false)
    (.cond (.t 16) (.seq (.reg [⟨(some 17), none, .faddr 1 (.t 2), []⟩,
          ⟨(some 18), none, .load 1 false (.t 17), []⟩,
          ⟨(some 19), none, .faddr 2 (.t 2), []⟩,
          ⟨(some 20), none, .load 1 false (.t 19), []⟩,
          ⟨(some 21), none, .faddr 3 (.t 2), []⟩,
          ⟨(some 22), none, .load 1 false (.t 21), []⟩,
          ⟨(some 23), none, .build [.str ⟨#[]⟩, .int .i64 0, .int .i64 0, .int .i64 0] [(1, 1, .t 18), (2, 1, .t 20), (3, 1, .t 22)], []⟩,
          ⟨none, none, .store 4 (.t 4) (.t 23), []⟩] false)
      (.ret))
      (.skip)))
  (.seq (.reg [⟨(some 24), none, .load 4 true (.t 2), []⟩,
      ⟨none, none, .store 4 (.t 4) (.t 24), []⟩] false)
  (.ret)))
def ref29_Release : IFn := ⟨2, 25, [.cell 4 4 true], false, ref29_Release_c⟩

/-- function 27: orchestrator/ probe.after -/
def probe_after_c : IR :=
  .seq (.reg [⟨(some 4), none, .mov (.c (.int .i64 0)), []⟩] false)
  (.seq (.reg [⟨(some 5), none, .mov (.t 0), []⟩,
      ⟨(some 6), none, .call false (.f 28) [.t 5, .c (.int .i64 0), .c (.int .i64 1000000000000)], []⟩,
      ⟨(some 7), none, .mov (.t 1), []⟩,
      ⟨(some 8), none, .bin .add (.t 6) (.t 7), []⟩,
      ⟨(some 9), none, .mnmx false (.t 8) [.c (.int .i64 1000000000000)], []⟩,
      ⟨(some 4), none, .mov (.t 9), []⟩] false)
  (.ret))
def probe_after : IFn := ⟨2, 10, [.tmp 4], false, probe_after_c⟩

/-- function 28: orchestrator/ probe.clamp -/
def probe_clamp_c : IR :=
  .seq (.reg [⟨(some 6), none, .mov (.c (.int .i64 0)), []⟩] false)
  (.seq (.reg [⟨(some 7), none, .mov (.t 0), []⟩,
      ⟨(some 8), none, .mov (.t 1), []⟩,
      ⟨(some 9), none, .mnmx true (.t 7) [.t 8], []⟩,
      ⟨(some 10), none, .mov (.t 2), []⟩,
      ⟨(some 11), none, .mnmx false (.t 9) [.t 10], []⟩,
      ⟨(some 6), none, .mov (.t 11), []⟩] false)
  (.ret))
def probe_clamp : IFn := ⟨3, 12, [.tmp 6], false, probe_clamp_c⟩

/-- function 29: orchestrator/ orchestratorref34.time -/
def ref34_time_c : IR :=
  .seq (.reg [⟨(some 2), none, .mov (.c (.int .i64 0)), []⟩] false)
  (.seq (.reg [⟨(some 3), none, .mov (.t 0), []⟩,
      ⟨(some 4), none, .call false (.f 31) [.t 3, .c (.int .i64 0), .c (.int .i64 1000000000000)], []⟩,
      ⟨(some 2), none, .mov (.t 4), []⟩] false)
  (.ret))
def ref34_time : IFn := ⟨1, 5, [.tmp 2], false, ref34_time_c⟩

/-- function 30: orchestrator/ probe.Step$1 -/
def probe_Step_1_c : IR :=
  .seq (.reg [⟨(some 2), none, .mov (.c (.int .i64 0)), []⟩] false)
  (.seq (.reg [⟨(some 3), none, .mov (.t 0), []⟩,
      ⟨(some 4), none, .call false (.f 28) [.t 3, .c (.int .i64 0), .c (.int .i64 1000000000000000)], []⟩,
      ⟨(some 5), none, .bin .add (.t 4) (.c (.int .i64 1)), []⟩,
      ⟨(some 6), none, .mnmx false (.t 5) [.c (.int .i64 1000000000000000)], []⟩,
      ⟨(some 2), none, .mov (.t 6), []⟩] false)
  (.ret))
def probe_Step_1 : IFn := ⟨1, 7, [.tmp 2], false, probe_Step_1_c⟩

/-- function 31: orchestrator/ orchestratorref01.Clamp -/
def ref01_Clamp_c : IR :=
  .seq (.reg [⟨(some 6), none, .mov (.c (.int .i64 0)), []⟩] false)
  (.seq (.reg [⟨(some 7), none, .mov (.t 0), []⟩,
      ⟨(some 8), none, .mov (.t 1), []⟩,
      ⟨(some 9), none, .mnmx true (.t 7) [.t 8], []⟩,
      ⟨(some 10), none, .mov (.t 2), []⟩,
      ⟨(some 11), none, .mnmx false (.t 9) [.t 10], []⟩,
      ⟨(some 6), none, .mov (.t 11), []⟩] false)
  (.ret))
def ref01_Clamp : IFn := ⟨3, 12, [.tmp 6], false, ref01_Clamp_c⟩

/-- function 32: orchestrator/ lease.within -/
def lease_within_c : IR :=
  .seq (.reg [⟨(some 4), none, .mov (.c (.bool false)), []⟩] false)
  (.seq (.reg [⟨(some 5), none, .mov (.t 0), []⟩,
      ⟨(some 6), none, .bin .geq (.t 5) (.c (.int .i64 0)), []⟩,
      ⟨(some 7), none, .mov (.t 6), []⟩,
      ⟨(some 8), (some (7, true)), .mov (.t 0), []⟩,
      ⟨(some 9), (some (7, true)), .mov (.t 1), []⟩,
      ⟨(some 10), (some (7, true)), .bin .leq (.t 8) (.t 9), []⟩,
      ⟨(some 11), none, .pick (.t 7) (.t 10) (.c (.bool false)), []⟩,
      ⟨(some 4), none, .mov (.t 11), []⟩] false)
  (.ret))
def lease_within : IFn := ⟨2, 12, [.tmp 4], false, lease_within_c⟩

def table : List (Nat × Fun) :=
  [(3, .ir law34_ProbeBegins),
   (4, .ir law34_ProbeSteps),
   (5, .ir law34_ProbeThresholds),
   (6, .ir law34_ProbeOne),
   (7, .ir law29_LeaseTries),
   (8, .ir law29_LeaseExclusive),
   (9, .ir law29_LeaseKeeps),
   (10, .ir law29_LeaseSwitches),
   (11, .ir probe_Begin),
   (12, .ir ref34_Begin),
   (13, .ir probe_Due),
   (14, .ir ref34_Due),
   (15, .ir law34_awake),
   (16, .ir probe_Step),
   (17, .ir ref34_Step),
   (18, .ir lease_Try),
   (19, .ir ref29_Try),
   (20, .ir law29_lives),
   (21, .ir lease_Valid),
   (22, .ir ref29_Valid),
   (23, .ir lease_Holds),
   (24, .ir ref29_Holds),
   (25, .ir lease_Release),
   (26, .ir ref29_Release),
   (27, .ir probe_after),
   (28, .ir probe_clamp),
   (29, .ir ref34_time),
   (30, .ir probe_Step_1),
   (31, .ir ref01_Clamp),
   (32, .ir lease_within)]
end Go.Proofs.Ytgdipcoknfhobaa.Ir
