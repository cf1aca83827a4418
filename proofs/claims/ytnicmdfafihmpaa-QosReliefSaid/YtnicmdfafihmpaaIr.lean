/- The seat's functions as the evaluator takes them; printed by a program, checked against the given ones in YtnicmdfafihmpaaTie. -/
import Derived.Test.YtnicmdfafihmpaaPvA
namespace Go.Proofs.Ytnicmdfafihmpaa.Ir
open Go.Pv

/-- function 3: orchestrator/ orchestratorlaw51.QosClass -/
def law51_QosClass_b0_live : List Nat := [100001, 1, 3, 4]
def law51_QosClass_b0 : IR :=
  .seq (.seq (.reg [⟨(some 16), none, .mov (.t 4), []⟩,
          ⟨(some 17), none, .bin .geq (.t 16) (.c (.int .i64 0)), []⟩] false)
      (.cond (.t 17) (.skip)
        (.exit 0)))
    (.seq (.block 1 (.reg [⟨(some 20), none, .faddr 4 (.t 3), []⟩,
          ⟨(some 21), none, .load 1 false (.t 20), [0]⟩,
          ⟨(some 22), none, .faddr 4 (.t 1), []⟩,
          ⟨(some 23), none, .load 1 false (.t 22), [2]⟩,
          ⟨(some 24), none, .mov (.t 4), []⟩,
          ⟨(some 25), none, .iaddr 11 (.t 23) (.t 24), [2, 3, 4]⟩,
          ⟨(some 26), none, .load 11 true (.t 25), [2, 3, 4, 5]⟩,
          ⟨(some 27), none, .lit 11 1 [.str ⟨#[]⟩, .str ⟨#[]⟩, .int .i64 0, .int .i64 0, .int .i64 0, .int .i64 0, .int .i64 0, .int .i64 0, .ns 4, .ns 4, .ns 4] [(0, .t 26)], [2, 3, 4, 5, 6]⟩,
          ⟨(some 28), none, .append 11 152 (.t 21) (.t 27), [0, 1, 2, 3, 4, 5, 6, 7]⟩,
          ⟨(some 29), none, .faddr 4 (.t 3), [0, 1, 2, 3, 4, 5, 6, 7, 8]⟩,
          ⟨none, none, .store 1 (.t 29) (.t 28), [0, 1, 2, 3, 4, 5, 6, 7, 8, 9]⟩] true))
    (.reg [⟨(some 18), none, .mov (.t 4), []⟩,
      ⟨(some 19), none, .bin .sub (.t 18) (.c (.int .i64 1)), []⟩,
      ⟨(some 4), none, .mov (.t 19), []⟩] false))
def law51_QosClass_c : IR :=
  .seq (.reg [⟨(some 1), none, .box 10 (.t 0), []⟩,
      ⟨(some 2), none, .mov (.c (.bool false)), []⟩] false)
  (.seq (.seq (.reg [⟨(some 5), none, .faddr 4 (.t 1), []⟩,
        ⟨(some 6), none, .load 1 false (.t 5), []⟩,
        ⟨(some 7), none, .len false (.t 6), []⟩,
        ⟨(some 8), none, .bin .gtr (.t 7) (.c (.int .i64 50)), []⟩] false)
    (.cond (.t 8) (.seq (.reg [⟨(some 9), none, .call false (.f 7) [], []⟩,
          ⟨(some 2), none, .mov (.t 9), []⟩] false)
      (.ret))
      (.skip)))
  (.seq (.reg [⟨(some 10), none, .load 10 true (.t 1), []⟩,
      ⟨(some 3), none, .zero [.str ⟨#[]⟩, .int .i64 0, .int .i64 0, .int .i64 0, .ns 11, .ns 3, .ns 3, .ns 5, .ns 4, .ns 5], []⟩,
      ⟨none, none, .store 10 (.t 3) (.t 10), []⟩] false)
  (.seq (.reg [⟨(some 11), none, .faddr 4 (.t 3), []⟩,
      ⟨none, none, .store 1 (.t 11) (.c (.ns 11)), []⟩] false)
  (.seq (.seq (.reg [⟨(some 12), none, .faddr 4 (.t 1), []⟩,
        ⟨(some 13), none, .load 1 false (.t 12), []⟩,
        ⟨(some 14), none, .len false (.t 13), []⟩,
        ⟨(some 15), none, .bin .sub (.t 14) (.c (.int .i64 1)), []⟩,
        ⟨(some 4), none, .mov (.t 15), []⟩] false)
    (.block 0 (.loop law51_QosClass_b0_live law51_QosClass_b0)))
  (.seq (.reg [⟨(some 30), none, .call false (.f 7) [], []⟩,
      ⟨(some 31), none, .mov (.t 30), [0]⟩,
      ⟨(some 32), (some (31, true)), .load 10 true (.t 1), [0, 1]⟩,
      ⟨(some 33), (some (31, true)), .call false (.f 8) [.t 32], [0, 1, 2]⟩,
      ⟨(some 34), (some (31, true)), .load 10 true (.t 1), [0, 1]⟩,
      ⟨(some 35), (some (31, true)), .call false (.f 9) [.t 34], [0, 1, 2, 3, 4]⟩,
      ⟨(some 36), (some (31, true)), .bin .eql (.t 33) (.t 35), [0, 1, 2, 3, 4, 5]⟩,
      ⟨(some 37), none, .pick (.t 31) (.t 36) (.c (.bool false)), [0, 1, 2, 3, 4, 5, 6]⟩,
      ⟨(some 38), none, .mov (.t 37), [0, 1, 2, 3, 4, 5, 6, 7]⟩,
      ⟨(some 39), (some (38, true)), .load 10 true (.t 3), [0, 1, 2, 3, 4, 5, 6, 7, 8]⟩,
      ⟨(some 40), (some (38, true)), .call false (.f 8) [.t 39], [0, 1, 2, 3, 4, 5, 6, 7, 8, 9]⟩,
      ⟨(some 41), (some (38, true)), .load 10 true (.t 1), [0, 1, 2, 3, 4, 5, 6, 7, 8]⟩,
      ⟨(some 42), (some (38, true)), .call false (.f 8) [.t 41], [0, 1, 2, 3, 4, 5, 6, 7, 8, 9, 10, 11]⟩,
      ⟨(some 43), (some (38, true)), .bin .eql (.t 40) (.t 42), [0, 1, 2, 3, 4, 5, 6, 7, 8, 9, 10, 11, 12]⟩,
      ⟨(some 44), none, .pick (.t 38) (.t 43) (.c (.bool false)), [0, 1, 2, 3, 4, 5, 6, 7, 8, 9, 10, 11, 12, 13]⟩,
      ⟨(some 2), none, .mov (.t 44), [0, 1, 2, 3, 4, 5, 6, 7, 8, 9, 10, 11, 12, 13, 14]⟩] true)
  (.ret))))))
def law51_QosClass : IFn := ⟨1, 45, [.tmp 2], false, law51_QosClass_c⟩

/-- function 4: orchestrator/ orchestratorlaw51.QosRanks -/
def law51_QosRanks_c : IR :=
  .seq (.reg [⟨(some 8), none, .mov (.c (.bool false)), []⟩] false)
  (.seq (.seq (.reg [⟨(some 9), none, .mov (.t 0), []⟩,
        ⟨(some 10), none, .len false (.t 9), []⟩,
        ⟨(some 11), none, .bin .gtr (.t 10) (.c (.int .i64 40)), []⟩] false)
    (.cond (.t 11) (.seq (.reg [⟨(some 12), none, .call false (.f 7) [], []⟩,
          ⟨(some 8), none, .mov (.t 12), []⟩] false)
      (.ret))
      (.skip)))
  (.seq (.reg [⟨(some 13), none, .call false (.f 7) [], []⟩,
      ⟨(some 14), none, .mov (.t 13), []⟩,
      ⟨(some 15), (some (14, true)), .mov (.t 0), []⟩,
      ⟨(some 16), (some (14, true)), .mov (.t 1), []⟩,
      ⟨(some 17), (some (14, true)), .call false (.f 11) [.t 15, .t 16], []⟩,
      ⟨(some 18), (some (14, true)), .mov (.t 0), []⟩,
      ⟨(some 19), (some (14, true)), .mov (.t 1), []⟩,
      ⟨(some 20), (some (14, true)), .call false (.f 12) [.t 18, .t 19], []⟩,
      ⟨(some 21), (some (14, true)), .call false (.f 10) [.t 17, .t 20], []⟩,
      ⟨(some 22), none, .pick (.t 14) (.t 21) (.c (.bool false)), []⟩,
      ⟨(some 23), none, .mov (.t 22), []⟩,
      ⟨(some 24), (some (23, true)), .mov (.t 0), []⟩,
      ⟨(some 25), (some (23, true)), .mov (.t 1), []⟩,
      ⟨(some 26), (some (23, true)), .mov (.t 2), []⟩,
      ⟨(some 27), (some (23, true)), .mov (.t 3), []⟩,
      ⟨(some 28), (some (23, true)), .call false (.f 13) [.t 24, .t 25, .t 26, .t 27], []⟩,
      ⟨(some 29), (some (23, true)), .mov (.t 0), []⟩,
      ⟨(some 30), (some (23, true)), .mov (.t 1), []⟩,
      ⟨(some 31), (some (23, true)), .mov (.t 2), []⟩,
      ⟨(some 32), (some (23, true)), .mov (.t 3), []⟩,
      ⟨(some 33), (some (23, true)), .call false (.f 14) [.t 29, .t 30, .t 31, .t 32], []⟩,
      ⟨(some 34), (some (23, true)), .call false (.f 10) [.t 28, .t 33], []⟩,
      ⟨(some 35), none, .pick (.t 23) (.t 34) (.c (.bool false)), []⟩,
      ⟨(some 8), none, .mov (.t 35), []⟩] false)
  (.ret)))
def law51_QosRanks : IFn := ⟨4, 36, [.tmp 8], false, law51_QosRanks_c⟩

/-- function 5: orchestrator/ orchestratorlaw51.QosRelief -/
def law51_QosRelief_b0_live : List Nat := [100002, 0, 1, 3, 9, 10, 11, 12, 13]
def law51_QosRelief_b0 : IR :=
  .seq (.seq (.reg [⟨(some 60), none, .mov (.t 13), []⟩,
          ⟨(some 61), none, .mov (.t 9), []⟩,
          ⟨(some 62), none, .len false (.t 61), []⟩,
          ⟨(some 63), none, .bin .lss (.t 60) (.t 62), []⟩] false)
      (.cond (.t 63) (.skip)
        (.exit 0)))
    (.seq (.block 1 (.seq (.reg [⟨(some 66), none, .mov (.t 0), []⟩,
            ⟨(some 67), none, .mov (.t 9), []⟩,
            ⟨(some 68), none, .mov (.t 13), []⟩,
            ⟨(some 69), none, .iaddr 1 (.t 67) (.t 68), []⟩,
            ⟨(some 70), none, .load 1 false (.t 69), []⟩,
            ⟨(some 71), none, .call false (.f 16) [.t 66, .t 70], []⟩,
            ⟨(some 14), none, .mov (.t 71), []⟩] false)
        (.seq (.seq (.reg [⟨(some 72), none, .mov (.t 14), []⟩,
              ⟨(some 73), none, .bin .lss (.t 72) (.c (.int .i64 0)), []⟩,
              ⟨(some 74), none, .mov (.t 73), []⟩,
              ⟨(some 75), (some (74, false)), .mov (.t 11), []⟩,
              ⟨(some 76), (some (74, false)), .mov (.t 14), []⟩,
              ⟨(some 77), (some (74, false)), .iaddr 1 (.t 75) (.t 76), []⟩,
              ⟨(some 78), (some (74, false)), .load 1 false (.t 77), []⟩,
              ⟨(some 79), none, .pick (.t 74) (.c (.bool true)) (.t 78), []⟩] false)
          (.cond (.t 79) (.seq (.reg [⟨(some 8), none, .mov (.c (.bool false)), []⟩] false)
            (.ret))
            (.skip)))
        (.seq (.reg [⟨(some 80), none, .mov (.t 11), []⟩,
            ⟨(some 81), none, .mov (.t 14), []⟩,
            ⟨(some 82), none, .iaddr 1 (.t 80) (.t 81), []⟩,
            ⟨none, none, .store 1 (.t 82) (.c (.bool true)), []⟩] false)
        (.seq (.seq (.reg [⟨(some 83), none, .mov (.t 13), []⟩,
              ⟨(some 84), none, .mov (.t 10), []⟩,
              ⟨(some 85), none, .len false (.t 84), []⟩,
              ⟨(some 86), none, .bin .geq (.t 83) (.t 85), []⟩] false)
          (.cond (.t 86) (.exit 1)
            (.skip)))
        (.seq (.seq (.reg [⟨(some 87), none, .mov (.t 10), []⟩,
              ⟨(some 88), none, .mov (.t 13), []⟩,
              ⟨(some 89), none, .iaddr 1 (.t 87) (.t 88), [0, 1]⟩,
              ⟨(some 90), none, .load 1 false (.t 89), [0, 1, 2]⟩,
              ⟨(some 91), none, .mov (.t 9), []⟩,
              ⟨(some 92), none, .mov (.t 13), []⟩,
              ⟨(some 93), none, .iaddr 1 (.t 91) (.t 92), [4, 5]⟩,
              ⟨(some 94), none, .load 1 false (.t 93), [4, 5, 6]⟩,
              ⟨(some 95), none, .bin .neq (.t 90) (.t 94), [0, 1, 2, 3, 4, 5, 6, 7]⟩,
              ⟨(some 96), none, .mov (.t 95), [0, 1, 2, 3, 4, 5, 6, 7, 8]⟩,
              ⟨(some 97), (some (96, false)), .mov (.t 12), [0, 1, 2, 3, 4, 5, 6, 7, 8, 9]⟩,
              ⟨(some 98), (some (96, false)), .mov (.t 3), [0, 1, 2, 3, 4, 5, 6, 7, 8, 9]⟩,
              ⟨(some 99), (some (96, false)), .bin .leq (.t 97) (.t 98), [0, 1, 2, 3, 4, 5, 6, 7, 8, 9, 10, 11]⟩,
              ⟨(some 100), none, .pick (.t 96) (.c (.bool true)) (.t 99), [0, 1, 2, 3, 4, 5, 6, 7, 8, 9, 10, 11, 12]⟩] true)
          (.cond (.t 100) (.seq (.reg [⟨(some 8), none, .mov (.c (.bool false)), []⟩] false)
            (.ret))
            (.skip)))
        (.reg [⟨(some 101), none, .mov (.t 12), []⟩,
          ⟨(some 102), none, .mov (.t 1), []⟩,
          ⟨(some 103), none, .mov (.t 14), []⟩,
          ⟨(some 104), none, .iaddr 1 (.t 102) (.t 103), []⟩,
          ⟨(some 105), none, .load 1 false (.t 104), []⟩,
          ⟨(some 106), none, .bin .sub (.t 101) (.t 105), []⟩,
          ⟨(some 12), none, .mov (.t 106), []⟩] false)))))))
    (.reg [⟨(some 64), none, .mov (.t 13), []⟩,
      ⟨(some 65), none, .bin .add (.t 64) (.c (.int .i64 1)), []⟩,
      ⟨(some 13), none, .mov (.t 65), []⟩] false))
def law51_QosRelief_c : IR :=
  .seq (.reg [⟨(some 8), none, .mov (.c (.bool false)), []⟩] false)
  (.seq (.seq (.reg [⟨(some 15), none, .mov (.t 0), []⟩,
        ⟨(some 16), none, .mov (.t 1), []⟩,
        ⟨(some 17), none, .call false (.f 15) [.t 15, .t 16], []⟩,
        ⟨(some 18), none, .un .not (.t 17), []⟩,
        ⟨(some 19), none, .mov (.t 18), []⟩,
        ⟨(some 20), (some (19, false)), .mov (.t 2), []⟩,
        ⟨(some 21), (some (19, false)), .bin .lss (.t 20) (.c (.int .i64 0)), []⟩,
        ⟨(some 22), none, .pick (.t 19) (.c (.bool true)) (.t 21), []⟩,
        ⟨(some 23), none, .mov (.t 22), []⟩,
        ⟨(some 24), (some (23, false)), .mov (.t 2), []⟩,
        ⟨(some 25), (some (23, false)), .bin .gtr (.t 24) (.c (.int .i64 1000000000000000)), []⟩,
        ⟨(some 26), none, .pick (.t 23) (.c (.bool true)) (.t 25), []⟩,
        ⟨(some 27), none, .mov (.t 26), []⟩,
        ⟨(some 28), (some (27, false)), .mov (.t 3), []⟩,
        ⟨(some 29), (some (27, false)), .bin .lss (.t 28) (.c (.int .i64 0)), []⟩,
        ⟨(some 30), none, .pick (.t 27) (.c (.bool true)) (.t 29), []⟩,
        ⟨(some 31), none, .mov (.t 30), []⟩,
        ⟨(some 32), (some (31, false)), .mov (.t 3), []⟩,
        ⟨(some 33), (some (31, false)), .bin .gtr (.t 32) (.c (.int .i64 1000000000000000)), []⟩,
        ⟨(some 34), none, .pick (.t 31) (.c (.bool true)) (.t 33), []⟩] false)
    (.cond (.t 34) (.seq (.reg [⟨(some 35), none, .call false (.f 7) [], []⟩,
          ⟨(some 8), none, .mov (.t 35), []⟩] false)
      (.ret))
      (.skip)))
  (.seq (.reg [⟨(some 36), none, .mov (.t 0), []⟩,
      ⟨(some 37), none, .mov (.t 1), []⟩,
      ⟨(some 38), none, .call false (.f 11) [.t 36, .t 37], []⟩,
      ⟨(some 9), none, .mov (.t 38), []⟩] false)
  (.seq (.reg [⟨(some 39), none, .mov (.t 0), []⟩,
      ⟨(some 40), none, .mov (.t 1), []⟩,
      ⟨(some 41), none, .mov (.t 2), []⟩,
      ⟨(some 42), none, .mov (.t 3), []⟩,
      ⟨(some 43), none, .call false (.f 13) [.t 39, .t 40, .t 41, .t 42], []⟩,
      ⟨(some 10), none, .mov (.t 43), []⟩] false)
  (.seq (.seq (.reg [⟨(some 44), none, .mov (.t 9), []⟩,
        ⟨(some 45), none, .len false (.t 44), []⟩,
        ⟨(some 46), none, .mov (.t 0), []⟩,
        ⟨(some 47), none, .len false (.t 46), []⟩,
        ⟨(some 48), none, .bin .neq (.t 45) (.t 47), []⟩,
        ⟨(some 49), none, .mov (.t 48), []⟩,
        ⟨(some 50), (some (49, false)), .mov (.t 10), []⟩,
        ⟨(some 51), (some (49, false)), .len false (.t 50), []⟩,
        ⟨(some 52), (some (49, false)), .mov (.t 9), []⟩,
        ⟨(some 53), (some (49, false)), .len false (.t 52), []⟩,
        ⟨(some 54), (some (49, false)), .bin .gtr (.t 51) (.t 53), []⟩,
        ⟨(some 55), none, .pick (.t 49) (.c (.bool true)) (.t 54), []⟩] false)
    (.cond (.t 55) (.seq (.reg [⟨(some 8), none, .mov (.c (.bool false)), []⟩] false)
      (.ret))
      (.skip)))
  (.seq (.reg [⟨(some 56), none, .mov (.t 0), []⟩,
      ⟨(some 57), none, .len false (.t 56), []⟩,
      ⟨(some 58), none, .mks 1 1 [.bool false] (.t 57), []⟩,
      ⟨(some 11), none, .mov (.t 58), []⟩] false)
  (.seq (.reg [⟨(some 59), none, .mov (.t 2), []⟩,
      ⟨(some 12), none, .mov (.t 59), []⟩] false)
  (.seq (.seq (.reg [⟨(some 13), none, .mov (.c (.int .i64 0)), []⟩] false)
    (.block 0 (.loop law51_QosRelief_b0_live law51_QosRelief_b0)))
  (.seq (.reg [⟨(some 107), none, .call false (.f 7) [], []⟩,
      ⟨(some 108), none, .mov (.t 107), []⟩,
      ⟨(some 109), (some (108, true)), .mov (.t 12), []⟩,
      ⟨(some 110), (some (108, true)), .mov (.t 3), []⟩,
      ⟨(some 111), (some (108, true)), .bin .leq (.t 109) (.t 110), []⟩,
      ⟨(some 112), (some (108, true)), .mov (.t 111), []⟩,
      ⟨(some 113), (some (112, false)), .mov (.t 10), []⟩,
      ⟨(some 114), (some (112, false)), .len false (.t 113), []⟩,
      ⟨(some 115), (some (112, false)), .mov (.t 0), []⟩,
      ⟨(some 116), (some (112, false)), .len false (.t 115), []⟩,
      ⟨(some 117), (some (112, false)), .bin .eql (.t 114) (.t 116), []⟩,
      ⟨(some 118), (some (108, true)), .pick (.t 112) (.c (.bool true)) (.t 117), []⟩,
      ⟨(some 119), none, .pick (.t 108) (.t 118) (.c (.bool false)), []⟩,
      ⟨(some 8), none, .mov (.t 119), []⟩] false)
  (.ret)))))))))
def law51_QosRelief : IFn := ⟨4, 120, [.tmp 8], false, law51_QosRelief_c⟩

/-- function 6: orchestrator/ orchestratorlaw51.QosRises -/
def law51_QosRises_c : IR :=
  .seq (.reg [⟨(some 8), none, .mov (.c (.bool false)), []⟩] false)
  (.seq (.seq (.reg [⟨(some 13), none, .mov (.t 0), []⟩,
        ⟨(some 14), none, .mov (.t 1), []⟩,
        ⟨(some 15), none, .call false (.f 15) [.t 13, .t 14], []⟩,
        ⟨(some 16), none, .un .not (.t 15), []⟩,
        ⟨(some 17), none, .mov (.t 16), []⟩,
        ⟨(some 18), (some (17, false)), .mov (.t 2), []⟩,
        ⟨(some 19), (some (17, false)), .bin .lss (.t 18) (.c (.int .i64 0)), []⟩,
        ⟨(some 20), none, .pick (.t 17) (.c (.bool true)) (.t 19), []⟩,
        ⟨(some 21), none, .mov (.t 20), []⟩,
        ⟨(some 22), (some (21, false)), .mov (.t 2), []⟩,
        ⟨(some 23), (some (21, false)), .mov (.t 0), []⟩,
        ⟨(some 24), (some (21, false)), .len false (.t 23), []⟩,
        ⟨(some 25), (some (21, false)), .bin .geq (.t 22) (.t 24), []⟩,
        ⟨(some 26), none, .pick (.t 21) (.c (.bool true)) (.t 25), []⟩,
        ⟨(some 27), none, .mov (.t 26), []⟩,
        ⟨(some 28), (some (27, false)), .mov (.t 3), []⟩,
        ⟨(some 29), (some (27, false)), .bin .lss (.t 28) (.c (.int .i64 0)), []⟩,
        ⟨(some 30), none, .pick (.t 27) (.c (.bool true)) (.t 29), []⟩,
        ⟨(some 31), none, .mov (.t 30), []⟩,
        ⟨(some 32), (some (31, false)), .mov (.t 3), []⟩,
        ⟨(some 33), (some (31, false)), .mov (.t 1), []⟩,
        ⟨(some 34), (some (31, false)), .mov (.t 2), []⟩,
        ⟨(some 35), (some (31, false)), .iaddr 1 (.t 33) (.t 34), []⟩,
        ⟨(some 36), (some (31, false)), .load 1 false (.t 35), []⟩,
        ⟨(some 37), (some (31, false)), .bin .sub (.c (.int .i64 1000000000000000)) (.t 36), []⟩,
        ⟨(some 38), (some (31, false)), .bin .gtr (.t 32) (.t 37), []⟩,
        ⟨(some 39), none, .pick (.t 31) (.c (.bool true)) (.t 38), []⟩] false)
    (.cond (.t 39) (.seq (.reg [⟨(some 40), none, .call false (.f 7) [], []⟩,
          ⟨(some 8), none, .mov (.t 40), []⟩] false)
      (.ret))
      (.skip)))
  (.seq (.reg [⟨(some 41), none, .mov (.t 0), []⟩,
      ⟨(some 42), none, .mov (.t 2), []⟩,
      ⟨(some 43), none, .iaddr 32 (.t 41) (.t 42), []⟩,
      ⟨(some 44), none, .faddr 0 (.t 43), []⟩,
      ⟨(some 45), none, .load 13 true (.t 44), []⟩,
      ⟨(some 46), none, .call false (.f 17) [.t 45], []⟩,
      ⟨(some 9), none, .mov (.t 46), []⟩] false)
  (.seq (.reg [⟨(some 47), none, .mov (.t 0), []⟩,
      ⟨(some 48), none, .mov (.t 1), []⟩,
      ⟨(some 49), none, .call false (.f 11) [.t 47, .t 48], []⟩,
      ⟨(some 50), none, .mov (.t 9), []⟩,
      ⟨(some 51), none, .call false (.f 18) [.t 49, .t 50], []⟩,
      ⟨(some 10), none, .mov (.t 51), []⟩] false)
  (.seq (.reg [⟨(some 11), none, .mov (.c (.ns 1)), []⟩] false)
  (.seq (.reg [⟨(some 52), none, .mov (.t 11), []⟩,
      ⟨(some 53), none, .mov (.t 1), []⟩,
      ⟨(some 54), none, .append 1 8 (.t 52) (.t 53), []⟩,
      ⟨(some 11), none, .mov (.t 54), []⟩] false)
  (.seq (.reg [⟨(some 55), none, .mov (.t 11), []⟩,
      ⟨(some 56), none, .mov (.t 2), []⟩,
      ⟨(some 57), none, .mov (.t 1), []⟩,
      ⟨(some 58), none, .mov (.t 2), []⟩,
      ⟨(some 59), none, .iaddr 1 (.t 57) (.t 58), []⟩,
      ⟨(some 60), none, .load 1 false (.t 59), []⟩,
      ⟨(some 61), none, .mov (.t 3), []⟩,
      ⟨(some 62), none, .bin .add (.t 60) (.t 61), []⟩,
      ⟨(some 63), none, .iaddr 1 (.t 55) (.t 56), []⟩,
      ⟨none, none, .store 1 (.t 63) (.t 62), []⟩] false)
  (.seq (.reg [⟨(some 64), none, .mov (.t 0), []⟩,
      ⟨(some 65), none, .mov (.t 11), []⟩,
      ⟨(some 66), none, .call false (.f 11) [.t 64, .t 65], []⟩,
      ⟨(some 67), none, .mov (.t 9), []⟩,
      ⟨(some 68), none, .call false (.f 18) [.t 66, .t 67], []⟩,
      ⟨(some 12), none, .mov (.t 68), []⟩] false)
  (.seq (.reg [⟨(some 69), none, .call false (.f 7) [], []⟩,
      ⟨(some 70), none, .mov (.t 69), []⟩,
      ⟨(some 71), (some (70, true)), .mov (.t 10), []⟩,
      ⟨(some 72), (some (70, true)), .bin .geq (.t 71) (.c (.int .i64 0)), []⟩,
      ⟨(some 73), none, .pick (.t 70) (.t 72) (.c (.bool false)), []⟩,
      ⟨(some 74), none, .mov (.t 73), []⟩,
      ⟨(some 75), (some (74, true)), .mov (.t 12), []⟩,
      ⟨(some 76), (some (74, true)), .bin .geq (.t 75) (.c (.int .i64 0)), []⟩,
      ⟨(some 77), none, .pick (.t 74) (.t 76) (.c (.bool false)), []⟩,
      ⟨(some 78), none, .mov (.t 77), []⟩,
      ⟨(some 79), (some (78, true)), .mov (.t 12), []⟩,
      ⟨(some 80), (some (78, true)), .mov (.t 10), []⟩,
      ⟨(some 81), (some (78, true)), .bin .leq (.t 79) (.t 80), []⟩,
      ⟨(some 82), none, .pick (.t 78) (.t 81) (.c (.bool false)), []⟩,
      ⟨(some 8), none, .mov (.t 82), []⟩] false)
  (.ret)))))))))
def law51_QosRises : IFn := ⟨4, 83, [.tmp 8], false, law51_QosRises_c⟩

/-- function 7: orchestrator/ orchestratorlaw51.lives -/
def law51_lives_c : IR :=
  .seq (.reg [⟨(some 0), none, .mov (.c (.bool false)), []⟩] false)
  (.seq (.reg [⟨(some 4), none, .call false (.f 19) [.c (.str ⟨#[97]⟩), .c (.int .i64 0), .c (.int .i64 50)], []⟩,
      ⟨(some 5), none, .call false (.f 19) [.c (.str ⟨#[98]⟩), .c (.int .i64 0), .c (.int .i64 50)], []⟩,
      ⟨(some 6), none, .call false (.f 19) [.c (.str ⟨#[99]⟩), .c (.int .i64 5), .c (.int .i64 0)], []⟩,
      ⟨(some 7), none, .lit 32 3 [.str ⟨#[]⟩, .str ⟨#[]⟩, .str ⟨#[]⟩, .int .i64 0, .int .i64 0, .int .i64 0, .int .i64 0, .bool false, .int .i64 0, .ns 2, .ns 5, .ns 1, .ns 2, .str ⟨#[]⟩, .int .i64 0, .int .i64 0, .int .i64 0, .ns 11, .ns 3, .ns 3, .ns 5, .ns 4, .ns 5, .int .i64 0, .bool false, .int .i64 0, .int .i64 0, .int .i64 0, .ns 7, .int .i64 0, .str ⟨#[]⟩, .str ⟨#[]⟩] [(0, .t 4), (1, .t 5), (2, .t 6)], []⟩,
      ⟨(some 1), none, .mov (.t 7), []⟩] false)
  (.seq (.reg [⟨(some 8), none, .build [.int .i64 0, .int .i64 0, .int .i64 0] [(0, 1, .c (.int .i64 500)), (1, 1, .c (.int .i64 100))], []⟩,
      ⟨(some 2), none, .zero [.int .i64 0, .int .i64 0, .int .i64 0], []⟩,
      ⟨none, none, .store 3 (.t 2) (.t 8), []⟩] false)
  (.seq (.reg [⟨(some 9), none, .load 3 true (.t 2), []⟩,
      ⟨(some 10), none, .load 3 true (.t 2), []⟩,
      ⟨(some 11), none, .build [.str ⟨#[]⟩, .str ⟨#[]⟩, .int .i64 0, .int .i64 0, .int .i64 0, .int .i64 0, .int .i64 0, .int .i64 0, .ns 4, .ns 4, .ns 4] [(2, 3, .t 9), (5, 3, .t 10)], []⟩,
      ⟨(some 12), none, .lit 11 1 [.str ⟨#[]⟩, .str ⟨#[]⟩, .int .i64 0, .int .i64 0, .int .i64 0, .int .i64 0, .int .i64 0, .int .i64 0, .ns 4, .ns 4, .ns 4] [(0, .t 11)], []⟩,
      ⟨(some 13), none, .build [.str ⟨#[]⟩, .int .i64 0, .int .i64 0, .int .i64 0, .ns 11, .ns 3, .ns 3, .ns 5, .ns 4, .ns 5] [(4, 1, .t 12)], []⟩,
      ⟨(some 3), none, .zero [.str ⟨#[]⟩, .int .i64 0, .int .i64 0, .int .i64 0, .ns 11, .ns 3, .ns 3, .ns 5, .ns 4, .ns 5], []⟩,
      ⟨none, none, .store 10 (.t 3) (.t 13), []⟩] false)
  (.seq (.reg [⟨(some 14), none, .load 10 true (.t 3), []⟩,
      ⟨(some 15), none, .call false (.f 8) [.t 14], []⟩,
      ⟨(some 16), none, .bin .eql (.t 15) (.c (.int .i64 2)), []⟩,
      ⟨(some 17), none, .mov (.t 16), []⟩,
      ⟨(some 18), (some (17, true)), .mov (.t 1), []⟩,
      ⟨(some 19), (some (17, true)), .iaddr 32 (.t 18) (.c (.int .i64 0)), []⟩,
      ⟨(some 20), (some (17, true)), .faddr 13 (.t 19), []⟩,
      ⟨(some 21), (some (17, true)), .load 10 true (.t 20), []⟩,
      ⟨(some 22), (some (17, true)), .call false (.f 8) [.t 21], []⟩,
      ⟨(some 23), (some (17, true)), .bin .eql (.t 22) (.c (.int .i64 1)), []⟩,
      ⟨(some 24), none, .pick (.t 17) (.t 23) (.c (.bool false)), []⟩,
      ⟨(some 25), none, .mov (.t 24), []⟩,
      ⟨(some 26), (some (25, true)), .mov (.t 1), []⟩,
      ⟨(some 27), (some (25, true)), .iaddr 32 (.t 26) (.c (.int .i64 2)), []⟩,
      ⟨(some 28), (some (25, true)), .faddr 13 (.t 27), []⟩,
      ⟨(some 29), (some (25, true)), .load 10 true (.t 28), []⟩,
      ⟨(some 30), (some (25, true)), .call false (.f 8) [.t 29], []⟩,
      ⟨(some 31), (some (25, true)), .bin .eql (.t 30) (.c (.int .i64 0)), []⟩,
      ⟨(some 32), none, .pick (.t 25) (.t 31) (.c (.bool false)), []⟩,
      ⟨(some 33), none, .mov (.t 32), []⟩,
      ⟨(some 34), (some (33, true)), .mov (.t 1), []⟩,
      ⟨(some 35), (some (33, true)), .lit 1 3 [.int .i64 0] [(0, .c (.int .i64 40)), (1, .c (.int .i64 60)), (2, .c (.int .i64 30))], []⟩,
      ⟨(some 36), (some (33, true)), .call false (.f 11) [.t 34, .t 35], []⟩,
      ⟨(some 37), (some (33, true)), .lit 1 3 [.str ⟨#[]⟩] [(0, .c (.str ⟨#[80, 111, 100, 47, 120, 47, 98]⟩)), (1, .c (.str ⟨#[80, 111, 100, 47, 120, 47, 99]⟩)), (2, .c (.str ⟨#[80, 111, 100, 47, 120, 47, 97]⟩))], []⟩,
      ⟨(some 38), (some (33, true)), .call false (.f 10) [.t 36, .t 37], []⟩,
      ⟨(some 39), none, .pick (.t 33) (.t 38) (.c (.bool false)), []⟩,
      ⟨(some 40), none, .mov (.t 39), []⟩,
      ⟨(some 41), (some (40, true)), .mov (.t 1), []⟩,
      ⟨(some 42), (some (40, true)), .lit 1 3 [.int .i64 0] [(0, .c (.int .i64 40)), (1, .c (.int .i64 60)), (2, .c (.int .i64 30))], []⟩,
      ⟨(some 43), (some (40, true)), .call false (.f 13) [.t 41, .t 42, .c (.int .i64 130), .c (.int .i64 80)], []⟩,
      ⟨(some 44), (some (40, true)), .lit 1 1 [.str ⟨#[]⟩] [(0, .c (.str ⟨#[80, 111, 100, 47, 120, 47, 98]⟩))], []⟩,
      ⟨(some 45), (some (40, true)), .call false (.f 10) [.t 43, .t 44], []⟩,
      ⟨(some 46), none, .pick (.t 40) (.t 45) (.c (.bool false)), []⟩,
      ⟨(some 47), none, .mov (.t 46), []⟩,
      ⟨(some 48), (some (47, true)), .mov (.t 1), []⟩,
      ⟨(some 49), (some (47, true)), .lit 1 3 [.int .i64 0] [(0, .c (.int .i64 40)), (1, .c (.int .i64 60)), (2, .c (.int .i64 30))], []⟩,
      ⟨(some 50), (some (47, true)), .call false (.f 13) [.t 48, .t 49, .c (.int .i64 130), .c (.int .i64 60)], []⟩,
      ⟨(some 51), (some (47, true)), .lit 1 2 [.str ⟨#[]⟩] [(0, .c (.str ⟨#[80, 111, 100, 47, 120, 47, 98]⟩)), (1, .c (.str ⟨#[80, 111, 100, 47, 120, 47, 99]⟩))], []⟩,
      ⟨(some 52), (some (47, true)), .call false (.f 10) [.t 50, .t 51], []⟩,
      ⟨(some 53), none, .pick (.t 47) (.t 52) (.c (.bool false)), []⟩,
      ⟨(some 0), none, .mov (.t 53), []⟩] false)
  (.ret)))))
def law51_lives : IFn := ⟨0, 54, [.tmp 0], false, law51_lives_c⟩

/-- function 8: orchestrator/ qos.Class -/
def qos_Class_b0_live : List Nat := [100003, 3, 4, 12, 13, 14]
def qos_Class_b0 : IR :=
  .seq (.reg [⟨(some 15), none, .bin .lss (.t 14) (.t 13), []⟩] false)
    (.seq (.cond (.t 15) (.skip)
        (.exit 0))
    (.seq (.block 1 (.seq (.reg [⟨(some 16), none, .iaddr 11 (.t 12) (.t 14), []⟩,
            ⟨(some 17), none, .load 11 true (.t 16), []⟩,
            ⟨(some 6), none, .zero [.str ⟨#[]⟩, .str ⟨#[]⟩, .int .i64 0, .int .i64 0, .int .i64 0, .int .i64 0, .int .i64 0, .int .i64 0, .ns 4, .ns 4, .ns 4], []⟩,
            ⟨none, none, .store 11 (.t 6) (.t 17), []⟩] false)
        (.seq (.reg [⟨(some 18), none, .faddr 2 (.t 6), []⟩,
            ⟨(some 19), none, .faddr 0 (.t 18), [0]⟩,
            ⟨(some 20), none, .load 1 false (.t 19), [0, 1]⟩,
            ⟨(some 21), none, .call false (.f 20) [.t 20], [0, 1, 2]⟩,
            ⟨(some 22), none, .faddr 2 (.t 6), []⟩,
            ⟨(some 23), none, .faddr 1 (.t 22), [4]⟩,
            ⟨(some 24), none, .load 1 false (.t 23), [4, 5]⟩,
            ⟨(some 25), none, .call false (.f 20) [.t 24], [0, 1, 2, 3, 4, 5, 6]⟩,
            ⟨(some 7), none, .mov (.t 21), [0, 1, 2, 3, 4, 5, 6, 7]⟩,
            ⟨(some 8), none, .mov (.t 25), [0, 1, 2, 3, 4, 5, 6, 7, 8]⟩] true)
        (.seq (.reg [⟨(some 26), none, .faddr 5 (.t 6), []⟩,
            ⟨(some 27), none, .faddr 0 (.t 26), [0]⟩,
            ⟨(some 28), none, .load 1 false (.t 27), [0, 1]⟩,
            ⟨(some 29), none, .call false (.f 20) [.t 28], [0, 1, 2]⟩,
            ⟨(some 30), none, .faddr 5 (.t 6), []⟩,
            ⟨(some 31), none, .faddr 1 (.t 30), [4]⟩,
            ⟨(some 32), none, .load 1 false (.t 31), [4, 5]⟩,
            ⟨(some 33), none, .call false (.f 20) [.t 32], [0, 1, 2, 3, 4, 5, 6]⟩,
            ⟨(some 9), none, .mov (.t 29), [0, 1, 2, 3, 4, 5, 6, 7]⟩,
            ⟨(some 10), none, .mov (.t 33), [0, 1, 2, 3, 4, 5, 6, 7, 8]⟩] true)
        (.seq (.seq (.reg [⟨(some 34), none, .mov (.t 7), []⟩,
              ⟨(some 35), none, .bin .eql (.t 34) (.c (.int .i64 0)), []⟩,
              ⟨(some 36), none, .mov (.t 35), []⟩,
              ⟨(some 37), (some (36, false)), .mov (.t 8), []⟩,
              ⟨(some 38), (some (36, false)), .bin .eql (.t 37) (.c (.int .i64 0)), []⟩,
              ⟨(some 39), none, .pick (.t 36) (.c (.bool true)) (.t 38), []⟩,
              ⟨(some 40), none, .mov (.t 39), []⟩,
              ⟨(some 41), (some (40, false)), .mov (.t 7), []⟩,
              ⟨(some 42), (some (40, false)), .mov (.t 9), []⟩,
              ⟨(some 43), (some (40, false)), .bin .neq (.t 41) (.t 42), []⟩,
              ⟨(some 44), none, .pick (.t 40) (.c (.bool true)) (.t 43), []⟩,
              ⟨(some 45), none, .mov (.t 44), []⟩,
              ⟨(some 46), (some (45, false)), .mov (.t 8), []⟩,
              ⟨(some 47), (some (45, false)), .mov (.t 10), []⟩,
              ⟨(some 48), (some (45, false)), .bin .neq (.t 46) (.t 47), []⟩,
              ⟨(some 49), none, .pick (.t 45) (.c (.bool true)) (.t 48), []⟩] false)
          (.cond (.t 49) (.reg [⟨(some 3), none, .mov (.c (.int .i64 1)), []⟩] false)
            (.skip)))
        (.reg [⟨(some 50), none, .mov (.t 4), []⟩,
          ⟨(some 51), none, .mov (.t 50), []⟩,
          ⟨(some 52), (some (51, false)), .mov (.t 7), []⟩,
          ⟨(some 53), (some (51, false)), .mov (.t 8), []⟩,
          ⟨(some 54), (some (51, false)), .bin .add (.t 52) (.t 53), []⟩,
          ⟨(some 55), (some (51, false)), .mov (.t 9), []⟩,
          ⟨(some 56), (some (51, false)), .bin .add (.t 54) (.t 55), []⟩,
          ⟨(some 57), (some (51, false)), .mov (.t 10), []⟩,
          ⟨(some 58), (some (51, false)), .bin .add (.t 56) (.t 57), []⟩,
          ⟨(some 59), (some (51, false)), .bin .gtr (.t 58) (.c (.int .i64 0)), []⟩,
          ⟨(some 60), none, .pick (.t 51) (.c (.bool true)) (.t 59), []⟩,
          ⟨(some 4), none, .mov (.t 60), []⟩] false))))))
    (.reg [⟨(some 61), none, .bin .add (.t 14) (.c (.int .i64 1)), []⟩,
      ⟨(some 14), none, .mov (.t 61), []⟩] false)))
def qos_Class_c : IR :=
  .seq (.reg [⟨(some 1), none, .box 10 (.t 0), []⟩,
      ⟨(some 2), none, .mov (.c (.int .i64 0)), []⟩] false)
  (.seq (.reg [⟨(some 3), none, .mov (.c (.int .i64 2)), []⟩] false)
  (.seq (.reg [⟨(some 4), none, .mov (.c (.bool false)), []⟩] false)
  (.seq (.seq (.reg [⟨(some 11), none, .faddr 4 (.t 1), []⟩,
        ⟨(some 12), none, .load 1 false (.t 11), []⟩,
        ⟨(some 13), none, .len false (.t 12), []⟩,
        ⟨(some 14), none, .mov (.c (.int .i64 0)), []⟩] false)
    (.block 0 (.loop qos_Class_b0_live qos_Class_b0)))
  (.seq (.seq (.reg [⟨(some 62), none, .mov (.t 4), []⟩,
        ⟨(some 63), none, .un .not (.t 62), []⟩] false)
    (.cond (.t 63) (.seq (.reg [⟨(some 2), none, .mov (.c (.int .i64 0)), []⟩] false)
      (.ret))
      (.skip)))
  (.seq (.reg [⟨(some 64), none, .mov (.t 3), []⟩,
      ⟨(some 2), none, .mov (.t 64), []⟩] false)
  (.ret))))))
def qos_Class : IFn := ⟨1, 65, [.tmp 2], false, qos_Class_c⟩

/-- function 9: orchestrator/ orchestratorref51.Class -/
def ref51_Class_b0_live : List Nat := [100004, 1, 3, 4, 5]
def ref51_Class_b0 : IR :=
  .seq (.seq (.reg [⟨(some 15), none, .mov (.t 5), []⟩,
          ⟨(some 16), none, .faddr 4 (.t 1), []⟩,
          ⟨(some 17), none, .load 1 false (.t 16), []⟩,
          ⟨(some 18), none, .len false (.t 17), []⟩,
          ⟨(some 19), none, .bin .lss (.t 15) (.t 18), []⟩] false)
      (.cond (.t 19) (.skip)
        (.exit 0)))
    (.seq (.block 1 (.seq (.reg [⟨(some 22), none, .faddr 4 (.t 1), []⟩,
            ⟨(some 23), none, .load 1 false (.t 22), []⟩,
            ⟨(some 24), none, .mov (.t 5), []⟩,
            ⟨(some 25), none, .iaddr 11 (.t 23) (.t 24), []⟩,
            ⟨(some 26), none, .load 11 true (.t 25), []⟩,
            ⟨(some 6), none, .zero [.str ⟨#[]⟩, .str ⟨#[]⟩, .int .i64 0, .int .i64 0, .int .i64 0, .int .i64 0, .int .i64 0, .int .i64 0, .ns 4, .ns 4, .ns 4], []⟩,
            ⟨none, none, .store 11 (.t 6) (.t 26), []⟩] false)
        (.seq (.reg [⟨(some 27), none, .faddr 2 (.t 6), []⟩,
            ⟨(some 28), none, .faddr 0 (.t 27), [0]⟩,
            ⟨(some 29), none, .load 1 false (.t 28), [0, 1]⟩,
            ⟨(some 30), none, .call false (.f 21) [.t 29], [0, 1, 2]⟩,
            ⟨(some 31), none, .faddr 2 (.t 6), []⟩,
            ⟨(some 32), none, .faddr 1 (.t 31), [4]⟩,
            ⟨(some 33), none, .load 1 false (.t 32), [4, 5]⟩,
            ⟨(some 34), none, .call false (.f 21) [.t 33], [0, 1, 2, 3, 4, 5, 6]⟩,
            ⟨(some 7), none, .mov (.t 30), [0, 1, 2, 3, 4, 5, 6, 7]⟩,
            ⟨(some 8), none, .mov (.t 34), [0, 1, 2, 3, 4, 5, 6, 7, 8]⟩] true)
        (.seq (.reg [⟨(some 35), none, .faddr 5 (.t 6), []⟩,
            ⟨(some 36), none, .faddr 0 (.t 35), [0]⟩,
            ⟨(some 37), none, .load 1 false (.t 36), [0, 1]⟩,
            ⟨(some 38), none, .call false (.f 21) [.t 37], [0, 1, 2]⟩,
            ⟨(some 39), none, .faddr 5 (.t 6), []⟩,
            ⟨(some 40), none, .faddr 1 (.t 39), [4]⟩,
            ⟨(some 41), none, .load 1 false (.t 40), [4, 5]⟩,
            ⟨(some 42), none, .call false (.f 21) [.t 41], [0, 1, 2, 3, 4, 5, 6]⟩,
            ⟨(some 9), none, .mov (.t 38), [0, 1, 2, 3, 4, 5, 6, 7]⟩,
            ⟨(some 10), none, .mov (.t 42), [0, 1, 2, 3, 4, 5, 6, 7, 8]⟩] true)
        (.seq (.reg [⟨(some 43), none, .mov (.t 3), []⟩,
            ⟨(some 44), none, .mov (.t 43), []⟩,
            ⟨(some 45), (some (44, true)), .mov (.t 7), []⟩,
            ⟨(some 46), (some (44, true)), .bin .gtr (.t 45) (.c (.int .i64 0)), []⟩,
            ⟨(some 47), none, .pick (.t 44) (.t 46) (.c (.bool false)), []⟩,
            ⟨(some 48), none, .mov (.t 47), []⟩,
            ⟨(some 49), (some (48, true)), .mov (.t 8), []⟩,
            ⟨(some 50), (some (48, true)), .bin .gtr (.t 49) (.c (.int .i64 0)), []⟩,
            ⟨(some 51), none, .pick (.t 48) (.t 50) (.c (.bool false)), []⟩,
            ⟨(some 52), none, .mov (.t 51), []⟩,
            ⟨(some 53), (some (52, true)), .mov (.t 7), []⟩,
            ⟨(some 54), (some (52, true)), .mov (.t 9), []⟩,
            ⟨(some 55), (some (52, true)), .bin .eql (.t 53) (.t 54), []⟩,
            ⟨(some 56), none, .pick (.t 52) (.t 55) (.c (.bool false)), []⟩,
            ⟨(some 57), none, .mov (.t 56), []⟩,
            ⟨(some 58), (some (57, true)), .mov (.t 8), []⟩,
            ⟨(some 59), (some (57, true)), .mov (.t 10), []⟩,
            ⟨(some 60), (some (57, true)), .bin .eql (.t 58) (.t 59), []⟩,
            ⟨(some 61), none, .pick (.t 57) (.t 60) (.c (.bool false)), []⟩,
            ⟨(some 3), none, .mov (.t 61), []⟩] false)
        (.reg [⟨(some 62), none, .mov (.t 4), []⟩,
          ⟨(some 63), none, .mov (.t 62), []⟩,
          ⟨(some 64), (some (63, true)), .mov (.t 7), []⟩,
          ⟨(some 65), (some (63, true)), .bin .eql (.t 64) (.c (.int .i64 0)), []⟩,
          ⟨(some 66), none, .pick (.t 63) (.t 65) (.c (.bool false)), []⟩,
          ⟨(some 67), none, .mov (.t 66), []⟩,
          ⟨(some 68), (some (67, true)), .mov (.t 8), []⟩,
          ⟨(some 69), (some (67, true)), .bin .eql (.t 68) (.c (.int .i64 0)), []⟩,
          ⟨(some 70), none, .pick (.t 67) (.t 69) (.c (.bool false)), []⟩,
          ⟨(some 71), none, .mov (.t 70), []⟩,
          ⟨(some 72), (some (71, true)), .mov (.t 9), []⟩,
          ⟨(some 73), (some (71, true)), .bin .eql (.t 72) (.c (.int .i64 0)), []⟩,
          ⟨(some 74), none, .pick (.t 71) (.t 73) (.c (.bool false)), []⟩,
          ⟨(some 75), none, .mov (.t 74), []⟩,
          ⟨(some 76), (some (75, true)), .mov (.t 10), []⟩,
          ⟨(some 77), (some (75, true)), .bin .eql (.t 76) (.c (.int .i64 0)), []⟩,
          ⟨(some 78), none, .pick (.t 75) (.t 77) (.c (.bool false)), []⟩,
          ⟨(some 4), none, .mov (.t 78), []⟩] false))))))
    (.reg [⟨(some 20), none, .mov (.t 5), []⟩,
      ⟨(some 21), none, .bin .add (.t 20) (.c (.int .i64 1)), []⟩,
      ⟨(some 5), none, .mov (.t 21), []⟩] false))
def ref51_Class_c : IR :=
  .seq (.reg [⟨(some 1), none, .box 10 (.t 0), []⟩,
      ⟨(some 2), none, .mov (.c (.int .i64 0)), []⟩] false)
  (.seq (.reg [⟨(some 11), none, .faddr 4 (.t 1), []⟩,
      ⟨(some 12), none, .load 1 false (.t 11), []⟩,
      ⟨(some 13), none, .len false (.t 12), []⟩,
      ⟨(some 14), none, .bin .gtr (.t 13) (.c (.int .i64 0)), []⟩,
      ⟨(some 3), none, .mov (.t 14), []⟩,
      ⟨(some 4), none, .mov (.c (.bool true)), []⟩] false)
  (.seq (.seq (.reg [⟨(some 5), none, .mov (.c (.int .i64 0)), []⟩] false)
    (.block 0 (.loop ref51_Class_b0_live ref51_Class_b0)))
  (.seq (.seq (.reg [⟨(some 79), none, .mov (.t 3), []⟩] false)
    (.cond (.t 79) (.seq (.reg [⟨(some 2), none, .mov (.c (.int .i64 2)), []⟩] false)
      (.ret))
      (.skip)))
  (.seq (.seq (.reg [⟨(some 80), none, .mov (.t 4), []⟩] false)
    (.cond (.t 80) (.seq (.reg [⟨(some 2), none, .mov (.c (.int .i64 0)), []⟩] false)
      (.ret))
      (.skip)))
  (.seq (.reg [⟨(some 2), none, .mov (.c (.int .i64 1)), []⟩] false)
  (.ret))))))
def ref51_Class : IFn := ⟨1, 81, [.tmp 2], false, ref51_Class_c⟩

/-- function 10: orchestrator/ orchestratorref51.Strings -/
def ref51_Strings_b0_live : List Nat := [100005, 0, 1, 5]
def ref51_Strings_b0 : IR :=
  .seq (.seq (.reg [⟨(some 11), none, .mov (.t 5), []⟩,
          ⟨(some 12), none, .mov (.t 0), []⟩,
          ⟨(some 13), none, .len false (.t 12), []⟩,
          ⟨(some 14), none, .bin .lss (.t 11) (.t 13), []⟩] false)
      (.cond (.t 14) (.skip)
        (.exit 0)))
    (.seq (.block 1 (.seq (.reg [⟨(some 17), none, .mov (.t 0), []⟩,
            ⟨(some 18), none, .mov (.t 5), []⟩,
            ⟨(some 19), none, .iaddr 1 (.t 17) (.t 18), [0, 1]⟩,
            ⟨(some 20), none, .load 1 false (.t 19), [0, 1, 2]⟩,
            ⟨(some 21), none, .mov (.t 1), []⟩,
            ⟨(some 22), none, .mov (.t 5), []⟩,
            ⟨(some 23), none, .iaddr 1 (.t 21) (.t 22), [4, 5]⟩,
            ⟨(some 24), none, .load 1 false (.t 23), [4, 5, 6]⟩,
            ⟨(some 25), none, .bin .neq (.t 20) (.t 24), [0, 1, 2, 3, 4, 5, 6, 7]⟩] true)
        (.cond (.t 25) (.seq (.reg [⟨(some 4), none, .mov (.c (.bool false)), []⟩] false)
          (.ret))
          (.skip))))
    (.reg [⟨(some 15), none, .mov (.t 5), []⟩,
      ⟨(some 16), none, .bin .add (.t 15) (.c (.int .i64 1)), []⟩,
      ⟨(some 5), none, .mov (.t 16), []⟩] false))
def ref51_Strings_c : IR :=
  .seq (.reg [⟨(some 4), none, .mov (.c (.bool false)), []⟩] false)
  (.seq (.seq (.reg [⟨(some 6), none, .mov (.t 0), []⟩,
        ⟨(some 7), none, .len false (.t 6), []⟩,
        ⟨(some 8), none, .mov (.t 1), []⟩,
        ⟨(some 9), none, .len false (.t 8), []⟩,
        ⟨(some 10), none, .bin .neq (.t 7) (.t 9), []⟩] false)
    (.cond (.t 10) (.seq (.reg [⟨(some 4), none, .mov (.c (.bool false)), []⟩] false)
      (.ret))
      (.skip)))
  (.seq (.seq (.reg [⟨(some 5), none, .mov (.c (.int .i64 0)), []⟩] false)
    (.block 0 (.loop ref51_Strings_b0_live ref51_Strings_b0)))
  (.seq (.reg [⟨(some 4), none, .mov (.c (.bool true)), []⟩] false)
  (.ret))))
def ref51_Strings : IFn := ⟨2, 26, [.tmp 4], false, ref51_Strings_c⟩

/-- function 11: orchestrator/ qos.Rank -/
def qos_Rank_b0_live : List Nat := [100006, 5, 10, 11, 12]
def qos_Rank_b0 : IR :=
  .seq (.reg [⟨(some 13), none, .bin .lss (.t 12) (.t 11), []⟩] false)
    (.seq (.cond (.t 13) (.skip)
        (.exit 0))
    (.seq (.block 1 (.seq (.reg [⟨(some 14), none, .iaddr 4 (.t 10) (.t 12), []⟩,
            ⟨(some 15), none, .load 4 true (.t 14), []⟩,
            ⟨(some 7), none, .zero [.str ⟨#[]⟩, .int .i64 0, .int .i64 0, .int .i64 0], []⟩,
            ⟨none, none, .store 4 (.t 7) (.t 15), []⟩] false)
        (.reg [⟨(some 16), none, .mov (.t 5), []⟩,
          ⟨(some 17), none, .faddr 0 (.t 7), []⟩,
          ⟨(some 18), none, .load 1 false (.t 17), []⟩,
          ⟨(some 19), none, .lit 1 1 [.str ⟨#[]⟩] [(0, .t 18)], []⟩,
          ⟨(some 20), none, .append 1 16 (.t 16) (.t 19), []⟩,
          ⟨(some 5), none, .mov (.t 20), []⟩] false)))
    (.reg [⟨(some 21), none, .bin .add (.t 12) (.c (.int .i64 1)), []⟩,
      ⟨(some 12), none, .mov (.t 21), []⟩] false)))
def qos_Rank_c : IR :=
  .seq (.reg [⟨(some 4), none, .mov (.c (.ns 1)), []⟩] false)
  (.seq (.reg [⟨(some 5), none, .mov (.c (.ns 1)), []⟩] false)
  (.seq (.seq (.reg [⟨(some 8), none, .mov (.t 0), []⟩,
        ⟨(some 9), none, .mov (.t 1), []⟩,
        ⟨(some 10), none, .call false (.f 22) [.t 8, .t 9], []⟩,
        ⟨(some 11), none, .len false (.t 10), []⟩,
        ⟨(some 12), none, .mov (.c (.int .i64 0)), []⟩] false)
    (.block 0 (.loop qos_Rank_b0_live qos_Rank_b0)))
  (.seq (.reg [⟨(some 22), none, .mov (.t 5), []⟩,
      ⟨(some 4), none, .mov (.t 22), []⟩] false)
  (.ret))))
def qos_Rank : IFn := ⟨2, 23, [.tmp 4], false, qos_Rank_c⟩

/-- function 12: orchestrator/ orchestratorref51.Rank -/
def ref51_Rank_b0_live : List Nat := [100007, 0, 5, 6, 7]
def ref51_Rank_b0 : IR :=
  .seq (.seq (.reg [⟨(some 11), none, .mov (.t 7), []⟩,
          ⟨(some 12), none, .mov (.t 5), []⟩,
          ⟨(some 13), none, .len false (.t 12), []⟩,
          ⟨(some 14), none, .bin .lss (.t 11) (.t 13), []⟩] false)
      (.cond (.t 14) (.skip)
        (.exit 0)))
    (.seq (.block 1 (.reg [⟨(some 17), none, .mov (.t 6), []⟩,
          ⟨(some 18), none, .mov (.t 0), []⟩,
          ⟨(some 19), none, .mov (.t 5), []⟩,
          ⟨(some 20), none, .mov (.t 7), []⟩,
          ⟨(some 21), none, .iaddr 1 (.t 19) (.t 20), []⟩,
          ⟨(some 22), none, .load 1 false (.t 21), []⟩,
          ⟨(some 23), none, .iaddr 32 (.t 18) (.t 22), []⟩,
          ⟨(some 24), none, .faddr 0 (.t 23), []⟩,
          ⟨(some 25), none, .load 13 true (.t 24), []⟩,
          ⟨(some 26), none, .call false (.f 24) [.t 25], []⟩,
          ⟨(some 27), none, .lit 1 1 [.str ⟨#[]⟩] [(0, .t 26)], []⟩,
          ⟨(some 28), none, .append 1 16 (.t 17) (.t 27), []⟩,
          ⟨(some 6), none, .mov (.t 28), []⟩] false))
    (.reg [⟨(some 15), none, .mov (.t 7), []⟩,
      ⟨(some 16), none, .bin .add (.t 15) (.c (.int .i64 1)), []⟩,
      ⟨(some 7), none, .mov (.t 16), []⟩] false))
def ref51_Rank_c : IR :=
  .seq (.reg [⟨(some 4), none, .mov (.c (.ns 1)), []⟩] false)
  (.seq (.reg [⟨(some 8), none, .mov (.t 0), []⟩,
      ⟨(some 9), none, .mov (.t 1), []⟩,
      ⟨(some 10), none, .call false (.f 23) [.t 8, .t 9], []⟩,
      ⟨(some 5), none, .mov (.t 10), []⟩] false)
  (.seq (.reg [⟨(some 6), none, .mov (.c (.ns 1)), []⟩] false)
  (.seq (.seq (.reg [⟨(some 7), none, .mov (.c (.int .i64 0)), []⟩] false)
    (.block 0 (.loop ref51_Rank_b0_live ref51_Rank_b0)))
  (.seq (.reg [⟨(some 29), none, .mov (.t 6), []⟩,
      ⟨(some 4), none, .mov (.t 29), []⟩] false)
  (.ret)))))
def ref51_Rank : IFn := ⟨2, 30, [.tmp 4], false, ref51_Rank_c⟩

/-- function 13: orchestrator/ qos.Relieve -/
def qos_Relieve_b0_live : List Nat := [100008, 2, 3, 9, 18, 19, 20]
def qos_Relieve_b0 : IR :=
  .seq (.reg [⟨(some 21), none, .bin .lss (.t 20) (.t 19), []⟩] false)
    (.seq (.cond (.t 21) (.skip)
        (.exit 0))
    (.seq (.block 1 (.seq (.reg [⟨(some 22), none, .iaddr 4 (.t 18) (.t 20), []⟩,
            ⟨(some 23), none, .load 4 true (.t 22), []⟩,
            ⟨(some 11), none, .zero [.str ⟨#[]⟩, .int .i64 0, .int .i64 0, .int .i64 0], []⟩,
            ⟨none, none, .store 4 (.t 11) (.t 23), []⟩] false)
        (.seq (.seq (.reg [⟨(some 24), none, .mov (.t 2), []⟩,
              ⟨(some 25), none, .mov (.t 3), []⟩,
              ⟨(some 26), none, .bin .leq (.t 24) (.t 25), []⟩] false)
          (.cond (.t 26) (.exit 0)
            (.skip)))
        (.seq (.reg [⟨(some 27), none, .mov (.t 2), []⟩,
            ⟨(some 28), none, .faddr 2 (.t 11), []⟩,
            ⟨(some 29), none, .load 1 false (.t 28), []⟩,
            ⟨(some 30), none, .bin .sub (.t 27) (.t 29), []⟩,
            ⟨(some 2), none, .mov (.t 30), []⟩] false)
        (.reg [⟨(some 31), none, .mov (.t 9), []⟩,
          ⟨(some 32), none, .faddr 0 (.t 11), []⟩,
          ⟨(some 33), none, .load 1 false (.t 32), []⟩,
          ⟨(some 34), none, .lit 1 1 [.str ⟨#[]⟩] [(0, .t 33)], []⟩,
          ⟨(some 35), none, .append 1 16 (.t 31) (.t 34), []⟩,
          ⟨(some 9), none, .mov (.t 35), []⟩] false)))))
    (.reg [⟨(some 36), none, .bin .add (.t 20) (.c (.int .i64 1)), []⟩,
      ⟨(some 20), none, .mov (.t 36), []⟩] false)))
def qos_Relieve_c : IR :=
  .seq (.reg [⟨(some 8), none, .mov (.c (.ns 1)), []⟩] false)
  (.seq (.reg [⟨(some 12), none, .mov (.t 2), []⟩,
      ⟨(some 13), none, .call false (.f 20) [.t 12], []⟩,
      ⟨(some 14), none, .mov (.t 3), []⟩,
      ⟨(some 15), none, .call false (.f 20) [.t 14], []⟩,
      ⟨(some 2), none, .mov (.t 13), []⟩,
      ⟨(some 3), none, .mov (.t 15), []⟩] false)
  (.seq (.reg [⟨(some 9), none, .mov (.c (.ns 1)), []⟩] false)
  (.seq (.seq (.reg [⟨(some 16), none, .mov (.t 0), []⟩,
        ⟨(some 17), none, .mov (.t 1), []⟩,
        ⟨(some 18), none, .call false (.f 22) [.t 16, .t 17], []⟩,
        ⟨(some 19), none, .len false (.t 18), []⟩,
        ⟨(some 20), none, .mov (.c (.int .i64 0)), []⟩] false)
    (.block 0 (.loop qos_Relieve_b0_live qos_Relieve_b0)))
  (.seq (.reg [⟨(some 37), none, .mov (.t 9), []⟩,
      ⟨(some 8), none, .mov (.t 37), []⟩] false)
  (.ret)))))
def qos_Relieve : IFn := ⟨4, 38, [.tmp 8], false, qos_Relieve_c⟩

/-- function 14: orchestrator/ orchestratorref51.Relieve -/
def ref51_Relieve_b0_live : List Nat := [100009, 0, 1, 3, 9, 10, 11, 12]
def ref51_Relieve_b0 : IR :=
  .seq (.seq (.reg [⟨(some 18), none, .mov (.t 12), []⟩,
          ⟨(some 19), none, .mov (.t 9), []⟩,
          ⟨(some 20), none, .len false (.t 19), []⟩,
          ⟨(some 21), none, .bin .lss (.t 18) (.t 20), []⟩,
          ⟨(some 22), none, .mov (.t 21), []⟩,
          ⟨(some 23), (some (22, true)), .mov (.t 10), []⟩,
          ⟨(some 24), (some (22, true)), .mov (.t 3), []⟩,
          ⟨(some 25), (some (22, true)), .call false (.f 21) [.t 24], []⟩,
          ⟨(some 26), (some (22, true)), .bin .gtr (.t 23) (.t 25), []⟩,
          ⟨(some 27), none, .pick (.t 22) (.t 26) (.c (.bool false)), []⟩] false)
      (.cond (.t 27) (.skip)
        (.exit 0)))
    (.seq (.block 1 (.seq (.reg [⟨(some 30), none, .mov (.t 11), []⟩,
            ⟨(some 31), none, .mov (.t 0), []⟩,
            ⟨(some 32), none, .mov (.t 9), []⟩,
            ⟨(some 33), none, .mov (.t 12), []⟩,
            ⟨(some 34), none, .iaddr 1 (.t 32) (.t 33), []⟩,
            ⟨(some 35), none, .load 1 false (.t 34), []⟩,
            ⟨(some 36), none, .iaddr 32 (.t 31) (.t 35), []⟩,
            ⟨(some 37), none, .faddr 0 (.t 36), []⟩,
            ⟨(some 38), none, .load 13 true (.t 37), []⟩,
            ⟨(some 39), none, .call false (.f 24) [.t 38], []⟩,
            ⟨(some 40), none, .lit 1 1 [.str ⟨#[]⟩] [(0, .t 39)], []⟩,
            ⟨(some 41), none, .append 1 16 (.t 30) (.t 40), []⟩,
            ⟨(some 11), none, .mov (.t 41), []⟩] false)
        (.reg [⟨(some 42), none, .mov (.t 10), []⟩,
          ⟨(some 43), none, .mov (.t 1), []⟩,
          ⟨(some 44), none, .mov (.t 9), []⟩,
          ⟨(some 45), none, .mov (.t 12), []⟩,
          ⟨(some 46), none, .iaddr 1 (.t 44) (.t 45), []⟩,
          ⟨(some 47), none, .load 1 false (.t 46), []⟩,
          ⟨(some 48), none, .call false (.f 25) [.t 43, .t 47], []⟩,
          ⟨(some 49), none, .bin .sub (.t 42) (.t 48), []⟩,
          ⟨(some 10), none, .mov (.t 49), []⟩] false)))
    (.reg [⟨(some 28), none, .mov (.t 12), []⟩,
      ⟨(some 29), none, .bin .add (.t 28) (.c (.int .i64 1)), []⟩,
      ⟨(some 12), none, .mov (.t 29), []⟩] false))
def ref51_Relieve_c : IR :=
  .seq (.reg [⟨(some 8), none, .mov (.c (.ns 1)), []⟩] false)
  (.seq (.reg [⟨(some 13), none, .mov (.t 0), []⟩,
      ⟨(some 14), none, .mov (.t 1), []⟩,
      ⟨(some 15), none, .call false (.f 23) [.t 13, .t 14], []⟩,
      ⟨(some 9), none, .mov (.t 15), []⟩] false)
  (.seq (.reg [⟨(some 16), none, .mov (.t 2), []⟩,
      ⟨(some 17), none, .call false (.f 21) [.t 16], []⟩,
      ⟨(some 10), none, .mov (.t 17), []⟩] false)
  (.seq (.reg [⟨(some 11), none, .mov (.c (.ns 1)), []⟩] false)
  (.seq (.seq (.reg [⟨(some 12), none, .mov (.c (.int .i64 0)), []⟩] false)
    (.block 0 (.loop ref51_Relieve_b0_live ref51_Relieve_b0)))
  (.seq (.reg [⟨(some 50), none, .mov (.t 11), []⟩,
      ⟨(some 8), none, .mov (.t 50), []⟩] false)
  (.ret))))))
def ref51_Relieve : IFn := ⟨4, 51, [.tmp 8], false, ref51_Relieve_c⟩

/-- function 15: orchestrator/ orchestratorlaw51.fits -/
def law51_fits_b0_live : List Nat := [100010, 0, 1, 5]
def law51_fits_b0 : IR :=
  .seq (.seq (.reg [⟨(some 16), none, .mov (.t 5), []⟩,
          ⟨(some 17), none, .mov (.t 0), []⟩,
          ⟨(some 18), none, .len false (.t 17), []⟩,
          ⟨(some 19), none, .bin .lss (.t 16) (.t 18), []⟩] false)
      (.cond (.t 19) (.skip)
        (.exit 0)))
    (.seq (.block 1 (.seq (.reg [⟨(some 22), none, .mov (.t 0), []⟩,
            ⟨(some 23), none, .mov (.t 0), []⟩,
            ⟨(some 24), none, .mov (.t 5), []⟩,
            ⟨(some 25), none, .iaddr 32 (.t 23) (.t 24), []⟩,
            ⟨(some 26), none, .faddr 0 (.t 25), []⟩,
            ⟨(some 27), none, .load 13 true (.t 26), []⟩,
            ⟨(some 28), none, .call false (.f 17) [.t 27], []⟩,
            ⟨(some 29), none, .call false (.f 16) [.t 22, .t 28], []⟩,
            ⟨(some 30), none, .mov (.t 5), []⟩,
            ⟨(some 31), none, .bin .neq (.t 29) (.t 30), []⟩,
            ⟨(some 32), none, .mov (.t 31), []⟩,
            ⟨(some 33), (some (32, false)), .mov (.t 1), []⟩,
            ⟨(some 34), (some (32, false)), .mov (.t 5), []⟩,
            ⟨(some 35), (some (32, false)), .iaddr 1 (.t 33) (.t 34), []⟩,
            ⟨(some 36), (some (32, false)), .load 1 false (.t 35), []⟩,
            ⟨(some 37), (some (32, false)), .bin .lss (.t 36) (.c (.int .i64 0)), []⟩,
            ⟨(some 38), none, .pick (.t 32) (.c (.bool true)) (.t 37), []⟩,
            ⟨(some 39), none, .mov (.t 38), []⟩,
            ⟨(some 40), (some (39, false)), .mov (.t 1), []⟩,
            ⟨(some 41), (some (39, false)), .mov (.t 5), []⟩,
            ⟨(some 42), (some (39, false)), .iaddr 1 (.t 40) (.t 41), []⟩,
            ⟨(some 43), (some (39, false)), .load 1 false (.t 42), []⟩,
            ⟨(some 44), (some (39, false)), .bin .gtr (.t 43) (.c (.int .i64 1000000000000000)), []⟩,
            ⟨(some 45), none, .pick (.t 39) (.c (.bool true)) (.t 44), []⟩] false)
        (.cond (.t 45) (.seq (.reg [⟨(some 4), none, .mov (.c (.bool false)), []⟩] false)
          (.ret))
          (.skip))))
    (.reg [⟨(some 20), none, .mov (.t 5), []⟩,
      ⟨(some 21), none, .bin .add (.t 20) (.c (.int .i64 1)), []⟩,
      ⟨(some 5), none, .mov (.t 21), []⟩] false))
def law51_fits_c : IR :=
  .seq (.reg [⟨(some 4), none, .mov (.c (.bool false)), []⟩] false)
  (.seq (.seq (.reg [⟨(some 6), none, .mov (.t 0), []⟩,
        ⟨(some 7), none, .len false (.t 6), []⟩,
        ⟨(some 8), none, .bin .gtr (.t 7) (.c (.int .i64 40)), []⟩,
        ⟨(some 9), none, .mov (.t 8), []⟩,
        ⟨(some 10), (some (9, false)), .mov (.t 1), []⟩,
        ⟨(some 11), (some (9, false)), .len false (.t 10), []⟩,
        ⟨(some 12), (some (9, false)), .mov (.t 0), []⟩,
        ⟨(some 13), (some (9, false)), .len false (.t 12), []⟩,
        ⟨(some 14), (some (9, false)), .bin .neq (.t 11) (.t 13), []⟩,
        ⟨(some 15), none, .pick (.t 9) (.c (.bool true)) (.t 14), []⟩] false)
    (.cond (.t 15) (.seq (.reg [⟨(some 4), none, .mov (.c (.bool false)), []⟩] false)
      (.ret))
      (.skip)))
  (.seq (.seq (.reg [⟨(some 5), none, .mov (.c (.int .i64 0)), []⟩] false)
    (.block 0 (.loop law51_fits_b0_live law51_fits_b0)))
  (.seq (.reg [⟨(some 4), none, .mov (.c (.bool true)), []⟩] false)
  (.ret))))
def law51_fits : IFn := ⟨2, 46, [.tmp 4], false, law51_fits_c⟩

/-- function 16: orchestrator/ orchestratorlaw51.index -/
def law51_index_b0_live : List Nat := [100011, 0, 1, 5]
def law51_index_b0 : IR :=
  .seq (.seq (.reg [⟨(some 6), none, .mov (.t 5), []⟩,
          ⟨(some 7), none, .mov (.t 0), []⟩,
          ⟨(some 8), none, .len false (.t 7), []⟩,
          ⟨(some 9), none, .bin .lss (.t 6) (.t 8), []⟩] false)
      (.cond (.t 9) (.skip)
        (.exit 0)))
    (.seq (.block 1 (.seq (.reg [⟨(some 12), none, .mov (.t 0), []⟩,
            ⟨(some 13), none, .mov (.t 5), []⟩,
            ⟨(some 14), none, .iaddr 32 (.t 12) (.t 13), []⟩,
            ⟨(some 15), none, .faddr 0 (.t 14), []⟩,
            ⟨(some 16), none, .load 13 true (.t 15), []⟩,
            ⟨(some 17), none, .call false (.f 17) [.t 16], []⟩,
            ⟨(some 18), none, .mov (.t 1), []⟩,
            ⟨(some 19), none, .bin .eql (.t 17) (.t 18), []⟩] false)
        (.cond (.t 19) (.seq (.reg [⟨(some 20), none, .mov (.t 5), []⟩,
              ⟨(some 4), none, .mov (.t 20), []⟩] false)
          (.ret))
          (.skip))))
    (.reg [⟨(some 10), none, .mov (.t 5), []⟩,
      ⟨(some 11), none, .bin .add (.t 10) (.c (.int .i64 1)), []⟩,
      ⟨(some 5), none, .mov (.t 11), []⟩] false))
def law51_index_c : IR :=
  .seq (.reg [⟨(some 4), none, .mov (.c (.int .i64 0)), []⟩] false)
  (.seq (.seq (.reg [⟨(some 5), none, .mov (.c (.int .i64 0)), []⟩] false)
    (.block 0 (.loop law51_index_b0_live law51_index_b0)))
  (.seq (.reg [⟨(some 4), none, .mov (.c (.int .i64 (-1))), []⟩] false)
  (.ret)))
def law51_index : IFn := ⟨2, 21, [.tmp 4], false, law51_index_c⟩

/-- function 17: orchestrator/ meta.KeyOf -/
def meta_KeyOf_c : IR :=
  .seq (.reg [⟨(some 1), none, .box 13 (.t 0), []⟩,
      ⟨(some 2), none, .mov (.c (.str ⟨#[]⟩)), []⟩] false)
  (.seq (.reg [⟨(some 3), none, .faddr 0 (.t 1), []⟩,
      ⟨(some 4), none, .load 1 false (.t 3), []⟩,
      ⟨(some 5), none, .faddr 1 (.t 1), []⟩,
      ⟨(some 6), none, .load 1 false (.t 5), []⟩,
      ⟨(some 7), none, .faddr 2 (.t 1), []⟩,
      ⟨(some 8), none, .load 1 false (.t 7), []⟩,
      ⟨(some 9), none, .call false (.f 26) [.t 4, .t 6, .t 8], []⟩,
      ⟨(some 2), none, .mov (.t 9), []⟩] false)
  (.ret))
def meta_KeyOf : IFn := ⟨1, 10, [.tmp 2], false, meta_KeyOf_c⟩

/-- function 18: orchestrator/ orchestratorlaw51.place -/
def law51_place_b0_live : List Nat := [100012, 0, 1, 5]
def law51_place_b0 : IR :=
  .seq (.seq (.reg [⟨(some 6), none, .mov (.t 5), []⟩,
          ⟨(some 7), none, .mov (.t 0), []⟩,
          ⟨(some 8), none, .len false (.t 7), []⟩,
          ⟨(some 9), none, .bin .lss (.t 6) (.t 8), []⟩] false)
      (.cond (.t 9) (.skip)
        (.exit 0)))
    (.seq (.block 1 (.seq (.reg [⟨(some 12), none, .mov (.t 0), []⟩,
            ⟨(some 13), none, .mov (.t 5), []⟩,
            ⟨(some 14), none, .iaddr 1 (.t 12) (.t 13), []⟩,
            ⟨(some 15), none, .load 1 false (.t 14), []⟩,
            ⟨(some 16), none, .mov (.t 1), []⟩,
            ⟨(some 17), none, .bin .eql (.t 15) (.t 16), []⟩] false)
        (.cond (.t 17) (.seq (.reg [⟨(some 18), none, .mov (.t 5), []⟩,
              ⟨(some 4), none, .mov (.t 18), []⟩] false)
          (.ret))
          (.skip))))
    (.reg [⟨(some 10), none, .mov (.t 5), []⟩,
      ⟨(some 11), none, .bin .add (.t 10) (.c (.int .i64 1)), []⟩,
      ⟨(some 5), none, .mov (.t 11), []⟩] false))
def law51_place_c : IR :=
  .seq (.reg [⟨(some 4), none, .mov (.c (.int .i64 0)), []⟩] false)
  (.seq (.seq (.reg [⟨(some 5), none, .mov (.c (.int .i64 0)), []⟩] false)
    (.block 0 (.loop law51_place_b0_live law51_place_b0)))
  (.seq (.reg [⟨(some 4), none, .mov (.c (.int .i64 (-1))), []⟩] false)
  (.ret)))
def law51_place : IFn := ⟨2, 19, [.tmp 4], false, law51_place_c⟩

/-- function 19: orchestrator/ orchestratorlaw51.pod -/
def law51_pod_c : IR :=
  .seq (.reg [⟨(some 6), none, .zero [.str ⟨#[]⟩, .str ⟨#[]⟩, .str ⟨#[]⟩, .int .i64 0, .int .i64 0, .int .i64 0, .int .i64 0, .bool false, .int .i64 0, .ns 2, .ns 5, .ns 1, .ns 2, .str ⟨#[]⟩, .int .i64 0, .int .i64 0, .int .i64 0, .ns 11, .ns 3, .ns 3, .ns 5, .ns 4, .ns 5, .int .i64 0, .bool false, .int .i64 0, .int .i64 0, .int .i64 0, .ns 7, .int .i64 0, .str ⟨#[]⟩, .str ⟨#[]⟩], []⟩] false)
  (.seq (.reg [⟨(some 7), none, .mov (.t 0), []⟩,
      ⟨(some 8), none, .build [.str ⟨#[]⟩, .str ⟨#[]⟩, .str ⟨#[]⟩, .int .i64 0, .int .i64 0, .int .i64 0, .int .i64 0, .bool false, .int .i64 0, .ns 2, .ns 5, .ns 1, .ns 2] [(0, 1, .c (.str ⟨#[80, 111, 100]⟩)), (1, 1, .c (.str ⟨#[120]⟩)), (2, 1, .t 7)], []⟩,
      ⟨(some 9), none, .mov (.t 1), []⟩,
      ⟨(some 10), none, .mov (.t 2), []⟩,
      ⟨(some 11), none, .build [.int .i64 0, .int .i64 0, .int .i64 0] [(1, 1, .t 10)], []⟩,
      ⟨(some 12), none, .build [.str ⟨#[]⟩, .str ⟨#[]⟩, .int .i64 0, .int .i64 0, .int .i64 0, .int .i64 0, .int .i64 0, .int .i64 0, .ns 4, .ns 4, .ns 4] [(2, 3, .t 11)], []⟩,
      ⟨(some 13), none, .lit 11 1 [.str ⟨#[]⟩, .str ⟨#[]⟩, .int .i64 0, .int .i64 0, .int .i64 0, .int .i64 0, .int .i64 0, .int .i64 0, .ns 4, .ns 4, .ns 4] [(0, .t 12)], []⟩,
      ⟨(some 14), none, .build [.str ⟨#[]⟩, .int .i64 0, .int .i64 0, .int .i64 0, .ns 11, .ns 3, .ns 3, .ns 5, .ns 4, .ns 5] [(1, 1, .t 9), (4, 1, .t 13)], []⟩,
      ⟨(some 15), none, .build [.str ⟨#[]⟩, .str ⟨#[]⟩, .str ⟨#[]⟩, .int .i64 0, .int .i64 0, .int .i64 0, .int .i64 0, .bool false, .int .i64 0, .ns 2, .ns 5, .ns 1, .ns 2, .str ⟨#[]⟩, .int .i64 0, .int .i64 0, .int .i64 0, .ns 11, .ns 3, .ns 3, .ns 5, .ns 4, .ns 5, .int .i64 0, .bool false, .int .i64 0, .int .i64 0, .int .i64 0, .ns 7, .int .i64 0, .str ⟨#[]⟩, .str ⟨#[]⟩] [(0, 13, .t 8), (13, 10, .t 14)], []⟩,
      ⟨none, none, .store 32 (.t 6) (.t 15), []⟩] false)
  (.ret))
def law51_pod : IFn := ⟨3, 16, [.cell 6 32 true], false, law51_pod_c⟩

/-- function 20: orchestrator/ qos.clamp -/
def qos_clamp_c : IR :=
  .seq (.reg [⟨(some 2), none, .mov (.c (.int .i64 0)), []⟩] false)
  (.seq (.reg [⟨(some 3), none, .mov (.t 0), []⟩,
      ⟨(some 4), none, .mnmx true (.t 3) [.c (.int .i64 0)], []⟩,
      ⟨(some 5), none, .mnmx false (.t 4) [.c (.int .i64 1000000000000000)], []⟩,
      ⟨(some 2), none, .mov (.t 5), []⟩] false)
  (.ret))
def qos_clamp : IFn := ⟨1, 6, [.tmp 2], false, qos_clamp_c⟩

/-- function 21: orchestrator/ orchestratorref51.limit -/
def ref51_limit_c : IR :=
  .seq (.reg [⟨(some 2), none, .mov (.c (.int .i64 0)), []⟩] false)
  (.seq (.reg [⟨(some 3), none, .mov (.t 0), []⟩,
      ⟨(some 4), none, .mnmx true (.c (.int .i64 0)) [.t 3], []⟩,
      ⟨(some 5), none, .mnmx false (.c (.int .i64 1000000000000000)) [.t 4], []⟩,
      ⟨(some 2), none, .mov (.t 5), []⟩] false)
  (.ret))
def ref51_limit : IFn := ⟨1, 6, [.tmp 2], false, ref51_limit_c⟩

/-- function 22: orchestrator/ qos.ranked -/
def qos_ranked_b0_live : List Nat := [100013, 1, 5, 9, 10, 11]
def qos_ranked_b0 : IR :=
  .seq (.reg [⟨(some 12), none, .bin .lss (.t 11) (.t 10), []⟩] false)
    (.seq (.cond (.t 12) (.skip)
        (.exit 0))
    (.seq (.block 1 (.seq (.reg [⟨(some 13), none, .mov (.t 11), []⟩,
            ⟨(some 14), none, .iaddr 32 (.t 9) (.t 11), []⟩,
            ⟨(some 15), none, .load 32 true (.t 14), []⟩,
            ⟨(some 7), none, .zero [.str ⟨#[]⟩, .str ⟨#[]⟩, .str ⟨#[]⟩, .int .i64 0, .int .i64 0, .int .i64 0, .int .i64 0, .bool false, .int .i64 0, .ns 2, .ns 5, .ns 1, .ns 2, .str ⟨#[]⟩, .int .i64 0, .int .i64 0, .int .i64 0, .ns 11, .ns 3, .ns 3, .ns 5, .ns 4, .ns 5, .int .i64 0, .bool false, .int .i64 0, .int .i64 0, .int .i64 0, .ns 7, .int .i64 0, .str ⟨#[]⟩, .str ⟨#[]⟩], []⟩,
            ⟨(some 6), none, .mov (.t 13), []⟩,
            ⟨none, none, .store 32 (.t 7) (.t 15), []⟩] false)
        (.seq (.reg [⟨(some 16), none, .faddr 0 (.t 7), []⟩,
            ⟨(some 17), none, .load 13 true (.t 16), [0]⟩,
            ⟨(some 18), none, .call false (.f 17) [.t 17], [0, 1]⟩,
            ⟨(some 19), none, .faddr 13 (.t 7), []⟩,
            ⟨(some 20), none, .faddr 1 (.t 19), [3]⟩,
            ⟨(some 21), none, .load 1 false (.t 20), [3, 4]⟩,
            ⟨(some 22), none, .build [.str ⟨#[]⟩, .int .i64 0, .int .i64 0, .int .i64 0] [(0, 1, .t 18), (1, 1, .t 21)], [0, 1, 2, 3, 4, 5]⟩,
            ⟨(some 8), none, .zero [.str ⟨#[]⟩, .int .i64 0, .int .i64 0, .int .i64 0], []⟩,
            ⟨none, none, .store 4 (.t 8) (.t 22), [0, 1, 2, 3, 4, 5, 6, 7]⟩] true)
        (.seq (.seq (.reg [⟨(some 23), none, .mov (.t 6), []⟩,
              ⟨(some 24), none, .mov (.t 1), []⟩,
              ⟨(some 25), none, .len false (.t 24), []⟩,
              ⟨(some 26), none, .bin .lss (.t 23) (.t 25), []⟩] false)
          (.cond (.t 26) (.reg [⟨(some 27), none, .mov (.t 1), []⟩,
              ⟨(some 28), none, .mov (.t 6), []⟩,
              ⟨(some 29), none, .iaddr 1 (.t 27) (.t 28), []⟩,
              ⟨(some 30), none, .load 1 false (.t 29), []⟩,
              ⟨(some 31), none, .call false (.f 20) [.t 30], []⟩,
              ⟨(some 32), none, .faddr 2 (.t 8), []⟩,
              ⟨none, none, .store 1 (.t 32) (.t 31), []⟩] false)
            (.skip)))
        (.seq (.reg [⟨(some 33), none, .faddr 2 (.t 8), []⟩,
            ⟨(some 34), none, .load 1 false (.t 33), [0]⟩,
            ⟨(some 35), none, .faddr 13 (.t 7), []⟩,
            ⟨(some 36), none, .load 10 true (.t 35), [2]⟩,
            ⟨(some 37), none, .call false (.f 27) [.t 36], [2, 3]⟩,
            ⟨(some 38), none, .field 1 1 false (.t 37), [2, 3, 4]⟩,
            ⟨(some 39), none, .bin .sub (.t 34) (.t 38), [0, 1, 2, 3, 4, 5]⟩,
            ⟨(some 40), none, .faddr 3 (.t 8), [0, 1, 2, 3, 4, 5, 6]⟩,
            ⟨none, none, .store 1 (.t 40) (.t 39), [0, 1, 2, 3, 4, 5, 6, 7]⟩] true)
        (.reg [⟨(some 41), none, .mov (.t 5), []⟩,
          ⟨(some 42), none, .load 4 true (.t 8), []⟩,
          ⟨(some 43), none, .lit 4 1 [.str ⟨#[]⟩, .int .i64 0, .int .i64 0, .int .i64 0] [(0, .t 42)], []⟩,
          ⟨(some 44), none, .append 4 40 (.t 41) (.t 43), []⟩,
          ⟨(some 5), none, .mov (.t 44), []⟩] false))))))
    (.reg [⟨(some 45), none, .bin .add (.t 11) (.c (.int .i64 1)), []⟩,
      ⟨(some 11), none, .mov (.t 45), []⟩] false)))
def qos_ranked_c : IR :=
  .seq (.reg [⟨(some 4), none, .mov (.c (.ns 4)), []⟩] false)
  (.seq (.reg [⟨(some 5), none, .mov (.c (.ns 4)), []⟩] false)
  (.seq (.seq (.reg [⟨(some 9), none, .mov (.t 0), []⟩,
        ⟨(some 10), none, .len false (.t 9), []⟩,
        ⟨(some 11), none, .mov (.c (.int .i64 0)), []⟩] false)
    (.block 0 (.loop qos_ranked_b0_live qos_ranked_b0)))
  (.seq (.reg [⟨(some 46), none, .mov (.t 5), []⟩,
      ⟨(some 47), none, .call true (.f 28) [.t 46, .f 29], []⟩] false)
  (.seq (.reg [⟨(some 48), none, .mov (.t 5), []⟩,
      ⟨(some 4), none, .mov (.t 48), []⟩] false)
  (.ret)))))
def qos_ranked : IFn := ⟨2, 49, [.tmp 4], false, qos_ranked_c⟩

/-- function 23: orchestrator/ orchestratorref51.order -/
def ref51_order_b1_live : List Nat := [100015, 0, 1, 5, 6, 7]
def ref51_order_b1 : IR :=
  .seq (.seq (.reg [⟨(some 17), none, .mov (.t 7), []⟩,
          ⟨(some 18), none, .bin .gtr (.t 17) (.c (.int .i64 0)), []⟩,
          ⟨(some 19), none, .mov (.t 18), []⟩,
          ⟨(some 20), (some (19, true)), .mov (.t 0), []⟩,
          ⟨(some 21), (some (19, true)), .mov (.t 1), []⟩,
          ⟨(some 22), (some (19, true)), .mov (.t 6), []⟩,
          ⟨(some 23), (some (19, true)), .mov (.t 5), []⟩,
          ⟨(some 24), (some (19, true)), .mov (.t 7), []⟩,
          ⟨(some 25), (some (19, true)), .bin .sub (.t 24) (.c (.int .i64 1)), []⟩,
          ⟨(some 26), (some (19, true)), .iaddr 1 (.t 23) (.t 25), []⟩,
          ⟨(some 27), (some (19, true)), .load 1 false (.t 26), []⟩,
          ⟨(some 28), (some (19, true)), .call false (.f 33) [.t 20, .t 21, .t 22, .t 27], []⟩,
          ⟨(some 29), none, .pick (.t 19) (.t 28) (.c (.bool false)), []⟩] false)
      (.cond (.t 29) (.skip)
        (.exit 2)))
    (.block 3 (.reg [⟨(some 30), none, .mov (.t 7), []⟩,
        ⟨(some 31), none, .bin .sub (.t 30) (.c (.int .i64 1)), []⟩,
        ⟨(some 7), none, .mov (.t 31), []⟩] false))
def ref51_order_b0_live : List Nat := [100014, 0, 1, 5, 6]
def ref51_order_b0 : IR :=
  .seq (.seq (.reg [⟨(some 9), none, .mov (.t 6), []⟩,
          ⟨(some 10), none, .mov (.t 0), []⟩,
          ⟨(some 11), none, .len false (.t 10), []⟩,
          ⟨(some 12), none, .bin .lss (.t 9) (.t 11), []⟩] false)
      (.cond (.t 12) (.skip)
        (.exit 0)))
    (.seq (.block 1 (.seq (.reg [⟨(some 15), none, .mov (.t 5), []⟩,
            ⟨(some 16), none, .len false (.t 15), []⟩,
            ⟨(some 7), none, .mov (.t 16), []⟩] false)
        (.seq (.block 2 (.loop ref51_order_b1_live ref51_order_b1))
        (.seq (.reg [⟨(some 8), none, .mov (.c (.ns 1)), []⟩] false)
        (.seq (.reg [⟨(some 32), none, .mov (.t 8), []⟩,
            ⟨(some 33), none, .mov (.t 5), []⟩,
            ⟨(some 34), none, .mov (.t 7), []⟩,
            ⟨(some 35), none, .slice 1 (.t 33) none (some (.t 34)) none, []⟩,
            ⟨(some 36), none, .append 1 8 (.t 32) (.t 35), []⟩,
            ⟨(some 8), none, .mov (.t 36), []⟩] false)
        (.seq (.reg [⟨(some 37), none, .mov (.t 8), []⟩,
            ⟨(some 38), none, .mov (.t 6), []⟩,
            ⟨(some 39), none, .lit 1 1 [.int .i64 0] [(0, .t 38)], []⟩,
            ⟨(some 40), none, .append 1 8 (.t 37) (.t 39), []⟩,
            ⟨(some 8), none, .mov (.t 40), []⟩] false)
        (.seq (.reg [⟨(some 41), none, .mov (.t 8), []⟩,
            ⟨(some 42), none, .mov (.t 5), []⟩,
            ⟨(some 43), none, .mov (.t 7), []⟩,
            ⟨(some 44), none, .slice 1 (.t 42) (some (.t 43)) none none, []⟩,
            ⟨(some 45), none, .append 1 8 (.t 41) (.t 44), []⟩,
            ⟨(some 8), none, .mov (.t 45), []⟩] false)
        (.reg [⟨(some 46), none, .mov (.t 8), []⟩,
          ⟨(some 5), none, .mov (.t 46), []⟩] false))))))))
    (.reg [⟨(some 13), none, .mov (.t 6), []⟩,
      ⟨(some 14), none, .bin .add (.t 13) (.c (.int .i64 1)), []⟩,
      ⟨(some 6), none, .mov (.t 14), []⟩] false))
def ref51_order_c : IR :=
  .seq (.reg [⟨(some 4), none, .mov (.c (.ns 1)), []⟩] false)
  (.seq (.reg [⟨(some 5), none, .mov (.c (.ns 1)), []⟩] false)
  (.seq (.seq (.reg [⟨(some 6), none, .mov (.c (.int .i64 0)), []⟩] false)
    (.block 0 (.loop ref51_order_b0_live ref51_order_b0)))
  (.seq (.reg [⟨(some 47), none, .mov (.t 5), []⟩,
      ⟨(some 4), none, .mov (.t 47), []⟩] false)
  (.ret))))
def ref51_order : IFn := ⟨2, 48, [.tmp 4], false, ref51_order_c⟩

/-- function 24: orchestrator/ orchestratorref13.KeyOf -/
def ref13_KeyOf_c : IR :=
  .seq (.reg [⟨(some 1), none, .box 13 (.t 0), []⟩,
      ⟨(some 2), none, .mov (.c (.str ⟨#[]⟩)), []⟩] false)
  (.seq (.reg [⟨(some 3), none, .faddr 0 (.t 1), []⟩,
      ⟨(some 4), none, .load 1 false (.t 3), []⟩,
      ⟨(some 5), none, .faddr 1 (.t 1), []⟩,
      ⟨(some 6), none, .load 1 false (.t 5), []⟩,
      ⟨(some 7), none, .faddr 2 (.t 1), []⟩,
      ⟨(some 8), none, .load 1 false (.t 7), []⟩,
      ⟨(some 9), none, .call false (.f 34) [.t 4, .t 6, .t 8], []⟩,
      ⟨(some 2), none, .mov (.t 9), []⟩] false)
  (.ret))
def ref13_KeyOf : IFn := ⟨1, 10, [.tmp 2], false, ref13_KeyOf_c⟩

/-- function 25: orchestrator/ orchestratorref51.usage -/
def ref51_usage_c : IR :=
  .seq (.reg [⟨(some 4), none, .mov (.c (.int .i64 0)), []⟩] false)
  (.seq (.seq (.reg [⟨(some 5), none, .mov (.t 1), []⟩,
        ⟨(some 6), none, .mov (.t 0), []⟩,
        ⟨(some 7), none, .len false (.t 6), []⟩,
        ⟨(some 8), none, .bin .lss (.t 5) (.t 7), []⟩] false)
    (.cond (.t 8) (.seq (.reg [⟨(some 9), none, .mov (.t 0), []⟩,
          ⟨(some 10), none, .mov (.t 1), []⟩,
          ⟨(some 11), none, .iaddr 1 (.t 9) (.t 10), []⟩,
          ⟨(some 12), none, .load 1 false (.t 11), []⟩,
          ⟨(some 13), none, .call false (.f 21) [.t 12], []⟩,
          ⟨(some 4), none, .mov (.t 13), []⟩] false)
      (.ret))
      (.skip)))
  (.seq (.reg [⟨(some 4), none, .mov (.c (.int .i64 0)), []⟩] false)
  (.ret)))
def ref51_usage : IFn := ⟨2, 14, [.tmp 4], false, ref51_usage_c⟩

/-- function 26: orchestrator/ meta.Key -/
def meta_Key_c : IR :=
  .seq (.reg [⟨(some 6), none, .mov (.c (.str ⟨#[]⟩)), []⟩] false)
  (.seq (.reg [⟨(some 7), none, .mov (.t 0), []⟩,
      ⟨(some 8), none, .bin .add (.t 7) (.c (.str ⟨#[47]⟩)), []⟩,
      ⟨(some 9), none, .mov (.t 1), []⟩,
      ⟨(some 10), none, .bin .add (.t 8) (.t 9), []⟩,
      ⟨(some 11), none, .bin .add (.t 10) (.c (.str ⟨#[47]⟩)), []⟩,
      ⟨(some 12), none, .mov (.t 2), []⟩,
      ⟨(some 13), none, .bin .add (.t 11) (.t 12), []⟩,
      ⟨(some 6), none, .mov (.t 13), []⟩] false)
  (.ret))
def meta_Key : IFn := ⟨3, 14, [.tmp 6], false, meta_Key_c⟩

/-- function 27: orchestrator/ resource.Requests -/
def resource_Requests_b0_live : List Nat := [100016, 2, 3, 7, 8, 9]
def resource_Requests_b0 : IR :=
  .seq (.reg [⟨(some 10), none, .bin .lss (.t 9) (.t 8), []⟩] false)
    (.seq (.cond (.t 10) (.skip)
        (.exit 0))
    (.seq (.block 1 (.seq (.reg [⟨(some 11), none, .iaddr 11 (.t 7) (.t 9), []⟩,
            ⟨(some 12), none, .load 11 true (.t 11), []⟩,
            ⟨(some 5), none, .zero [.str ⟨#[]⟩, .str ⟨#[]⟩, .int .i64 0, .int .i64 0, .int .i64 0, .int .i64 0, .int .i64 0, .int .i64 0, .ns 4, .ns 4, .ns 4], []⟩,
            ⟨none, none, .store 11 (.t 5) (.t 12), []⟩] false)
        (.reg [⟨(some 13), none, .load 3 true (.t 3), []⟩,
          ⟨(some 14), none, .faddr 2 (.t 5), []⟩,
          ⟨(some 15), none, .load 3 true (.t 14), []⟩,
          ⟨(some 16), none, .call false (.f 35) [.t 13, .t 15], []⟩,
          ⟨none, none, .store 3 (.t 3) (.t 16), []⟩] false)))
    (.reg [⟨(some 17), none, .bin .add (.t 9) (.c (.int .i64 1)), []⟩,
      ⟨(some 9), none, .mov (.t 17), []⟩] false)))
def resource_Requests_c : IR :=
  .seq (.reg [⟨(some 1), none, .box 10 (.t 0), []⟩,
      ⟨(some 2), none, .zero [.int .i64 0, .int .i64 0, .int .i64 0], []⟩] false)
  (.seq (.reg [⟨(some 3), none, .zero [.int .i64 0, .int .i64 0, .int .i64 0], []⟩] false)
  (.seq (.seq (.reg [⟨(some 6), none, .faddr 4 (.t 1), []⟩,
        ⟨(some 7), none, .load 1 false (.t 6), []⟩,
        ⟨(some 8), none, .len false (.t 7), []⟩,
        ⟨(some 9), none, .mov (.c (.int .i64 0)), []⟩] false)
    (.block 0 (.loop resource_Requests_b0_live resource_Requests_b0)))
  (.seq (.reg [⟨(some 18), none, .load 3 true (.t 3), []⟩,
      ⟨none, none, .store 3 (.t 2) (.t 18), []⟩] false)
  (.ret))))
def resource_Requests : IFn := ⟨1, 19, [.cell 2 3 true], false, resource_Requests_c⟩

/-- function 28: slices.SortStableFunc[[]orchestrator/ qos.entry,orchestrator/ qos.entry] -/
def slices_SortStableFunc_c : IR :=
  .reg [⟨(some 4), none, .mov (.t 0), []⟩,
    ⟨(some 5), none, .mov (.t 0), []⟩,
    ⟨(some 6), none, .len false (.t 5), []⟩,
    ⟨(some 7), none, .mov (.t 1), []⟩,
    ⟨(some 8), none, .call true (.f 36) [.t 4, .t 6, .t 7], []⟩] false
def slices_SortStableFunc : IFn := ⟨2, 9, [], false, slices_SortStableFunc_c⟩

/-- function 29: orchestrator/ qos.ranked$1 -/
def qos_ranked_1_c : IR :=
  .seq (.reg [⟨(some 2), none, .box 4 (.t 0), []⟩,
      ⟨(some 3), none, .box 4 (.t 1), []⟩,
      ⟨(some 4), none, .mov (.c (.int .i64 0)), []⟩] false)
  (.seq (.seq (.reg [⟨(some 6), none, .faddr 3 (.t 2), []⟩,
        ⟨(some 7), none, .load 1 false (.t 6), []⟩,
        ⟨(some 8), none, .bin .gtr (.t 7) (.c (.int .i64 0)), []⟩,
        ⟨(some 5), none, .mov (.t 8), []⟩] false)
    (.seq (.reg [⟨(some 9), none, .mov (.t 5), []⟩,
        ⟨(some 10), none, .faddr 3 (.t 3), []⟩,
        ⟨(some 11), none, .load 1 false (.t 10), []⟩,
        ⟨(some 12), none, .bin .gtr (.t 11) (.c (.int .i64 0)), []⟩,
        ⟨(some 13), none, .eqb true (.t 9) (.t 12), []⟩] false)
    (.cond (.t 13) (.seq (.seq (.reg [⟨(some 14), none, .mov (.t 5), []⟩] false)
        (.cond (.t 14) (.seq (.reg [⟨(some 4), none, .mov (.c (.int .i64 (-1))), []⟩] false)
          (.ret))
          (.skip)))
      (.seq (.reg [⟨(some 4), none, .mov (.c (.int .i64 1)), []⟩] false)
      (.ret)))
      (.skip))))
  (.seq (.reg [⟨(some 15), none, .faddr 1 (.t 2), []⟩,
      ⟨(some 16), none, .load 1 false (.t 15), [0]⟩,
      ⟨(some 17), none, .faddr 1 (.t 3), []⟩,
      ⟨(some 18), none, .load 1 false (.t 17), [2]⟩,
      ⟨(some 19), none, .call false (.f 31) [.t 16, .t 18], [0, 1, 2, 3]⟩,
      ⟨(some 20), none, .faddr 3 (.t 3), []⟩,
      ⟨(some 21), none, .load 1 false (.t 20), [5]⟩,
      ⟨(some 22), none, .faddr 3 (.t 2), []⟩,
      ⟨(some 23), none, .load 1 false (.t 22), [7]⟩,
      ⟨(some 24), none, .call false (.f 31) [.t 21, .t 23], [0, 1, 2, 3, 4, 5, 6, 7, 8]⟩,
      ⟨(some 25), none, .faddr 0 (.t 2), []⟩,
      ⟨(some 26), none, .load 1 false (.t 25), [10]⟩,
      ⟨(some 27), none, .faddr 0 (.t 3), []⟩,
      ⟨(some 28), none, .load 1 false (.t 27), [12]⟩,
      ⟨(some 29), none, .call false (.f 32) [.t 26, .t 28], [0, 1, 2, 3, 4, 5, 6, 7, 8, 9, 10, 11, 12, 13]⟩,
      ⟨(some 30), none, .lit 1 3 [.int .i64 0] [(0, .t 19), (1, .t 24), (2, .t 29)], [0, 1, 2, 3, 4, 5, 6, 7, 8, 9, 10, 11, 12, 13, 14]⟩,
      ⟨(some 31), none, .call false (.f 30) [.t 30], [0, 1, 2, 3, 4, 5, 6, 7, 8, 9, 10, 11, 12, 13, 14, 15]⟩,
      ⟨(some 4), none, .mov (.t 31), [0, 1, 2, 3, 4, 5, 6, 7, 8, 9, 10, 11, 12, 13, 14, 15, 16]⟩] true)
  (.ret)))
def qos_ranked_1 : IFn := ⟨2, 32, [.tmp 4], false, qos_ranked_1_c⟩

/-- function 30: cmp.Or[int] -/
def cmp_Or_b0_live : List Nat := [100017, 3, 6, 7, 8]
def cmp_Or_b0 : IR :=
  .seq (.reg [⟨(some 9), none, .bin .lss (.t 8) (.t 7), []⟩] false)
    (.seq (.cond (.t 9) (.skip)
        (.exit 0))
    (.seq (.block 1 (.seq (.reg [⟨(some 10), none, .iaddr 1 (.t 6) (.t 8), []⟩,
            ⟨(some 11), none, .load 1 false (.t 10), []⟩,
            ⟨(some 5), none, .mov (.t 11), []⟩] false)
        (.seq (.reg [⟨(some 12), none, .mov (.t 5), []⟩,
            ⟨(some 13), none, .mov (.t 3), []⟩,
            ⟨(some 14), none, .bin .neq (.t 12) (.t 13), []⟩] false)
        (.cond (.t 14) (.seq (.reg [⟨(some 15), none, .mov (.t 5), []⟩,
              ⟨(some 2), none, .mov (.t 15), []⟩] false)
          (.ret))
          (.skip)))))
    (.reg [⟨(some 16), none, .bin .add (.t 8) (.c (.int .i64 1)), []⟩,
      ⟨(some 8), none, .mov (.t 16), []⟩] false)))
def cmp_Or_c : IR :=
  .seq (.reg [⟨(some 2), none, .mov (.c (.int .i64 0)), []⟩] false)
  (.seq (.reg [⟨(some 3), none, .mov (.c (.int .i64 0)), []⟩] false)
  (.seq (.seq (.reg [⟨(some 6), none, .mov (.t 0), []⟩,
        ⟨(some 7), none, .len false (.t 6), []⟩,
        ⟨(some 8), none, .mov (.c (.int .i64 0)), []⟩] false)
    (.block 0 (.loop cmp_Or_b0_live cmp_Or_b0)))
  (.seq (.reg [⟨(some 17), none, .mov (.t 3), []⟩,
      ⟨(some 2), none, .mov (.t 17), []⟩] false)
  (.ret))))
def cmp_Or : IFn := ⟨1, 18, [.tmp 2], false, cmp_Or_c⟩

/-- function 31: cmp.Compare[int] -/
def cmp_Compare_c : IR :=
  .seq (.reg [⟨(some 4), none, .mov (.c (.int .i64 0)), []⟩] false)
  (.seq (.reg [⟨(some 7), none, .mov (.t 0), []⟩,
      ⟨(some 8), none, .call false (.f 37) [.t 7], []⟩,
      ⟨(some 5), none, .mov (.t 8), []⟩] false)
  (.seq (.reg [⟨(some 9), none, .mov (.t 1), []⟩,
      ⟨(some 10), none, .call false (.f 37) [.t 9], []⟩,
      ⟨(some 6), none, .mov (.t 10), []⟩] false)
  (.seq (.seq (.reg [⟨(some 11), none, .mov (.t 5), []⟩] false)
    (.cond (.t 11) (.seq (.seq (.reg [⟨(some 12), none, .mov (.t 6), []⟩] false)
        (.cond (.t 12) (.seq (.reg [⟨(some 4), none, .mov (.c (.int .i64 0)), []⟩] false)
          (.ret))
          (.skip)))
      (.seq (.reg [⟨(some 4), none, .mov (.c (.int .i64 (-1))), []⟩] false)
      (.ret)))
      (.skip)))
  (.seq (.seq (.reg [⟨(some 13), none, .mov (.t 6), []⟩] false)
    (.cond (.t 13) (.seq (.reg [⟨(some 4), none, .mov (.c (.int .i64 1)), []⟩] false)
      (.ret))
      (.skip)))
  (.seq (.seq (.reg [⟨(some 14), none, .mov (.t 0), []⟩,
        ⟨(some 15), none, .mov (.t 1), []⟩,
        ⟨(some 16), none, .bin .lss (.t 14) (.t 15), []⟩] false)
    (.cond (.t 16) (.seq (.reg [⟨(some 4), none, .mov (.c (.int .i64 (-1))), []⟩] false)
      (.ret))
      (.skip)))
  (.seq (.seq (.reg [⟨(some 17), none, .mov (.t 0), []⟩,
        ⟨(some 18), none, .mov (.t 1), []⟩,
        ⟨(some 19), none, .bin .gtr (.t 17) (.t 18), []⟩] false)
    (.cond (.t 19) (.seq (.reg [⟨(some 4), none, .mov (.c (.int .i64 1)), []⟩] false)
      (.ret))
      (.skip)))
  (.seq (.reg [⟨(some 4), none, .mov (.c (.int .i64 0)), []⟩] false)
  (.ret))))))))
def cmp_Compare : IFn := ⟨2, 20, [.tmp 4], false, cmp_Compare_c⟩

/-- function 32: strings.Compare -/
def strings_Compare_c : IR :=
  .seq (.reg [⟨(some 4), none, .mov (.c (.int .i64 0)), []⟩] false)
  (.seq (.reg [⟨(some 5), none, .mov (.t 0), []⟩,
      ⟨(some 6), none, .mov (.t 1), []⟩,
      ⟨(some 7), none, .call false (.f 38) [.t 5, .t 6], []⟩,
      ⟨(some 4), none, .mov (.t 7), []⟩] false)
  (.ret))
def strings_Compare : IFn := ⟨2, 8, [.tmp 4], false, strings_Compare_c⟩

/-- function 33: orchestrator/ orchestratorref51.before -/
def ref51_before_c : IR :=
  .seq (.reg [⟨(some 8), none, .mov (.c (.bool false)), []⟩] false)
  (.seq (.reg [⟨(some 13), none, .mov (.t 0), []⟩,
      ⟨(some 14), none, .mov (.t 2), []⟩,
      ⟨(some 15), none, .iaddr 32 (.t 13) (.t 14), [0, 1]⟩,
      ⟨(some 16), none, .load 32 true (.t 15), [0, 1, 2]⟩,
      ⟨(some 17), none, .mov (.t 0), []⟩,
      ⟨(some 18), none, .mov (.t 3), []⟩,
      ⟨(some 19), none, .iaddr 32 (.t 17) (.t 18), [4, 5]⟩,
      ⟨(some 20), none, .load 32 true (.t 19), [4, 5, 6]⟩,
      ⟨(some 9), none, .zero [.str ⟨#[]⟩, .str ⟨#[]⟩, .str ⟨#[]⟩, .int .i64 0, .int .i64 0, .int .i64 0, .int .i64 0, .bool false, .int .i64 0, .ns 2, .ns 5, .ns 1, .ns 2, .str ⟨#[]⟩, .int .i64 0, .int .i64 0, .int .i64 0, .ns 11, .ns 3, .ns 3, .ns 5, .ns 4, .ns 5, .int .i64 0, .bool false, .int .i64 0, .int .i64 0, .int .i64 0, .ns 7, .int .i64 0, .str ⟨#[]⟩, .str ⟨#[]⟩], []⟩,
      ⟨(some 10), none, .zero [.str ⟨#[]⟩, .str ⟨#[]⟩, .str ⟨#[]⟩, .int .i64 0, .int .i64 0, .int .i64 0, .int .i64 0, .bool false, .int .i64 0, .ns 2, .ns 5, .ns 1, .ns 2, .str ⟨#[]⟩, .int .i64 0, .int .i64 0, .int .i64 0, .ns 11, .ns 3, .ns 3, .ns 5, .ns 4, .ns 5, .int .i64 0, .bool false, .int .i64 0, .int .i64 0, .int .i64 0, .ns 7, .int .i64 0, .str ⟨#[]⟩, .str ⟨#[]⟩], []⟩,
      ⟨none, none, .store 32 (.t 9) (.t 16), [0, 1, 2, 3, 8, 9]⟩,
      ⟨none, none, .store 32 (.t 10) (.t 20), [0, 1, 2, 3, 4, 5, 6, 7, 8, 9, 10]⟩] true)
  (.seq (.reg [⟨(some 21), none, .mov (.t 1), []⟩,
      ⟨(some 22), none, .mov (.t 2), []⟩,
      ⟨(some 23), none, .call false (.f 25) [.t 21, .t 22], [0, 1]⟩,
      ⟨(some 24), none, .faddr 13 (.t 9), []⟩,
      ⟨(some 25), none, .load 10 true (.t 24), [3]⟩,
      ⟨(some 26), none, .call false (.f 39) [.t 25], [0, 1, 2, 3, 4]⟩,
      ⟨(some 27), none, .field 1 1 false (.t 26), [0, 1, 2, 3, 4, 5]⟩,
      ⟨(some 28), none, .bin .sub (.t 23) (.t 27), [0, 1, 2, 3, 4, 5, 6]⟩,
      ⟨(some 29), none, .mov (.t 1), []⟩,
      ⟨(some 30), none, .mov (.t 3), []⟩,
      ⟨(some 31), none, .call false (.f 25) [.t 29, .t 30], [0, 1, 2, 3, 4, 5, 8, 9]⟩,
      ⟨(some 32), none, .faddr 13 (.t 10), []⟩,
      ⟨(some 33), none, .load 10 true (.t 32), [11]⟩,
      ⟨(some 34), none, .call false (.f 39) [.t 33], [0, 1, 2, 3, 4, 5, 8, 9, 10, 11, 12]⟩,
      ⟨(some 35), none, .field 1 1 false (.t 34), [0, 1, 2, 3, 4, 5, 8, 9, 10, 11, 12, 13]⟩,
      ⟨(some 36), none, .bin .sub (.t 31) (.t 35), [0, 1, 2, 3, 4, 5, 8, 9, 10, 11, 12, 13, 14]⟩,
      ⟨(some 11), none, .mov (.t 28), [0, 1, 2, 3, 4, 5, 6, 7, 8, 9, 10, 11, 12, 13]⟩,
      ⟨(some 12), none, .mov (.t 36), [0, 1, 2, 3, 4, 5, 6, 7, 8, 9, 10, 11, 12, 13, 14, 15, 16]⟩] true)
  (.seq (.seq (.reg [⟨(some 37), none, .mov (.t 11), []⟩,
        ⟨(some 38), none, .bin .gtr (.t 37) (.c (.int .i64 0)), []⟩,
        ⟨(some 39), none, .mov (.t 12), []⟩,
        ⟨(some 40), none, .bin .gtr (.t 39) (.c (.int .i64 0)), []⟩,
        ⟨(some 41), none, .eqb true (.t 38) (.t 40), []⟩] false)
    (.cond (.t 41) (.seq (.reg [⟨(some 42), none, .mov (.t 11), []⟩,
          ⟨(some 43), none, .bin .gtr (.t 42) (.c (.int .i64 0)), []⟩,
          ⟨(some 8), none, .mov (.t 43), []⟩] false)
      (.ret))
      (.skip)))
  (.seq (.seq (.reg [⟨(some 44), none, .faddr 13 (.t 9), []⟩,
        ⟨(some 45), none, .faddr 1 (.t 44), []⟩,
        ⟨(some 46), none, .load 1 false (.t 45), []⟩,
        ⟨(some 47), none, .faddr 13 (.t 10), []⟩,
        ⟨(some 48), none, .faddr 1 (.t 47), []⟩,
        ⟨(some 49), none, .load 1 false (.t 48), []⟩,
        ⟨(some 50), none, .bin .neq (.t 46) (.t 49), []⟩] false)
    (.cond (.t 50) (.seq (.reg [⟨(some 51), none, .faddr 13 (.t 9), []⟩,
          ⟨(some 52), none, .faddr 1 (.t 51), []⟩,
          ⟨(some 53), none, .load 1 false (.t 52), []⟩,
          ⟨(some 54), none, .faddr 13 (.t 10), []⟩,
          ⟨(some 55), none, .faddr 1 (.t 54), []⟩,
          ⟨(some 56), none, .load 1 false (.t 55), []⟩,
          ⟨(some 57), none, .bin .lss (.t 53) (.t 56), []⟩,
          ⟨(some 8), none, .mov (.t 57), []⟩] false)
      (.ret))
      (.skip)))
  (.seq (.seq (.reg [⟨(some 58), none, .mov (.t 11), []⟩,
        ⟨(some 59), none, .mov (.t 12), []⟩,
        ⟨(some 60), none, .bin .neq (.t 58) (.t 59), []⟩] false)
    (.cond (.t 60) (.seq (.reg [⟨(some 61), none, .mov (.t 11), []⟩,
          ⟨(some 62), none, .mov (.t 12), []⟩,
          ⟨(some 63), none, .bin .gtr (.t 61) (.t 62), []⟩,
          ⟨(some 8), none, .mov (.t 63), []⟩] false)
      (.ret))
      (.skip)))
  (.seq (.reg [⟨(some 64), none, .faddr 0 (.t 9), []⟩,
      ⟨(some 65), none, .load 13 true (.t 64), [0]⟩,
      ⟨(some 66), none, .call false (.f 24) [.t 65], [0, 1]⟩,
      ⟨(some 67), none, .faddr 0 (.t 10), []⟩,
      ⟨(some 68), none, .load 13 true (.t 67), [3]⟩,
      ⟨(some 69), none, .call false (.f 24) [.t 68], [0, 1, 2, 3, 4]⟩,
      ⟨(some 70), none, .bin .lss (.t 66) (.t 69), [0, 1, 2, 3, 4, 5]⟩,
      ⟨(some 8), none, .mov (.t 70), [0, 1, 2, 3, 4, 5, 6]⟩] true)
  (.ret)))))))
def ref51_before : IFn := ⟨4, 71, [.tmp 8], false, ref51_before_c⟩

/-- function 34: orchestrator/ orchestratorref13.Key -/
def ref13_Key_c : IR :=
  .seq (.reg [⟨(some 6), none, .mov (.c (.str ⟨#[]⟩)), []⟩] false)
  (.seq (.reg [⟨(some 7), none, .mov (.t 0), []⟩,
      ⟨(some 8), none, .bin .add (.t 7) (.c (.str ⟨#[47]⟩)), []⟩,
      ⟨(some 9), none, .mov (.t 1), []⟩,
      ⟨(some 10), none, .bin .add (.t 8) (.t 9), []⟩,
      ⟨(some 11), none, .bin .add (.t 10) (.c (.str ⟨#[47]⟩)), []⟩,
      ⟨(some 12), none, .mov (.t 2), []⟩,
      ⟨(some 13), none, .bin .add (.t 11) (.t 12), []⟩,
      ⟨(some 6), none, .mov (.t 13), []⟩] false)
  (.ret))
def ref13_Key : IFn := ⟨3, 14, [.tmp 6], false, ref13_Key_c⟩

/-- function 35: orchestrator/ resource.Add -/
def resource_Add_c : IR :=
  .seq (.reg [⟨(some 2), none, .box 3 (.t 0), []⟩,
      ⟨(some 3), none, .box 3 (.t 1), []⟩,
      ⟨(some 4), none, .zero [.int .i64 0, .int .i64 0, .int .i64 0], []⟩] false)
  (.seq (.reg [⟨(some 5), none, .load 3 true (.t 2), []⟩,
      ⟨(some 6), none, .load 3 true (.t 3), []⟩,
      ⟨(some 7), none, .call false (.f 40) [.t 5, .t 6, .f 41], []⟩,
      ⟨none, none, .store 3 (.t 4) (.t 7), []⟩] false)
  (.ret))
def resource_Add : IFn := ⟨2, 8, [.cell 4 3 true], false, resource_Add_c⟩

/-- function 36: slices.stableCmpFunc[orchestrator/ qos.entry] -/
def slices_stableCmpFunc_b2_live : List Nat := [100020, 0, 1, 2, 6, 7, 8]
def slices_stableCmpFunc_b2 : IR :=
  .seq (.seq (.reg [⟨(some 33), none, .mov (.t 8), []⟩,
          ⟨(some 34), none, .mov (.t 1), []⟩,
          ⟨(some 35), none, .bin .leq (.t 33) (.t 34), []⟩] false)
      (.cond (.t 35) (.skip)
        (.exit 4)))
    (.block 5 (.seq (.reg [⟨(some 36), none, .mov (.t 0), []⟩,
          ⟨(some 37), none, .mov (.t 7), []⟩,
          ⟨(some 38), none, .mov (.t 7), []⟩,
          ⟨(some 39), none, .mov (.t 6), []⟩,
          ⟨(some 40), none, .bin .add (.t 38) (.t 39), []⟩,
          ⟨(some 41), none, .mov (.t 8), []⟩,
          ⟨(some 42), none, .mov (.t 2), []⟩,
          ⟨(some 43), none, .call true (.f 44) [.t 36, .t 37, .t 40, .t 41, .t 42], []⟩] false)
      (.seq (.reg [⟨(some 44), none, .mov (.t 8), []⟩,
          ⟨(some 7), none, .mov (.t 44), []⟩] false)
      (.reg [⟨(some 45), none, .mov (.t 8), []⟩,
        ⟨(some 46), none, .mov (.t 6), []⟩,
        ⟨(some 47), none, .bin .mul (.c (.int .i64 2)) (.t 46), []⟩,
        ⟨(some 48), none, .bin .add (.t 45) (.t 47), []⟩,
        ⟨(some 8), none, .mov (.t 48), []⟩] false))))
def slices_stableCmpFunc_b1_live : List Nat := [100019, 0, 1, 2, 6]
def slices_stableCmpFunc_b1 : IR :=
  .seq (.seq (.reg [⟨(some 28), none, .mov (.t 6), []⟩,
          ⟨(some 29), none, .mov (.t 1), []⟩,
          ⟨(some 30), none, .bin .lss (.t 28) (.t 29), []⟩] false)
      (.cond (.t 30) (.skip)
        (.exit 2)))
    (.block 3 (.seq (.reg [⟨(some 31), none, .mov (.t 6), []⟩,
          ⟨(some 32), none, .bin .mul (.c (.int .i64 2)) (.t 31), []⟩,
          ⟨(some 7), none, .mov (.c (.int .i64 0)), []⟩,
          ⟨(some 8), none, .mov (.t 32), []⟩] false)
      (.seq (.block 4 (.loop slices_stableCmpFunc_b2_live slices_stableCmpFunc_b2))
      (.seq (.seq (.reg [⟨(some 49), none, .mov (.t 7), []⟩,
            ⟨(some 50), none, .mov (.t 6), []⟩,
            ⟨(some 51), none, .bin .add (.t 49) (.t 50), []⟩,
            ⟨(some 9), none, .mov (.t 51), []⟩] false)
        (.seq (.reg [⟨(some 52), none, .mov (.t 9), []⟩,
            ⟨(some 53), none, .mov (.t 1), []⟩,
            ⟨(some 54), none, .bin .lss (.t 52) (.t 53), []⟩] false)
        (.cond (.t 54) (.reg [⟨(some 55), none, .mov (.t 0), []⟩,
            ⟨(some 56), none, .mov (.t 7), []⟩,
            ⟨(some 57), none, .mov (.t 9), []⟩,
            ⟨(some 58), none, .mov (.t 1), []⟩,
            ⟨(some 59), none, .mov (.t 2), []⟩,
            ⟨(some 60), none, .call true (.f 44) [.t 55, .t 56, .t 57, .t 58, .t 59], []⟩] false)
          (.skip))))
      (.reg [⟨(some 61), none, .mov (.t 6), []⟩,
        ⟨(some 62), none, .bin .mul (.t 61) (.c (.int .i64 2)), []⟩,
        ⟨(some 6), none, .mov (.t 62), []⟩] false)))))
def slices_stableCmpFunc_b0_live : List Nat := [100018, 0, 1, 2, 6, 7, 8]
def slices_stableCmpFunc_b0 : IR :=
  .seq (.seq (.reg [⟨(some 11), none, .mov (.t 8), []⟩,
          ⟨(some 12), none, .mov (.t 1), []⟩,
          ⟨(some 13), none, .bin .leq (.t 11) (.t 12), []⟩] false)
      (.cond (.t 13) (.skip)
        (.exit 0)))
    (.block 1 (.seq (.reg [⟨(some 14), none, .mov (.t 0), []⟩,
          ⟨(some 15), none, .mov (.t 7), []⟩,
          ⟨(some 16), none, .mov (.t 8), []⟩,
          ⟨(some 17), none, .mov (.t 2), []⟩,
          ⟨(some 18), none, .call true (.f 43) [.t 14, .t 15, .t 16, .t 17], []⟩] false)
      (.seq (.reg [⟨(some 19), none, .mov (.t 8), []⟩,
          ⟨(some 7), none, .mov (.t 19), []⟩] false)
      (.reg [⟨(some 20), none, .mov (.t 8), []⟩,
        ⟨(some 21), none, .mov (.t 6), []⟩,
        ⟨(some 22), none, .bin .add (.t 20) (.t 21), []⟩,
        ⟨(some 8), none, .mov (.t 22), []⟩] false))))
def slices_stableCmpFunc_c : IR :=
  .seq (.reg [⟨(some 6), none, .mov (.c (.int .i64 20)), []⟩] false)
  (.seq (.reg [⟨(some 10), none, .mov (.t 6), []⟩,
      ⟨(some 7), none, .mov (.c (.int .i64 0)), []⟩,
      ⟨(some 8), none, .mov (.t 10), []⟩] false)
  (.seq (.block 0 (.loop slices_stableCmpFunc_b0_live slices_stableCmpFunc_b0))
  (.seq (.reg [⟨(some 23), none, .mov (.t 0), []⟩,
      ⟨(some 24), none, .mov (.t 7), []⟩,
      ⟨(some 25), none, .mov (.t 1), []⟩,
      ⟨(some 26), none, .mov (.t 2), []⟩,
      ⟨(some 27), none, .call true (.f 43) [.t 23, .t 24, .t 25, .t 26], []⟩] false)
  (.block 2 (.loop slices_stableCmpFunc_b1_live slices_stableCmpFunc_b1)))))
def slices_stableCmpFunc : IFn := ⟨3, 63, [], false, slices_stableCmpFunc_c⟩

/-- function 37: cmp.isNaN[int] -/
def cmp_isNaN_c : IR :=
  .seq (.reg [⟨(some 2), none, .mov (.c (.bool false)), []⟩] false)
  (.seq (.reg [⟨(some 3), none, .mov (.t 0), []⟩,
      ⟨(some 4), none, .mov (.t 0), []⟩,
      ⟨(some 5), none, .bin .neq (.t 3) (.t 4), []⟩,
      ⟨(some 2), none, .mov (.t 5), []⟩] false)
  (.ret))
def cmp_isNaN : IFn := ⟨1, 6, [.tmp 2], false, cmp_isNaN_c⟩

/-- function 39: orchestrator/ orchestratorref02.Requests -/
def ref02_Requests_b0_live : List Nat := [100021, 1, 2, 3, 4]
def ref02_Requests_b0 : IR :=
  .seq (.seq (.reg [⟨(some 6), none, .mov (.t 4), []⟩,
          ⟨(some 7), none, .faddr 4 (.t 1), []⟩,
          ⟨(some 8), none, .load 1 false (.t 7), []⟩,
          ⟨(some 9), none, .len false (.t 8), []⟩,
          ⟨(some 10), none, .bin .lss (.t 6) (.t 9), []⟩] false)
      (.cond (.t 10) (.skip)
        (.exit 0)))
    (.seq (.block 1 (.reg [⟨(some 13), none, .load 3 true (.t 3), []⟩,
          ⟨(some 14), none, .faddr 4 (.t 1), []⟩,
          ⟨(some 15), none, .load 1 false (.t 14), [1]⟩,
          ⟨(some 16), none, .mov (.t 4), []⟩,
          ⟨(some 17), none, .iaddr 11 (.t 15) (.t 16), [1, 2, 3]⟩,
          ⟨(some 18), none, .faddr 2 (.t 17), [1, 2, 3, 4]⟩,
          ⟨(some 19), none, .load 3 true (.t 18), [1, 2, 3, 4, 5]⟩,
          ⟨(some 20), none, .call false (.f 46) [.t 13, .t 19], [0, 1, 2, 3, 4, 5, 6]⟩,
          ⟨none, none, .store 3 (.t 3) (.t 20), [0, 1, 2, 3, 4, 5, 6, 7]⟩] true))
    (.reg [⟨(some 11), none, .mov (.t 4), []⟩,
      ⟨(some 12), none, .bin .add (.t 11) (.c (.int .i64 1)), []⟩,
      ⟨(some 4), none, .mov (.t 12), []⟩] false))
def ref02_Requests_c : IR :=
  .seq (.reg [⟨(some 1), none, .box 10 (.t 0), []⟩,
      ⟨(some 2), none, .zero [.int .i64 0, .int .i64 0, .int .i64 0], []⟩] false)
  (.seq (.reg [⟨(some 5), none, .build [.int .i64 0, .int .i64 0, .int .i64 0] [], []⟩,
      ⟨(some 3), none, .zero [.int .i64 0, .int .i64 0, .int .i64 0], []⟩,
      ⟨none, none, .store 3 (.t 3) (.t 5), []⟩] false)
  (.seq (.seq (.reg [⟨(some 4), none, .mov (.c (.int .i64 0)), []⟩] false)
    (.block 0 (.loop ref02_Requests_b0_live ref02_Requests_b0)))
  (.seq (.reg [⟨(some 21), none, .load 3 true (.t 3), []⟩,
      ⟨none, none, .store 3 (.t 2) (.t 21), []⟩] false)
  (.ret))))
def ref02_Requests : IFn := ⟨1, 22, [.cell 2 3 true], false, ref02_Requests_c⟩

/-- function 40: orchestrator/ resource.each -/
def resource_each_c : IR :=
  .seq (.reg [⟨(some 3), none, .box 3 (.t 0), []⟩,
      ⟨(some 4), none, .box 3 (.t 1), []⟩,
      ⟨(some 6), none, .zero [.int .i64 0, .int .i64 0, .int .i64 0], []⟩] false)
  (.seq (.reg [⟨(some 7), none, .mov (.t 2), []⟩,
      ⟨(some 8), none, .faddr 0 (.t 3), []⟩,
      ⟨(some 9), none, .load 1 false (.t 8), [1]⟩,
      ⟨(some 10), none, .call false (.f 42) [.t 9], [1, 2]⟩,
      ⟨(some 11), none, .faddr 0 (.t 4), []⟩,
      ⟨(some 12), none, .load 1 false (.t 11), [4]⟩,
      ⟨(some 13), none, .call false (.f 42) [.t 12], [1, 2, 3, 4, 5]⟩,
      ⟨(some 14), none, .call false (.t 7) [.t 10, .t 13], [0, 1, 2, 3, 4, 5, 6]⟩,
      ⟨(some 15), none, .mov (.t 2), []⟩,
      ⟨(some 16), none, .faddr 1 (.t 3), []⟩,
      ⟨(some 17), none, .load 1 false (.t 16), [9]⟩,
      ⟨(some 18), none, .call false (.f 42) [.t 17], [0, 1, 2, 3, 4, 5, 6, 7, 9, 10]⟩,
      ⟨(some 19), none, .faddr 1 (.t 4), []⟩,
      ⟨(some 20), none, .load 1 false (.t 19), [12]⟩,
      ⟨(some 21), none, .call false (.f 42) [.t 20], [0, 1, 2, 3, 4, 5, 6, 7, 9, 10, 11, 12, 13]⟩,
      ⟨(some 22), none, .call false (.t 15) [.t 18, .t 21], [0, 1, 2, 3, 4, 5, 6, 7, 8, 9, 10, 11, 12, 13, 14]⟩,
      ⟨(some 23), none, .mov (.t 2), []⟩,
      ⟨(some 24), none, .faddr 2 (.t 3), []⟩,
      ⟨(some 25), none, .load 1 false (.t 24), [17]⟩,
      ⟨(some 26), none, .call false (.f 42) [.t 25], [0, 1, 2, 3, 4, 5, 6, 7, 8, 9, 10, 11, 12, 13, 14, 15, 17, 18]⟩,
      ⟨(some 27), none, .faddr 2 (.t 4), []⟩,
      ⟨(some 28), none, .load 1 false (.t 27), [20]⟩,
      ⟨(some 29), none, .call false (.f 42) [.t 28], [0, 1, 2, 3, 4, 5, 6, 7, 8, 9, 10, 11, 12, 13, 14, 15, 17, 18, 19, 20, 21]⟩,
      ⟨(some 30), none, .call false (.t 23) [.t 26, .t 29], [0, 1, 2, 3, 4, 5, 6, 7, 8, 9, 10, 11, 12, 13, 14, 15, 16, 17, 18, 19, 20, 21, 22]⟩,
      ⟨(some 31), none, .build [.int .i64 0, .int .i64 0, .int .i64 0] [(0, 1, .t 14), (1, 1, .t 22), (2, 1, .t 30)], [0, 1, 2, 3, 4, 5, 6, 7, 8, 9, 10, 11, 12, 13, 14, 15, 16, 17, 18, 19, 20, 21, 22, 23]⟩,
      ⟨none, none, .store 3 (.t 6) (.t 31), [0, 1, 2, 3, 4, 5, 6, 7, 8, 9, 10, 11, 12, 13, 14, 15, 16, 17, 18, 19, 20, 21, 22, 23, 24]⟩] true)
  (.ret))
def resource_each : IFn := ⟨3, 32, [.cell 6 3 true], false, resource_each_c⟩

/-- function 41: orchestrator/ resource.Add$1 -/
def resource_Add_1_c : IR :=
  .seq (.reg [⟨(some 4), none, .mov (.c (.int .i64 0)), []⟩] false)
  (.seq (.reg [⟨(some 5), none, .mov (.t 0), []⟩,
      ⟨(some 6), none, .mov (.t 1), []⟩,
      ⟨(some 7), none, .bin .add (.t 5) (.t 6), []⟩,
      ⟨(some 8), none, .call false (.f 42) [.t 7], []⟩,
      ⟨(some 4), none, .mov (.t 8), []⟩] false)
  (.ret))
def resource_Add_1 : IFn := ⟨2, 9, [.tmp 4], false, resource_Add_1_c⟩

/-- function 42: orchestrator/ resource.clamp -/
def resource_clamp_c : IR :=
  .seq (.reg [⟨(some 2), none, .mov (.c (.int .i64 0)), []⟩] false)
  (.seq (.reg [⟨(some 3), none, .mov (.t 0), []⟩,
      ⟨(some 4), none, .mnmx true (.t 3) [.c (.int .i64 0)], []⟩,
      ⟨(some 5), none, .mnmx false (.t 4) [.c (.int .i64 1000000000000000)], []⟩,
      ⟨(some 2), none, .mov (.t 5), []⟩] false)
  (.ret))
def resource_clamp : IFn := ⟨1, 6, [.tmp 2], false, resource_clamp_c⟩

/-- function 43: slices.insertionSortCmpFunc[orchestrator/ qos.entry] -/
def slices_insertionSortCmpFunc_b1_live : List Nat := [100023, 0, 1, 2, 3, 8, 9]
def slices_insertionSortCmpFunc_b1 : IR :=
  .seq (.seq (.reg [⟨(some 18), none, .mov (.t 9), []⟩,
          ⟨(some 19), none, .mov (.t 1), []⟩,
          ⟨(some 20), none, .bin .gtr (.t 18) (.t 19), [0, 1]⟩,
          ⟨(some 21), none, .mov (.t 20), [0, 1, 2]⟩,
          ⟨(some 22), (some (21, true)), .mov (.t 3), [0, 1, 2, 3]⟩,
          ⟨(some 23), (some (21, true)), .mov (.t 0), [0, 1, 2, 3]⟩,
          ⟨(some 24), (some (21, true)), .mov (.t 9), [0, 1, 2, 3]⟩,
          ⟨(some 25), (some (21, true)), .iaddr 4 (.t 23) (.t 24), [0, 1, 2, 3, 5, 6]⟩,
          ⟨(some 26), (some (21, true)), .load 4 true (.t 25), [0, 1, 2, 3, 5, 6, 7]⟩,
          ⟨(some 27), (some (21, true)), .mov (.t 0), [0, 1, 2, 3]⟩,
          ⟨(some 28), (some (21, true)), .mov (.t 9), [0, 1, 2, 3]⟩,
          ⟨(some 29), (some (21, true)), .bin .sub (.t 28) (.c (.int .i64 1)), [0, 1, 2, 3, 10]⟩,
          ⟨(some 30), (some (21, true)), .iaddr 4 (.t 27) (.t 29), [0, 1, 2, 3, 9, 10, 11]⟩,
          ⟨(some 31), (some (21, true)), .load 4 true (.t 30), [0, 1, 2, 3, 9, 10, 11, 12]⟩,
          ⟨(some 32), (some (21, true)), .call false (.t 22) [.t 26, .t 31], [0, 1, 2, 3, 4, 5, 6, 7, 8, 9, 10, 11, 12, 13]⟩,
          ⟨(some 33), (some (21, true)), .bin .lss (.t 32) (.c (.int .i64 0)), [0, 1, 2, 3, 4, 5, 6, 7, 8, 9, 10, 11, 12, 13, 14]⟩,
          ⟨(some 34), none, .pick (.t 21) (.t 33) (.c (.bool false)), [0, 1, 2, 3, 4, 5, 6, 7, 8, 9, 10, 11, 12, 13, 14, 15]⟩] true)
      (.cond (.t 34) (.skip)
        (.exit 2)))
    (.seq (.block 3 (.reg [⟨(some 37), none, .mov (.t 0), []⟩,
          ⟨(some 38), none, .mov (.t 9), []⟩,
          ⟨(some 39), none, .mov (.t 0), []⟩,
          ⟨(some 40), none, .mov (.t 9), []⟩,
          ⟨(some 41), none, .bin .sub (.t 40) (.c (.int .i64 1)), [3]⟩,
          ⟨(some 42), none, .mov (.t 0), []⟩,
          ⟨(some 43), none, .mov (.t 9), []⟩,
          ⟨(some 44), none, .bin .sub (.t 43) (.c (.int .i64 1)), [6]⟩,
          ⟨(some 45), none, .iaddr 4 (.t 42) (.t 44), [5, 6, 7]⟩,
          ⟨(some 46), none, .load 4 true (.t 45), [5, 6, 7, 8]⟩,
          ⟨(some 47), none, .mov (.t 0), []⟩,
          ⟨(some 48), none, .mov (.t 9), []⟩,
          ⟨(some 49), none, .iaddr 4 (.t 47) (.t 48), [10, 11]⟩,
          ⟨(some 50), none, .load 4 true (.t 49), [10, 11, 12]⟩,
          ⟨(some 51), none, .iaddr 4 (.t 37) (.t 38), [0, 1, 5, 6, 7, 8, 9, 10, 11, 12, 13]⟩,
          ⟨none, none, .store 4 (.t 51) (.t 46), [0, 1, 5, 6, 7, 8, 9, 10, 11, 12, 13, 14]⟩,
          ⟨(some 52), none, .iaddr 4 (.t 39) (.t 41), [0, 1, 2, 3, 4, 5, 6, 7, 8, 9, 10, 11, 12, 13, 14, 15]⟩,
          ⟨none, none, .store 4 (.t 52) (.t 50), [0, 1, 2, 3, 4, 5, 6, 7, 8, 9, 10, 11, 12, 13, 14, 15, 16]⟩] true))
    (.reg [⟨(some 35), none, .mov (.t 9), []⟩,
      ⟨(some 36), none, .bin .sub (.t 35) (.c (.int .i64 1)), []⟩,
      ⟨(some 9), none, .mov (.t 36), []⟩] false))
def slices_insertionSortCmpFunc_b0_live : List Nat := [100022, 0, 1, 2, 3, 8]
def slices_insertionSortCmpFunc_b0 : IR :=
  .seq (.seq (.reg [⟨(some 12), none, .mov (.t 8), []⟩,
          ⟨(some 13), none, .mov (.t 2), []⟩,
          ⟨(some 14), none, .bin .lss (.t 12) (.t 13), []⟩] false)
      (.cond (.t 14) (.skip)
        (.exit 0)))
    (.seq (.block 1 (.seq (.reg [⟨(some 17), none, .mov (.t 8), []⟩,
            ⟨(some 9), none, .mov (.t 17), []⟩] false)
        (.block 2 (.loop slices_insertionSortCmpFunc_b1_live slices_insertionSortCmpFunc_b1))))
    (.reg [⟨(some 15), none, .mov (.t 8), []⟩,
      ⟨(some 16), none, .bin .add (.t 15) (.c (.int .i64 1)), []⟩,
      ⟨(some 8), none, .mov (.t 16), []⟩] false))
def slices_insertionSortCmpFunc_c : IR :=
  .seq (.reg [⟨(some 10), none, .mov (.t 1), []⟩,
      ⟨(some 11), none, .bin .add (.t 10) (.c (.int .i64 1)), []⟩,
      ⟨(some 8), none, .mov (.t 11), []⟩] false)
  (.block 0 (.loop slices_insertionSortCmpFunc_b0_live slices_insertionSortCmpFunc_b0))
def slices_insertionSortCmpFunc : IFn := ⟨4, 53, [], false, slices_insertionSortCmpFunc_c⟩

/-- function 44: slices.symMergeCmpFunc[orchestrator/ qos.entry] -/
def slices_symMergeCmpFunc_b4_live : List Nat := [100028, 0, 1, 2, 3, 4, 18, 19, 20, 21, 22]
def slices_symMergeCmpFunc_b4 : IR :=
  .seq (.seq (.reg [⟨(some 149), none, .mov (.t 20), []⟩,
          ⟨(some 150), none, .mov (.t 21), []⟩,
          ⟨(some 151), none, .bin .lss (.t 149) (.t 150), []⟩] false)
      (.cond (.t 151) (.skip)
        (.exit 8)))
    (.block 9 (.seq (.reg [⟨(some 152), none, .mov (.t 20), []⟩,
          ⟨(some 153), none, .mov (.t 21), []⟩,
          ⟨(some 154), none, .bin .add (.t 152) (.t 153), []⟩,
          ⟨(some 155), none, .conv .u64 (.t 154), []⟩,
          ⟨(some 156), none, .bin .shr (.t 155) (.c (.int .u64 1)), []⟩,
          ⟨(some 157), none, .conv .i64 (.t 156), []⟩,
          ⟨(some 23), none, .mov (.t 157), []⟩] false)
      (.seq (.reg [⟨(some 158), none, .mov (.t 4), []⟩,
          ⟨(some 159), none, .mov (.t 0), []⟩,
          ⟨(some 160), none, .mov (.t 22), []⟩,
          ⟨(some 161), none, .mov (.t 23), []⟩,
          ⟨(some 162), none, .bin .sub (.t 160) (.t 161), [2, 3]⟩,
          ⟨(some 163), none, .iaddr 4 (.t 159) (.t 162), [1, 2, 3, 4]⟩,
          ⟨(some 164), none, .load 4 true (.t 163), [1, 2, 3, 4, 5]⟩,
          ⟨(some 165), none, .mov (.t 0), []⟩,
          ⟨(some 166), none, .mov (.t 23), []⟩,
          ⟨(some 167), none, .iaddr 4 (.t 165) (.t 166), [7, 8]⟩,
          ⟨(some 168), none, .load 4 true (.t 167), [7, 8, 9]⟩,
          ⟨(some 169), none, .call false (.t 158) [.t 164, .t 168], [0, 1, 2, 3, 4, 5, 6, 7, 8, 9, 10]⟩,
          ⟨(some 170), none, .bin .lss (.t 169) (.c (.int .i64 0)), [0, 1, 2, 3, 4, 5, 6, 7, 8, 9, 10, 11]⟩,
          ⟨(some 171), none, .un .not (.t 170), [0, 1, 2, 3, 4, 5, 6, 7, 8, 9, 10, 11, 12]⟩] true)
      (.cond (.t 171) (.reg [⟨(some 172), none, .mov (.t 23), []⟩,
          ⟨(some 173), none, .bin .add (.t 172) (.c (.int .i64 1)), []⟩,
          ⟨(some 20), none, .mov (.t 173), []⟩] false)
        (.reg [⟨(some 174), none, .mov (.t 23), []⟩,
          ⟨(some 21), none, .mov (.t 174), []⟩] false)))))
def slices_symMergeCmpFunc_b3_live : List Nat := [100027, 0, 14, 17]
def slices_symMergeCmpFunc_b3 : IR :=
  .seq (.seq (.reg [⟨(some 108), none, .mov (.t 17), []⟩,
          ⟨(some 109), none, .mov (.t 14), []⟩,
          ⟨(some 110), none, .bin .gtr (.t 108) (.t 109), []⟩] false)
      (.cond (.t 110) (.skip)
        (.exit 6)))
    (.seq (.block 7 (.reg [⟨(some 113), none, .mov (.t 0), []⟩,
          ⟨(some 114), none, .mov (.t 17), []⟩,
          ⟨(some 115), none, .mov (.t 0), []⟩,
          ⟨(some 116), none, .mov (.t 17), []⟩,
          ⟨(some 117), none, .bin .sub (.t 116) (.c (.int .i64 1)), [3]⟩,
          ⟨(some 118), none, .mov (.t 0), []⟩,
          ⟨(some 119), none, .mov (.t 17), []⟩,
          ⟨(some 120), none, .bin .sub (.t 119) (.c (.int .i64 1)), [6]⟩,
          ⟨(some 121), none, .iaddr 4 (.t 118) (.t 120), [5, 6, 7]⟩,
          ⟨(some 122), none, .load 4 true (.t 121), [5, 6, 7, 8]⟩,
          ⟨(some 123), none, .mov (.t 0), []⟩,
          ⟨(some 124), none, .mov (.t 17), []⟩,
          ⟨(some 125), none, .iaddr 4 (.t 123) (.t 124), [10, 11]⟩,
          ⟨(some 126), none, .load 4 true (.t 125), [10, 11, 12]⟩,
          ⟨(some 127), none, .iaddr 4 (.t 113) (.t 114), [0, 1, 5, 6, 7, 8, 9, 10, 11, 12, 13]⟩,
          ⟨none, none, .store 4 (.t 127) (.t 122), [0, 1, 5, 6, 7, 8, 9, 10, 11, 12, 13, 14]⟩,
          ⟨(some 128), none, .iaddr 4 (.t 115) (.t 117), [0, 1, 2, 3, 4, 5, 6, 7, 8, 9, 10, 11, 12, 13, 14, 15]⟩,
          ⟨none, none, .store 4 (.t 128) (.t 126), [0, 1, 2, 3, 4, 5, 6, 7, 8, 9, 10, 11, 12, 13, 14, 15, 16]⟩] true))
    (.reg [⟨(some 111), none, .mov (.t 17), []⟩,
      ⟨(some 112), none, .bin .sub (.t 111) (.c (.int .i64 1)), []⟩,
      ⟨(some 17), none, .mov (.t 112), []⟩] false))
def slices_symMergeCmpFunc_b2_live : List Nat := [100026, 0, 2, 4, 14, 15]
def slices_symMergeCmpFunc_b2 : IR :=
  .seq (.seq (.reg [⟨(some 83), none, .mov (.t 14), []⟩,
          ⟨(some 84), none, .mov (.t 15), []⟩,
          ⟨(some 85), none, .bin .lss (.t 83) (.t 84), []⟩] false)
      (.cond (.t 85) (.skip)
        (.exit 4)))
    (.block 5 (.seq (.reg [⟨(some 86), none, .mov (.t 14), []⟩,
          ⟨(some 87), none, .mov (.t 15), []⟩,
          ⟨(some 88), none, .bin .add (.t 86) (.t 87), []⟩,
          ⟨(some 89), none, .conv .u64 (.t 88), []⟩,
          ⟨(some 90), none, .bin .shr (.t 89) (.c (.int .u64 1)), []⟩,
          ⟨(some 91), none, .conv .i64 (.t 90), []⟩,
          ⟨(some 16), none, .mov (.t 91), []⟩] false)
      (.seq (.reg [⟨(some 92), none, .mov (.t 4), []⟩,
          ⟨(some 93), none, .mov (.t 0), []⟩,
          ⟨(some 94), none, .mov (.t 2), []⟩,
          ⟨(some 95), none, .iaddr 4 (.t 93) (.t 94), [1, 2]⟩,
          ⟨(some 96), none, .load 4 true (.t 95), [1, 2, 3]⟩,
          ⟨(some 97), none, .mov (.t 0), []⟩,
          ⟨(some 98), none, .mov (.t 16), []⟩,
          ⟨(some 99), none, .iaddr 4 (.t 97) (.t 98), [5, 6]⟩,
          ⟨(some 100), none, .load 4 true (.t 99), [5, 6, 7]⟩,
          ⟨(some 101), none, .call false (.t 92) [.t 96, .t 100], [0, 1, 2, 3, 4, 5, 6, 7, 8]⟩,
          ⟨(some 102), none, .bin .lss (.t 101) (.c (.int .i64 0)), [0, 1, 2, 3, 4, 5, 6, 7, 8, 9]⟩,
          ⟨(some 103), none, .un .not (.t 102), [0, 1, 2, 3, 4, 5, 6, 7, 8, 9, 10]⟩] true)
      (.cond (.t 103) (.reg [⟨(some 104), none, .mov (.t 16), []⟩,
          ⟨(some 105), none, .bin .add (.t 104) (.c (.int .i64 1)), []⟩,
          ⟨(some 14), none, .mov (.t 105), []⟩] false)
        (.reg [⟨(some 106), none, .mov (.t 16), []⟩,
          ⟨(some 15), none, .mov (.t 106), []⟩] false)))))
def slices_symMergeCmpFunc_b1_live : List Nat := [100025, 0, 10, 13]
def slices_symMergeCmpFunc_b1 : IR :=
  .seq (.seq (.reg [⟨(some 55), none, .mov (.t 13), []⟩,
          ⟨(some 56), none, .mov (.t 10), []⟩,
          ⟨(some 57), none, .bin .sub (.t 56) (.c (.int .i64 1)), []⟩,
          ⟨(some 58), none, .bin .lss (.t 55) (.t 57), []⟩] false)
      (.cond (.t 58) (.skip)
        (.exit 2)))
    (.seq (.block 3 (.reg [⟨(some 61), none, .mov (.t 0), []⟩,
          ⟨(some 62), none, .mov (.t 13), []⟩,
          ⟨(some 63), none, .mov (.t 0), []⟩,
          ⟨(some 64), none, .mov (.t 13), []⟩,
          ⟨(some 65), none, .bin .add (.t 64) (.c (.int .i64 1)), [3]⟩,
          ⟨(some 66), none, .mov (.t 0), []⟩,
          ⟨(some 67), none, .mov (.t 13), []⟩,
          ⟨(some 68), none, .bin .add (.t 67) (.c (.int .i64 1)), [6]⟩,
          ⟨(some 69), none, .iaddr 4 (.t 66) (.t 68), [5, 6, 7]⟩,
          ⟨(some 70), none, .load 4 true (.t 69), [5, 6, 7, 8]⟩,
          ⟨(some 71), none, .mov (.t 0), []⟩,
          ⟨(some 72), none, .mov (.t 13), []⟩,
          ⟨(some 73), none, .iaddr 4 (.t 71) (.t 72), [10, 11]⟩,
          ⟨(some 74), none, .load 4 true (.t 73), [10, 11, 12]⟩,
          ⟨(some 75), none, .iaddr 4 (.t 61) (.t 62), [0, 1, 5, 6, 7, 8, 9, 10, 11, 12, 13]⟩,
          ⟨none, none, .store 4 (.t 75) (.t 70), [0, 1, 5, 6, 7, 8, 9, 10, 11, 12, 13, 14]⟩,
          ⟨(some 76), none, .iaddr 4 (.t 63) (.t 65), [0, 1, 2, 3, 4, 5, 6, 7, 8, 9, 10, 11, 12, 13, 14, 15]⟩,
          ⟨none, none, .store 4 (.t 76) (.t 74), [0, 1, 2, 3, 4, 5, 6, 7, 8, 9, 10, 11, 12, 13, 14, 15, 16]⟩] true))
    (.reg [⟨(some 59), none, .mov (.t 13), []⟩,
      ⟨(some 60), none, .bin .add (.t 59) (.c (.int .i64 1)), []⟩,
      ⟨(some 13), none, .mov (.t 60), []⟩] false))
def slices_symMergeCmpFunc_b0_live : List Nat := [100024, 0, 1, 4, 10, 11]
def slices_symMergeCmpFunc_b0 : IR :=
  .seq (.seq (.reg [⟨(some 31), none, .mov (.t 10), []⟩,
          ⟨(some 32), none, .mov (.t 11), []⟩,
          ⟨(some 33), none, .bin .lss (.t 31) (.t 32), []⟩] false)
      (.cond (.t 33) (.skip)
        (.exit 0)))
    (.block 1 (.seq (.reg [⟨(some 34), none, .mov (.t 10), []⟩,
          ⟨(some 35), none, .mov (.t 11), []⟩,
          ⟨(some 36), none, .bin .add (.t 34) (.t 35), []⟩,
          ⟨(some 37), none, .conv .u64 (.t 36), []⟩,
          ⟨(some 38), none, .bin .shr (.t 37) (.c (.int .u64 1)), []⟩,
          ⟨(some 39), none, .conv .i64 (.t 38), []⟩,
          ⟨(some 12), none, .mov (.t 39), []⟩] false)
      (.seq (.reg [⟨(some 40), none, .mov (.t 4), []⟩,
          ⟨(some 41), none, .mov (.t 0), []⟩,
          ⟨(some 42), none, .mov (.t 12), []⟩,
          ⟨(some 43), none, .iaddr 4 (.t 41) (.t 42), [1, 2]⟩,
          ⟨(some 44), none, .load 4 true (.t 43), [1, 2, 3]⟩,
          ⟨(some 45), none, .mov (.t 0), []⟩,
          ⟨(some 46), none, .mov (.t 1), []⟩,
          ⟨(some 47), none, .iaddr 4 (.t 45) (.t 46), [5, 6]⟩,
          ⟨(some 48), none, .load 4 true (.t 47), [5, 6, 7]⟩,
          ⟨(some 49), none, .call false (.t 40) [.t 44, .t 48], [0, 1, 2, 3, 4, 5, 6, 7, 8]⟩,
          ⟨(some 50), none, .bin .lss (.t 49) (.c (.int .i64 0)), [0, 1, 2, 3, 4, 5, 6, 7, 8, 9]⟩] true)
      (.cond (.t 50) (.reg [⟨(some 51), none, .mov (.t 12), []⟩,
          ⟨(some 52), none, .bin .add (.t 51) (.c (.int .i64 1)), []⟩,
          ⟨(some 10), none, .mov (.t 52), []⟩] false)
        (.reg [⟨(some 53), none, .mov (.t 12), []⟩,
          ⟨(some 11), none, .mov (.t 53), []⟩] false)))))
def slices_symMergeCmpFunc_c : IR :=
  .seq (.seq (.reg [⟨(some 25), none, .mov (.t 2), []⟩,
        ⟨(some 26), none, .mov (.t 1), []⟩,
        ⟨(some 27), none, .bin .sub (.t 25) (.t 26), []⟩,
        ⟨(some 28), none, .bin .eql (.t 27) (.c (.int .i64 1)), []⟩] false)
    (.cond (.t 28) (.seq (.reg [⟨(some 29), none, .mov (.t 2), []⟩,
          ⟨(some 10), none, .mov (.t 29), []⟩] false)
      (.seq (.reg [⟨(some 30), none, .mov (.t 3), []⟩,
          ⟨(some 11), none, .mov (.t 30), []⟩] false)
      (.seq (.block 0 (.loop slices_symMergeCmpFunc_b0_live slices_symMergeCmpFunc_b0))
      (.seq (.seq (.reg [⟨(some 54), none, .mov (.t 1), []⟩,
            ⟨(some 13), none, .mov (.t 54), []⟩] false)
        (.block 2 (.loop slices_symMergeCmpFunc_b1_live slices_symMergeCmpFunc_b1)))
      (.ret)))))
      (.skip)))
  (.seq (.seq (.reg [⟨(some 77), none, .mov (.t 3), []⟩,
        ⟨(some 78), none, .mov (.t 2), []⟩,
        ⟨(some 79), none, .bin .sub (.t 77) (.t 78), []⟩,
        ⟨(some 80), none, .bin .eql (.t 79) (.c (.int .i64 1)), []⟩] false)
    (.cond (.t 80) (.seq (.reg [⟨(some 81), none, .mov (.t 1), []⟩,
          ⟨(some 14), none, .mov (.t 81), []⟩] false)
      (.seq (.reg [⟨(some 82), none, .mov (.t 2), []⟩,
          ⟨(some 15), none, .mov (.t 82), []⟩] false)
      (.seq (.block 4 (.loop slices_symMergeCmpFunc_b2_live slices_symMergeCmpFunc_b2))
      (.seq (.seq (.reg [⟨(some 107), none, .mov (.t 2), []⟩,
            ⟨(some 17), none, .mov (.t 107), []⟩] false)
        (.block 6 (.loop slices_symMergeCmpFunc_b3_live slices_symMergeCmpFunc_b3)))
      (.ret)))))
      (.skip)))
  (.seq (.reg [⟨(some 129), none, .mov (.t 1), []⟩,
      ⟨(some 130), none, .mov (.t 3), []⟩,
      ⟨(some 131), none, .bin .add (.t 129) (.t 130), []⟩,
      ⟨(some 132), none, .conv .u64 (.t 131), []⟩,
      ⟨(some 133), none, .bin .shr (.t 132) (.c (.int .u64 1)), []⟩,
      ⟨(some 134), none, .conv .i64 (.t 133), []⟩,
      ⟨(some 18), none, .mov (.t 134), []⟩] false)
  (.seq (.reg [⟨(some 135), none, .mov (.t 18), []⟩,
      ⟨(some 136), none, .mov (.t 2), []⟩,
      ⟨(some 137), none, .bin .add (.t 135) (.t 136), []⟩,
      ⟨(some 19), none, .mov (.t 137), []⟩] false)
  (.seq (.reg [⟨(some 20), none, .mov (.c (.int .i64 0)), []⟩,
      ⟨(some 21), none, .mov (.c (.int .i64 0)), []⟩] false)
  (.seq (.seq (.reg [⟨(some 138), none, .mov (.t 2), []⟩,
        ⟨(some 139), none, .mov (.t 18), []⟩,
        ⟨(some 140), none, .bin .gtr (.t 138) (.t 139), []⟩] false)
    (.cond (.t 140) (.seq (.reg [⟨(some 141), none, .mov (.t 19), []⟩,
          ⟨(some 142), none, .mov (.t 3), []⟩,
          ⟨(some 143), none, .bin .sub (.t 141) (.t 142), []⟩,
          ⟨(some 20), none, .mov (.t 143), []⟩] false)
      (.reg [⟨(some 144), none, .mov (.t 18), []⟩,
        ⟨(some 21), none, .mov (.t 144), []⟩] false))
      (.seq (.reg [⟨(some 145), none, .mov (.t 1), []⟩,
          ⟨(some 20), none, .mov (.t 145), []⟩] false)
      (.reg [⟨(some 146), none, .mov (.t 2), []⟩,
        ⟨(some 21), none, .mov (.t 146), []⟩] false))))
  (.seq (.reg [⟨(some 147), none, .mov (.t 19), []⟩,
      ⟨(some 148), none, .bin .sub (.t 147) (.c (.int .i64 1)), []⟩,
      ⟨(some 22), none, .mov (.t 148), []⟩] false)
  (.seq (.block 8 (.loop slices_symMergeCmpFunc_b4_live slices_symMergeCmpFunc_b4))
  (.seq (.reg [⟨(some 175), none, .mov (.t 19), []⟩,
      ⟨(some 176), none, .mov (.t 20), []⟩,
      ⟨(some 177), none, .bin .sub (.t 175) (.t 176), []⟩,
      ⟨(some 24), none, .mov (.t 177), []⟩] false)
  (.seq (.seq (.reg [⟨(some 178), none, .mov (.t 20), []⟩,
        ⟨(some 179), none, .mov (.t 2), []⟩,
        ⟨(some 180), none, .bin .lss (.t 178) (.t 179), []⟩,
        ⟨(some 181), none, .mov (.t 180), []⟩,
        ⟨(some 182), (some (181, true)), .mov (.t 2), []⟩,
        ⟨(some 183), (some (181, true)), .mov (.t 24), []⟩,
        ⟨(some 184), (some (181, true)), .bin .lss (.t 182) (.t 183), []⟩,
        ⟨(some 185), none, .pick (.t 181) (.t 184) (.c (.bool false)), []⟩] false)
    (.cond (.t 185) (.reg [⟨(some 186), none, .mov (.t 0), []⟩,
        ⟨(some 187), none, .mov (.t 20), []⟩,
        ⟨(some 188), none, .mov (.t 2), []⟩,
        ⟨(some 189), none, .mov (.t 24), []⟩,
        ⟨(some 190), none, .mov (.t 4), []⟩,
        ⟨(some 191), none, .call true (.f 47) [.t 186, .t 187, .t 188, .t 189, .t 190], []⟩] false)
      (.skip)))
  (.seq (.seq (.reg [⟨(some 192), none, .mov (.t 1), []⟩,
        ⟨(some 193), none, .mov (.t 20), []⟩,
        ⟨(some 194), none, .bin .lss (.t 192) (.t 193), []⟩,
        ⟨(some 195), none, .mov (.t 194), []⟩,
        ⟨(some 196), (some (195, true)), .mov (.t 20), []⟩,
        ⟨(some 197), (some (195, true)), .mov (.t 18), []⟩,
        ⟨(some 198), (some (195, true)), .bin .lss (.t 196) (.t 197), []⟩,
        ⟨(some 199), none, .pick (.t 195) (.t 198) (.c (.bool false)), []⟩] false)
    (.cond (.t 199) (.reg [⟨(some 200), none, .mov (.t 0), []⟩,
        ⟨(some 201), none, .mov (.t 1), []⟩,
        ⟨(some 202), none, .mov (.t 20), []⟩,
        ⟨(some 203), none, .mov (.t 18), []⟩,
        ⟨(some 204), none, .mov (.t 4), []⟩,
        ⟨(some 205), none, .call true (.f 44) [.t 200, .t 201, .t 202, .t 203, .t 204], []⟩] false)
      (.skip)))
  (.seq (.reg [⟨(some 206), none, .mov (.t 18), []⟩,
      ⟨(some 207), none, .mov (.t 24), []⟩,
      ⟨(some 208), none, .bin .lss (.t 206) (.t 207), []⟩,
      ⟨(some 209), none, .mov (.t 208), []⟩,
      ⟨(some 210), (some (209, true)), .mov (.t 24), []⟩,
      ⟨(some 211), (some (209, true)), .mov (.t 3), []⟩,
      ⟨(some 212), (some (209, true)), .bin .lss (.t 210) (.t 211), []⟩,
      ⟨(some 213), none, .pick (.t 209) (.t 212) (.c (.bool false)), []⟩] false)
  (.cond (.t 213) (.reg [⟨(some 214), none, .mov (.t 0), []⟩,
      ⟨(some 215), none, .mov (.t 18), []⟩,
      ⟨(some 216), none, .mov (.t 24), []⟩,
      ⟨(some 217), none, .mov (.t 3), []⟩,
      ⟨(some 218), none, .mov (.t 4), []⟩,
      ⟨(some 219), none, .call true (.f 44) [.t 214, .t 215, .t 216, .t 217, .t 218], []⟩] false)
    (.skip)))))))))))))
def slices_symMergeCmpFunc : IFn := ⟨5, 220, [], false, slices_symMergeCmpFunc_c⟩

/-- function 46: orchestrator/ orchestratorref02.Add -/
def ref02_Add_c : IR :=
  .seq (.reg [⟨(some 2), none, .box 3 (.t 0), []⟩,
      ⟨(some 3), none, .box 3 (.t 1), []⟩,
      ⟨(some 4), none, .zero [.int .i64 0, .int .i64 0, .int .i64 0], []⟩] false)
  (.seq (.reg [⟨(some 5), none, .faddr 0 (.t 2), []⟩,
      ⟨(some 6), none, .load 1 false (.t 5), [0]⟩,
      ⟨(some 7), none, .call false (.f 48) [.t 6], [0, 1]⟩,
      ⟨(some 8), none, .faddr 0 (.t 3), []⟩,
      ⟨(some 9), none, .load 1 false (.t 8), [3]⟩,
      ⟨(some 10), none, .call false (.f 48) [.t 9], [0, 1, 2, 3, 4]⟩,
      ⟨(some 11), none, .bin .add (.t 7) (.t 10), [0, 1, 2, 3, 4, 5]⟩,
      ⟨(some 12), none, .call false (.f 48) [.t 11], [0, 1, 2, 3, 4, 5, 6]⟩,
      ⟨(some 13), none, .faddr 1 (.t 2), []⟩,
      ⟨(some 14), none, .load 1 false (.t 13), [8]⟩,
      ⟨(some 15), none, .call false (.f 48) [.t 14], [0, 1, 2, 3, 4, 5, 6, 7, 8, 9]⟩,
      ⟨(some 16), none, .faddr 1 (.t 3), []⟩,
      ⟨(some 17), none, .load 1 false (.t 16), [11]⟩,
      ⟨(some 18), none, .call false (.f 48) [.t 17], [0, 1, 2, 3, 4, 5, 6, 7, 8, 9, 10, 11, 12]⟩,
      ⟨(some 19), none, .bin .add (.t 15) (.t 18), [0, 1, 2, 3, 4, 5, 6, 7, 8, 9, 10, 11, 12, 13]⟩,
      ⟨(some 20), none, .call false (.f 48) [.t 19], [0, 1, 2, 3, 4, 5, 6, 7, 8, 9, 10, 11, 12, 13, 14]⟩,
      ⟨(some 21), none, .faddr 2 (.t 2), []⟩,
      ⟨(some 22), none, .load 1 false (.t 21), [16]⟩,
      ⟨(some 23), none, .call false (.f 48) [.t 22], [0, 1, 2, 3, 4, 5, 6, 7, 8, 9, 10, 11, 12, 13, 14, 15, 16, 17]⟩,
      ⟨(some 24), none, .faddr 2 (.t 3), []⟩,
      ⟨(some 25), none, .load 1 false (.t 24), [19]⟩,
      ⟨(some 26), none, .call false (.f 48) [.t 25], [0, 1, 2, 3, 4, 5, 6, 7, 8, 9, 10, 11, 12, 13, 14, 15, 16, 17, 18, 19, 20]⟩,
      ⟨(some 27), none, .bin .add (.t 23) (.t 26), [0, 1, 2, 3, 4, 5, 6, 7, 8, 9, 10, 11, 12, 13, 14, 15, 16, 17, 18, 19, 20, 21]⟩,
      ⟨(some 28), none, .call false (.f 48) [.t 27], [0, 1, 2, 3, 4, 5, 6, 7, 8, 9, 10, 11, 12, 13, 14, 15, 16, 17, 18, 19, 20, 21, 22]⟩,
      ⟨(some 29), none, .build [.int .i64 0, .int .i64 0, .int .i64 0] [(0, 1, .t 12), (1, 1, .t 20), (2, 1, .t 28)], [0, 1, 2, 3, 4, 5, 6, 7, 8, 9, 10, 11, 12, 13, 14, 15, 16, 17, 18, 19, 20, 21, 22, 23]⟩,
      ⟨none, none, .store 3 (.t 4) (.t 29), [0, 1, 2, 3, 4, 5, 6, 7, 8, 9, 10, 11, 12, 13, 14, 15, 16, 17, 18, 19, 20, 21, 22, 23, 24]⟩] true)
  (.ret))
def ref02_Add : IFn := ⟨2, 30, [.cell 4 3 true], false, ref02_Add_c⟩

/-- function 47: slices.rotateCmpFunc[orchestrator/ qos.entry] -/
def slices_rotateCmpFunc_b0_live : List Nat := [100029, 0, 2, 4, 10, 11]
def slices_rotateCmpFunc_b0 : IR :=
  .seq (.seq (.reg [⟨(some 18), none, .mov (.t 10), []⟩,
          ⟨(some 19), none, .mov (.t 11), []⟩,
          ⟨(some 20), none, .bin .neq (.t 18) (.t 19), []⟩] false)
      (.cond (.t 20) (.skip)
        (.exit 0)))
    (.block 1 (.seq (.reg [⟨(some 21), none, .mov (.t 10), []⟩,
          ⟨(some 22), none, .mov (.t 11), []⟩,
          ⟨(some 23), none, .bin .gtr (.t 21) (.t 22), []⟩] false)
      (.cond (.t 23) (.seq (.reg [⟨(some 24), none, .mov (.t 0), []⟩,
            ⟨(some 25), none, .mov (.t 2), []⟩,
            ⟨(some 26), none, .mov (.t 10), []⟩,
            ⟨(some 27), none, .bin .sub (.t 25) (.t 26), []⟩,
            ⟨(some 28), none, .mov (.t 2), []⟩,
            ⟨(some 29), none, .mov (.t 11), []⟩,
            ⟨(some 30), none, .mov (.t 4), []⟩,
            ⟨(some 31), none, .call true (.f 49) [.t 24, .t 27, .t 28, .t 29, .t 30], []⟩] false)
        (.reg [⟨(some 32), none, .mov (.t 10), []⟩,
          ⟨(some 33), none, .mov (.t 11), []⟩,
          ⟨(some 34), none, .bin .sub (.t 32) (.t 33), []⟩,
          ⟨(some 10), none, .mov (.t 34), []⟩] false))
        (.seq (.reg [⟨(some 35), none, .mov (.t 0), []⟩,
            ⟨(some 36), none, .mov (.t 2), []⟩,
            ⟨(some 37), none, .mov (.t 10), []⟩,
            ⟨(some 38), none, .bin .sub (.t 36) (.t 37), []⟩,
            ⟨(some 39), none, .mov (.t 2), []⟩,
            ⟨(some 40), none, .mov (.t 11), []⟩,
            ⟨(some 41), none, .bin .add (.t 39) (.t 40), []⟩,
            ⟨(some 42), none, .mov (.t 10), []⟩,
            ⟨(some 43), none, .bin .sub (.t 41) (.t 42), []⟩,
            ⟨(some 44), none, .mov (.t 10), []⟩,
            ⟨(some 45), none, .mov (.t 4), []⟩,
            ⟨(some 46), none, .call true (.f 49) [.t 35, .t 38, .t 43, .t 44, .t 45], []⟩] false)
        (.reg [⟨(some 47), none, .mov (.t 11), []⟩,
          ⟨(some 48), none, .mov (.t 10), []⟩,
          ⟨(some 49), none, .bin .sub (.t 47) (.t 48), []⟩,
          ⟨(some 11), none, .mov (.t 49), []⟩] false)))))
def slices_rotateCmpFunc_c : IR :=
  .seq (.reg [⟨(some 12), none, .mov (.t 2), []⟩,
      ⟨(some 13), none, .mov (.t 1), []⟩,
      ⟨(some 14), none, .bin .sub (.t 12) (.t 13), []⟩,
      ⟨(some 10), none, .mov (.t 14), []⟩] false)
  (.seq (.reg [⟨(some 15), none, .mov (.t 3), []⟩,
      ⟨(some 16), none, .mov (.t 2), []⟩,
      ⟨(some 17), none, .bin .sub (.t 15) (.t 16), []⟩,
      ⟨(some 11), none, .mov (.t 17), []⟩] false)
  (.seq (.block 0 (.loop slices_rotateCmpFunc_b0_live slices_rotateCmpFunc_b0))
  (.reg [⟨(some 50), none, .mov (.t 0), []⟩,
    ⟨(some 51), none, .mov (.t 2), []⟩,
    ⟨(some 52), none, .mov (.t 10), []⟩,
    ⟨(some 53), none, .bin .sub (.t 51) (.t 52), []⟩,
    ⟨(some 54), none, .mov (.t 2), []⟩,
    ⟨(some 55), none, .mov (.t 10), []⟩,
    ⟨(some 56), none, .mov (.t 4), []⟩,
    ⟨(some 57), none, .call true (.f 49) [.t 50, .t 53, .t 54, .t 55, .t 56], []⟩] false)))
def slices_rotateCmpFunc : IFn := ⟨5, 58, [], false, slices_rotateCmpFunc_c⟩

/-- function 48: orchestrator/ orchestratorref02.clamp -/
def ref02_clamp_c : IR :=
  .seq (.reg [⟨(some 2), none, .mov (.c (.int .i64 0)), []⟩] false)
  (.seq (.reg [⟨(some 3), none, .mov (.t 0), []⟩,
      ⟨(some 4), none, .mnmx true (.c (.int .i64 0)) [.t 3], []⟩,
      ⟨(some 5), none, .mnmx false (.c (.int .i64 1000000000000000)) [.t 4], []⟩,
      ⟨(some 2), none, .mov (.t 5), []⟩] false)
  (.ret))
def ref02_clamp : IFn := ⟨1, 6, [.tmp 2], false, ref02_clamp_c⟩

/-- function 49: slices.swapRangeCmpFunc[orchestrator/ qos.entry] -/
def slices_swapRangeCmpFunc_b0_live : List Nat := [100030, 0, 1, 2, 3, 10]
def slices_swapRangeCmpFunc_b0 : IR :=
  .seq (.seq (.reg [⟨(some 11), none, .mov (.t 10), []⟩,
          ⟨(some 12), none, .mov (.t 3), []⟩,
          ⟨(some 13), none, .bin .lss (.t 11) (.t 12), []⟩] false)
      (.cond (.t 13) (.skip)
        (.exit 0)))
    (.seq (.block 1 (.reg [⟨(some 16), none, .mov (.t 0), []⟩,
          ⟨(some 17), none, .mov (.t 1), []⟩,
          ⟨(some 18), none, .mov (.t 10), []⟩,
          ⟨(some 19), none, .bin .add (.t 17) (.t 18), [1, 2]⟩,
          ⟨(some 20), none, .mov (.t 0), []⟩,
          ⟨(some 21), none, .mov (.t 2), []⟩,
          ⟨(some 22), none, .mov (.t 10), []⟩,
          ⟨(some 23), none, .bin .add (.t 21) (.t 22), [5, 6]⟩,
          ⟨(some 24), none, .mov (.t 0), []⟩,
          ⟨(some 25), none, .mov (.t 2), []⟩,
          ⟨(some 26), none, .mov (.t 10), []⟩,
          ⟨(some 27), none, .bin .add (.t 25) (.t 26), [9, 10]⟩,
          ⟨(some 28), none, .iaddr 4 (.t 24) (.t 27), [8, 9, 10, 11]⟩,
          ⟨(some 29), none, .load 4 true (.t 28), [8, 9, 10, 11, 12]⟩,
          ⟨(some 30), none, .mov (.t 0), []⟩,
          ⟨(some 31), none, .mov (.t 1), []⟩,
          ⟨(some 32), none, .mov (.t 10), []⟩,
          ⟨(some 33), none, .bin .add (.t 31) (.t 32), [15, 16]⟩,
          ⟨(some 34), none, .iaddr 4 (.t 30) (.t 33), [14, 15, 16, 17]⟩,
          ⟨(some 35), none, .load 4 true (.t 34), [14, 15, 16, 17, 18]⟩,
          ⟨(some 36), none, .iaddr 4 (.t 16) (.t 19), [0, 1, 2, 3, 8, 9, 10, 11, 12, 13, 14, 15, 16, 17, 18, 19]⟩,
          ⟨none, none, .store 4 (.t 36) (.t 29), [0, 1, 2, 3, 8, 9, 10, 11, 12, 13, 14, 15, 16, 17, 18, 19, 20]⟩,
          ⟨(some 37), none, .iaddr 4 (.t 20) (.t 23), [0, 1, 2, 3, 4, 5, 6, 7, 8, 9, 10, 11, 12, 13, 14, 15, 16, 17, 18, 19, 20, 21]⟩,
          ⟨none, none, .store 4 (.t 37) (.t 35), [0, 1, 2, 3, 4, 5, 6, 7, 8, 9, 10, 11, 12, 13, 14, 15, 16, 17, 18, 19, 20, 21, 22]⟩] true))
    (.reg [⟨(some 14), none, .mov (.t 10), []⟩,
      ⟨(some 15), none, .bin .add (.t 14) (.c (.int .i64 1)), []⟩,
      ⟨(some 10), none, .mov (.t 15), []⟩] false))
def slices_swapRangeCmpFunc_c : IR :=
  .seq (.reg [⟨(some 10), none, .mov (.c (.int .i64 0)), []⟩] false)
  (.block 0 (.loop slices_swapRangeCmpFunc_b0_live slices_swapRangeCmpFunc_b0))
def slices_swapRangeCmpFunc : IFn := ⟨5, 38, [], false, slices_swapRangeCmpFunc_c⟩

def table : List (Nat × Fun) :=
  [(3, .ir law51_QosClass),
   (4, .ir law51_QosRanks),
   (5, .ir law51_QosRelief),
   (6, .ir law51_QosRises),
   (7, .ir law51_lives),
   (8, .ir qos_Class),
   (9, .ir ref51_Class),
   (10, .ir ref51_Strings),
   (11, .ir qos_Rank),
   (12, .ir ref51_Rank),
   (13, .ir qos_Relieve),
   (14, .ir ref51_Relieve),
   (15, .ir law51_fits),
   (16, .ir law51_index),
   (17, .ir meta_KeyOf),
   (18, .ir law51_place),
   (19, .ir law51_pod),
   (20, .ir qos_clamp),
   (21, .ir ref51_limit),
   (22, .ir qos_ranked),
   (23, .ir ref51_order),
   (24, .ir ref13_KeyOf),
   (25, .ir ref51_usage),
   (26, .ir meta_Key),
   (27, .ir resource_Requests),
   (28, .ir slices_SortStableFunc),
   (29, .ir qos_ranked_1),
   (30, .ir cmp_Or),
   (31, .ir cmp_Compare),
   (32, .ir strings_Compare),
   (33, .ir ref51_before),
   (34, .ir ref13_Key),
   (35, .ir resource_Add),
   (36, .ir slices_stableCmpFunc),
   (37, .ir cmp_isNaN),
   (38, .cmpstr),
   (39, .ir ref02_Requests),
   (40, .ir resource_each),
   (41, .ir resource_Add_1),
   (42, .ir resource_clamp),
   (43, .ir slices_insertionSortCmpFunc),
   (44, .ir slices_symMergeCmpFunc),
   (46, .ir ref02_Add),
   (47, .ir slices_rotateCmpFunc),
   (48, .ir ref02_clamp),
   (49, .ir slices_swapRangeCmpFunc)]
end Go.Proofs.Ytnicmdfafihmpaa.Ir
