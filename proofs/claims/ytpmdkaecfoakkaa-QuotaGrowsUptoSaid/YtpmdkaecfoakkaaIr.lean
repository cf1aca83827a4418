/- The seat's functions as the evaluator takes them; printed by a program, checked against the given ones in YtpmdkaecfoakkaaTie. -/
import Derived.Test.YtpmdkaecfoakkaaPvA
namespace Go.Proofs.Ytpmdkaecfoakkaa.Ir
open Go.Pv

/-- function 3: orchestrator/ orchestratorlaw02.ResourceSums -/
def law02_ResourceSums_c : IR :=
  .seq (.reg [⟨(some 2), none, .box 3 (.t 0), []⟩,
      ⟨(some 3), none, .box 3 (.t 1), []⟩,
      ⟨(some 4), none, .mov (.c (.bool false)), []⟩] false)
  (.seq (.reg [⟨(some 5), none, .call false (.f 12) [], []⟩,
      ⟨(some 6), none, .mov (.t 5), [0]⟩,
      ⟨(some 7), (some (6, true)), .load 3 true (.t 2), [0, 1]⟩,
      ⟨(some 8), (some (6, true)), .load 3 true (.t 3), [0, 1]⟩,
      ⟨(some 9), (some (6, true)), .call false (.f 13) [.t 7, .t 8], [0, 1, 2, 3]⟩,
      ⟨(some 10), (some (6, true)), .load 3 true (.t 2), [0, 1]⟩,
      ⟨(some 11), (some (6, true)), .load 3 true (.t 3), [0, 1]⟩,
      ⟨(some 12), (some (6, true)), .call false (.f 14) [.t 10, .t 11], [0, 1, 2, 3, 4, 5, 6]⟩,
      ⟨(some 13), (some (6, true)), .eqs (.st [(0, 1, .int), (1, 1, .int), (2, 1, .int)]) false (.t 9) (.t 12), [0, 1, 2, 3, 4, 5, 6, 7]⟩,
      ⟨(some 14), none, .pick (.t 6) (.t 13) (.c (.bool false)), [0, 1, 2, 3, 4, 5, 6, 7, 8]⟩,
      ⟨(some 15), none, .mov (.t 14), [0, 1, 2, 3, 4, 5, 6, 7, 8, 9]⟩,
      ⟨(some 16), (some (15, true)), .load 3 true (.t 2), [0, 1, 2, 3, 4, 5, 6, 7, 8, 9, 10]⟩,
      ⟨(some 17), (some (15, true)), .load 3 true (.t 3), [0, 1, 2, 3, 4, 5, 6, 7, 8, 9, 10]⟩,
      ⟨(some 18), (some (15, true)), .call false (.f 15) [.t 16, .t 17], [0, 1, 2, 3, 4, 5, 6, 7, 8, 9, 10, 11, 12]⟩,
      ⟨(some 19), (some (15, true)), .load 3 true (.t 2), [0, 1, 2, 3, 4, 5, 6, 7, 8, 9, 10]⟩,
      ⟨(some 20), (some (15, true)), .load 3 true (.t 3), [0, 1, 2, 3, 4, 5, 6, 7, 8, 9, 10]⟩,
      ⟨(some 21), (some (15, true)), .call false (.f 16) [.t 19, .t 20], [0, 1, 2, 3, 4, 5, 6, 7, 8, 9, 10, 11, 12, 13, 14, 15]⟩,
      ⟨(some 22), (some (15, true)), .eqs (.st [(0, 1, .int), (1, 1, .int), (2, 1, .int)]) false (.t 18) (.t 21), [0, 1, 2, 3, 4, 5, 6, 7, 8, 9, 10, 11, 12, 13, 14, 15, 16]⟩,
      ⟨(some 23), none, .pick (.t 15) (.t 22) (.c (.bool false)), [0, 1, 2, 3, 4, 5, 6, 7, 8, 9, 10, 11, 12, 13, 14, 15, 16, 17]⟩,
      ⟨(some 24), none, .mov (.t 23), [0, 1, 2, 3, 4, 5, 6, 7, 8, 9, 10, 11, 12, 13, 14, 15, 16, 17, 18]⟩,
      ⟨(some 25), (some (24, true)), .load 3 true (.t 2), [0, 1, 2, 3, 4, 5, 6, 7, 8, 9, 10, 11, 12, 13, 14, 15, 16, 17, 18, 19]⟩,
      ⟨(some 26), (some (24, true)), .load 3 true (.t 3), [0, 1, 2, 3, 4, 5, 6, 7, 8, 9, 10, 11, 12, 13, 14, 15, 16, 17, 18, 19]⟩,
      ⟨(some 27), (some (24, true)), .call false (.f 17) [.t 25, .t 26], [0, 1, 2, 3, 4, 5, 6, 7, 8, 9, 10, 11, 12, 13, 14, 15, 16, 17, 18, 19, 20, 21]⟩,
      ⟨(some 28), (some (24, true)), .load 3 true (.t 2), [0, 1, 2, 3, 4, 5, 6, 7, 8, 9, 10, 11, 12, 13, 14, 15, 16, 17, 18, 19]⟩,
      ⟨(some 29), (some (24, true)), .load 3 true (.t 3), [0, 1, 2, 3, 4, 5, 6, 7, 8, 9, 10, 11, 12, 13, 14, 15, 16, 17, 18, 19]⟩,
      ⟨(some 30), (some (24, true)), .call false (.f 18) [.t 28, .t 29], [0, 1, 2, 3, 4, 5, 6, 7, 8, 9, 10, 11, 12, 13, 14, 15, 16, 17, 18, 19, 20, 21, 22, 23, 24]⟩,
      ⟨(some 31), (some (24, true)), .eqb false (.t 27) (.t 30), [0, 1, 2, 3, 4, 5, 6, 7, 8, 9, 10, 11, 12, 13, 14, 15, 16, 17, 18, 19, 20, 21, 22, 23, 24, 25]⟩,
      ⟨(some 32), none, .pick (.t 24) (.t 31) (.c (.bool false)), [0, 1, 2, 3, 4, 5, 6, 7, 8, 9, 10, 11, 12, 13, 14, 15, 16, 17, 18, 19, 20, 21, 22, 23, 24, 25, 26]⟩,
      ⟨(some 4), none, .mov (.t 32), [0, 1, 2, 3, 4, 5, 6, 7, 8, 9, 10, 11, 12, 13, 14, 15, 16, 17, 18, 19, 20, 21, 22, 23, 24, 25, 26, 27]⟩] true)
  (.ret))
def law02_ResourceSums : IFn := ⟨2, 33, [.tmp 4], false, law02_ResourceSums_c⟩

/-- function 4: orchestrator/ orchestratorlaw02.ResourcePods -/
def law02_ResourcePods_c : IR :=
  .seq (.reg [⟨(some 2), none, .box 10 (.t 0), []⟩,
      ⟨(some 4), none, .mov (.c (.bool false)), []⟩] false)
  (.seq (.seq (.reg [⟨(some 7), none, .load 10 true (.t 2), []⟩,
        ⟨(some 8), none, .call false (.f 19) [.t 7], [0]⟩,
        ⟨(some 9), none, .load 10 true (.t 2), []⟩,
        ⟨(some 10), none, .call false (.f 20) [.t 9], [0, 1, 2]⟩,
        ⟨(some 11), none, .eqs (.st [(0, 1, .int), (1, 1, .int), (2, 1, .int)]) true (.t 8) (.t 10), [0, 1, 2, 3]⟩,
        ⟨(some 12), none, .mov (.t 11), [0, 1, 2, 3, 4]⟩,
        ⟨(some 13), (some (12, false)), .load 10 true (.t 2), [0, 1, 2, 3, 4, 5]⟩,
        ⟨(some 14), (some (12, false)), .call false (.f 21) [.t 13], [0, 1, 2, 3, 4, 5, 6]⟩,
        ⟨(some 15), (some (12, false)), .load 10 true (.t 2), [0, 1, 2, 3, 4, 5]⟩,
        ⟨(some 16), (some (12, false)), .call false (.f 22) [.t 15], [0, 1, 2, 3, 4, 5, 6, 7, 8]⟩,
        ⟨(some 17), (some (12, false)), .eqs (.st [(0, 1, .int), (1, 1, .int), (2, 1, .int)]) true (.t 14) (.t 16), [0, 1, 2, 3, 4, 5, 6, 7, 8, 9]⟩,
        ⟨(some 18), none, .pick (.t 12) (.c (.bool true)) (.t 17), [0, 1, 2, 3, 4, 5, 6, 7, 8, 9, 10]⟩] true)
    (.cond (.t 18) (.seq (.reg [⟨(some 4), none, .mov (.c (.bool false)), []⟩] false)
      (.ret))
      (.skip)))
  (.seq (.seq (.reg [⟨(some 19), none, .mov (.t 1), []⟩,
        ⟨(some 20), none, .bin .lss (.t 19) (.c (.int .i64 0)), []⟩,
        ⟨(some 21), none, .mov (.t 20), []⟩,
        ⟨(some 22), (some (21, false)), .mov (.t 1), []⟩,
        ⟨(some 23), (some (21, false)), .faddr 4 (.t 2), []⟩,
        ⟨(some 24), (some (21, false)), .load 1 false (.t 23), []⟩,
        ⟨(some 25), (some (21, false)), .len false (.t 24), []⟩,
        ⟨(some 26), (some (21, false)), .bin .gtr (.t 22) (.t 25), []⟩,
        ⟨(some 27), none, .pick (.t 21) (.c (.bool true)) (.t 26), []⟩] false)
    (.cond (.t 27) (.seq (.reg [⟨(some 28), none, .call false (.f 12) [], []⟩,
          ⟨(some 4), none, .mov (.t 28), []⟩] false)
      (.ret))
      (.skip)))
  (.seq (.reg [⟨(some 29), none, .faddr 4 (.t 2), []⟩,
      ⟨(some 30), none, .load 1 false (.t 29), [0]⟩,
      ⟨(some 31), none, .mov (.t 1), []⟩,
      ⟨(some 32), none, .slice 11 (.t 30) none (some (.t 31)) none, [0, 1, 2]⟩,
      ⟨(some 33), none, .build [.str ⟨#[]⟩, .int .i64 0, .int .i64 0, .int .i64 0, .ns 11, .ns 3, .ns 3, .ns 5, .ns 4, .ns 5] [(4, 1, .t 32)], [0, 1, 2, 3]⟩,
      ⟨(some 34), none, .faddr 4 (.t 2), []⟩,
      ⟨(some 35), none, .load 1 false (.t 34), [5]⟩,
      ⟨(some 36), none, .mov (.t 1), []⟩,
      ⟨(some 37), none, .slice 11 (.t 35) (some (.t 36)) none none, [5, 6, 7]⟩,
      ⟨(some 38), none, .build [.str ⟨#[]⟩, .int .i64 0, .int .i64 0, .int .i64 0, .ns 11, .ns 3, .ns 3, .ns 5, .ns 4, .ns 5] [(4, 1, .t 37)], [5, 6, 7, 8]⟩,
      ⟨(some 5), none, .zero [.str ⟨#[]⟩, .int .i64 0, .int .i64 0, .int .i64 0, .ns 11, .ns 3, .ns 3, .ns 5, .ns 4, .ns 5], []⟩,
      ⟨(some 6), none, .zero [.str ⟨#[]⟩, .int .i64 0, .int .i64 0, .int .i64 0, .ns 11, .ns 3, .ns 3, .ns 5, .ns 4, .ns 5], []⟩,
      ⟨none, none, .store 10 (.t 5) (.t 33), [0, 1, 2, 3, 4, 10, 11]⟩,
      ⟨none, none, .store 10 (.t 6) (.t 38), [0, 1, 2, 3, 4, 5, 6, 7, 8, 9, 10, 11, 12]⟩] true)
  (.seq (.reg [⟨(some 39), none, .call false (.f 12) [], []⟩,
      ⟨(some 40), none, .mov (.t 39), [0]⟩,
      ⟨(some 41), (some (40, true)), .load 10 true (.t 5), [0, 1]⟩,
      ⟨(some 42), (some (40, true)), .call false (.f 19) [.t 41], [0, 1, 2]⟩,
      ⟨(some 43), (some (40, true)), .load 10 true (.t 6), [0, 1]⟩,
      ⟨(some 44), (some (40, true)), .call false (.f 19) [.t 43], [0, 1, 2, 3, 4]⟩,
      ⟨(some 45), (some (40, true)), .call false (.f 13) [.t 42, .t 44], [0, 1, 2, 3, 4, 5]⟩,
      ⟨(some 46), (some (40, true)), .load 10 true (.t 2), [0, 1]⟩,
      ⟨(some 47), (some (40, true)), .call false (.f 19) [.t 46], [0, 1, 2, 3, 4, 5, 6, 7]⟩,
      ⟨(some 48), (some (40, true)), .eqs (.st [(0, 1, .int), (1, 1, .int), (2, 1, .int)]) false (.t 45) (.t 47), [0, 1, 2, 3, 4, 5, 6, 7, 8]⟩,
      ⟨(some 49), none, .pick (.t 40) (.t 48) (.c (.bool false)), [0, 1, 2, 3, 4, 5, 6, 7, 8, 9]⟩,
      ⟨(some 50), none, .mov (.t 49), [0, 1, 2, 3, 4, 5, 6, 7, 8, 9, 10]⟩,
      ⟨(some 51), (some (50, true)), .load 10 true (.t 6), [0, 1, 2, 3, 4, 5, 6, 7, 8, 9, 10, 11]⟩,
      ⟨(some 52), (some (50, true)), .call false (.f 21) [.t 51], [0, 1, 2, 3, 4, 5, 6, 7, 8, 9, 10, 11, 12]⟩,
      ⟨(some 53), (some (50, true)), .load 10 true (.t 5), [0, 1, 2, 3, 4, 5, 6, 7, 8, 9, 10, 11]⟩,
      ⟨(some 54), (some (50, true)), .call false (.f 21) [.t 53], [0, 1, 2, 3, 4, 5, 6, 7, 8, 9, 10, 11, 12, 13, 14]⟩,
      ⟨(some 55), (some (50, true)), .call false (.f 13) [.t 52, .t 54], [0, 1, 2, 3, 4, 5, 6, 7, 8, 9, 10, 11, 12, 13, 14, 15]⟩,
      ⟨(some 56), (some (50, true)), .load 10 true (.t 2), [0, 1, 2, 3, 4, 5, 6, 7, 8, 9, 10, 11]⟩,
      ⟨(some 57), (some (50, true)), .call false (.f 21) [.t 56], [0, 1, 2, 3, 4, 5, 6, 7, 8, 9, 10, 11, 12, 13, 14, 15, 16, 17]⟩,
      ⟨(some 58), (some (50, true)), .eqs (.st [(0, 1, .int), (1, 1, .int), (2, 1, .int)]) false (.t 55) (.t 57), [0, 1, 2, 3, 4, 5, 6, 7, 8, 9, 10, 11, 12, 13, 14, 15, 16, 17, 18]⟩,
      ⟨(some 59), none, .pick (.t 50) (.t 58) (.c (.bool false)), [0, 1, 2, 3, 4, 5, 6, 7, 8, 9, 10, 11, 12, 13, 14, 15, 16, 17, 18, 19]⟩,
      ⟨(some 4), none, .mov (.t 59), [0, 1, 2, 3, 4, 5, 6, 7, 8, 9, 10, 11, 12, 13, 14, 15, 16, 17, 18, 19, 20]⟩] true)
  (.ret)))))
def law02_ResourcePods : IFn := ⟨2, 60, [.tmp 4], false, law02_ResourcePods_c⟩

/-- function 5: orchestrator/ orchestratorlaw02.ResourceBalance -/
def law02_ResourceBalance_c : IR :=
  .seq (.reg [⟨(some 3), none, .box 3 (.t 0), []⟩,
      ⟨(some 4), none, .box 3 (.t 1), []⟩,
      ⟨(some 5), none, .box 3 (.t 2), []⟩,
      ⟨(some 6), none, .mov (.c (.bool false)), []⟩] false)
  (.seq (.reg [⟨(some 8), none, .load 3 true (.t 3), []⟩,
      ⟨(some 9), none, .load 3 true (.t 4), []⟩,
      ⟨(some 10), none, .call false (.f 13) [.t 8, .t 9], []⟩,
      ⟨(some 7), none, .zero [.int .i64 0, .int .i64 0, .int .i64 0], []⟩,
      ⟨none, none, .store 3 (.t 7) (.t 10), []⟩] false)
  (.seq (.seq (.reg [⟨(some 11), none, .faddr 0 (.t 7), []⟩,
        ⟨(some 12), none, .load 1 false (.t 11), [0]⟩,
        ⟨(some 13), none, .bin .lss (.t 12) (.c (.int .i64 1000000000000000)), [0, 1]⟩,
        ⟨(some 14), none, .mov (.t 13), [0, 1, 2]⟩,
        ⟨(some 15), (some (14, true)), .faddr 1 (.t 7), [0, 1, 2, 3]⟩,
        ⟨(some 16), (some (14, true)), .load 1 false (.t 15), [0, 1, 2, 3, 4]⟩,
        ⟨(some 17), (some (14, true)), .bin .lss (.t 16) (.c (.int .i64 1000000000000000)), [0, 1, 2, 3, 4, 5]⟩,
        ⟨(some 18), none, .pick (.t 14) (.t 17) (.c (.bool false)), [0, 1, 2, 3, 4, 5, 6]⟩,
        ⟨(some 19), none, .mov (.t 18), [0, 1, 2, 3, 4, 5, 6, 7]⟩,
        ⟨(some 20), (some (19, true)), .faddr 2 (.t 7), [0, 1, 2, 3, 4, 5, 6, 7, 8]⟩,
        ⟨(some 21), (some (19, true)), .load 1 false (.t 20), [0, 1, 2, 3, 4, 5, 6, 7, 8, 9]⟩,
        ⟨(some 22), (some (19, true)), .bin .lss (.t 21) (.c (.int .i64 1000000000000000)), [0, 1, 2, 3, 4, 5, 6, 7, 8, 9, 10]⟩,
        ⟨(some 23), none, .pick (.t 19) (.t 22) (.c (.bool false)), [0, 1, 2, 3, 4, 5, 6, 7, 8, 9, 10, 11]⟩,
        ⟨(some 24), none, .mov (.t 23), [0, 1, 2, 3, 4, 5, 6, 7, 8, 9, 10, 11, 12]⟩,
        ⟨(some 25), (some (24, true)), .load 3 true (.t 7), [0, 1, 2, 3, 4, 5, 6, 7, 8, 9, 10, 11, 12, 13]⟩,
        ⟨(some 26), (some (24, true)), .load 3 true (.t 4), [0, 1, 2, 3, 4, 5, 6, 7, 8, 9, 10, 11, 12, 13]⟩,
        ⟨(some 27), (some (24, true)), .call false (.f 15) [.t 25, .t 26], [0, 1, 2, 3, 4, 5, 6, 7, 8, 9, 10, 11, 12, 13, 14, 15]⟩,
        ⟨(some 28), (some (24, true)), .load 3 true (.t 3), [0, 1, 2, 3, 4, 5, 6, 7, 8, 9, 10, 11, 12, 13]⟩,
        ⟨(some 29), (some (24, true)), .build [.int .i64 0, .int .i64 0, .int .i64 0] [], [0, 1, 2, 3, 4, 5, 6, 7, 8, 9, 10, 11, 12, 13]⟩,
        ⟨(some 30), (some (24, true)), .call false (.f 13) [.t 28, .t 29], [0, 1, 2, 3, 4, 5, 6, 7, 8, 9, 10, 11, 12, 13, 14, 15, 16, 17, 18]⟩,
        ⟨(some 31), (some (24, true)), .eqs (.st [(0, 1, .int), (1, 1, .int), (2, 1, .int)]) true (.t 27) (.t 30), [0, 1, 2, 3, 4, 5, 6, 7, 8, 9, 10, 11, 12, 13, 14, 15, 16, 17, 18, 19]⟩,
        ⟨(some 32), none, .pick (.t 24) (.t 31) (.c (.bool false)), [0, 1, 2, 3, 4, 5, 6, 7, 8, 9, 10, 11, 12, 13, 14, 15, 16, 17, 18, 19, 20]⟩] true)
    (.cond (.t 32) (.seq (.reg [⟨(some 6), none, .mov (.c (.bool false)), []⟩] false)
      (.ret))
      (.skip)))
  (.seq (.reg [⟨(some 33), none, .call false (.f 12) [], []⟩,
      ⟨(some 34), none, .mov (.t 33), []⟩,
      ⟨(some 35), (some (34, true)), .load 3 true (.t 3), []⟩,
      ⟨(some 36), (some (34, true)), .load 3 true (.t 7), []⟩,
      ⟨(some 37), (some (34, true)), .call false (.f 17) [.t 35, .t 36], []⟩,
      ⟨(some 38), none, .pick (.t 34) (.t 37) (.c (.bool false)), []⟩,
      ⟨(some 39), none, .mov (.t 38), []⟩,
      ⟨(some 40), (some (39, true)), .load 3 true (.t 4), []⟩,
      ⟨(some 41), (some (39, true)), .load 3 true (.t 7), []⟩,
      ⟨(some 42), (some (39, true)), .call false (.f 17) [.t 40, .t 41], []⟩,
      ⟨(some 43), none, .pick (.t 39) (.t 42) (.c (.bool false)), []⟩,
      ⟨(some 44), none, .mov (.t 43), []⟩,
      ⟨(some 45), (some (44, true)), .load 3 true (.t 5), []⟩,
      ⟨(some 46), (some (44, true)), .load 3 true (.t 3), []⟩,
      ⟨(some 47), (some (44, true)), .call false (.f 17) [.t 45, .t 46], []⟩,
      ⟨(some 48), (some (44, true)), .un .not (.t 47), []⟩,
      ⟨(some 49), (some (44, true)), .mov (.t 48), []⟩,
      ⟨(some 50), (some (49, false)), .load 3 true (.t 5), []⟩,
      ⟨(some 51), (some (49, false)), .load 3 true (.t 7), []⟩,
      ⟨(some 52), (some (49, false)), .call false (.f 17) [.t 50, .t 51], []⟩,
      ⟨(some 53), (some (44, true)), .pick (.t 49) (.c (.bool true)) (.t 52), []⟩,
      ⟨(some 54), none, .pick (.t 44) (.t 53) (.c (.bool false)), []⟩,
      ⟨(some 6), none, .mov (.t 54), []⟩] false)
  (.ret))))
def law02_ResourceBalance : IFn := ⟨3, 55, [.tmp 6], false, law02_ResourceBalance_c⟩

/-- function 6: orchestrator/ orchestratorlaw02.ResourceAdds -/
def law02_ResourceAdds_c : IR :=
  .seq (.reg [⟨(some 3), none, .box 3 (.t 0), []⟩,
      ⟨(some 4), none, .box 3 (.t 1), []⟩,
      ⟨(some 5), none, .box 3 (.t 2), []⟩,
      ⟨(some 6), none, .mov (.c (.bool false)), []⟩] false)
  (.seq (.reg [⟨(some 8), none, .load 3 true (.t 3), []⟩,
      ⟨(some 9), none, .load 3 true (.t 4), []⟩,
      ⟨(some 10), none, .call false (.f 13) [.t 8, .t 9], []⟩,
      ⟨(some 7), none, .zero [.int .i64 0, .int .i64 0, .int .i64 0], []⟩,
      ⟨none, none, .store 3 (.t 7) (.t 10), []⟩] false)
  (.seq (.seq (.reg [⟨(some 11), none, .faddr 0 (.t 7), []⟩,
        ⟨(some 12), none, .load 1 false (.t 11), []⟩,
        ⟨(some 13), none, .bin .lss (.t 12) (.c (.int .i64 0)), []⟩,
        ⟨(some 14), none, .mov (.t 13), []⟩,
        ⟨(some 15), (some (14, false)), .faddr 0 (.t 7), []⟩,
        ⟨(some 16), (some (14, false)), .load 1 false (.t 15), []⟩,
        ⟨(some 17), (some (14, false)), .bin .gtr (.t 16) (.c (.int .i64 1000000000000000)), []⟩,
        ⟨(some 18), none, .pick (.t 14) (.c (.bool true)) (.t 17), []⟩,
        ⟨(some 19), none, .mov (.t 18), []⟩,
        ⟨(some 20), (some (19, false)), .faddr 1 (.t 7), []⟩,
        ⟨(some 21), (some (19, false)), .load 1 false (.t 20), []⟩,
        ⟨(some 22), (some (19, false)), .bin .lss (.t 21) (.c (.int .i64 0)), []⟩,
        ⟨(some 23), none, .pick (.t 19) (.c (.bool true)) (.t 22), []⟩,
        ⟨(some 24), none, .mov (.t 23), []⟩,
        ⟨(some 25), (some (24, false)), .faddr 1 (.t 7), []⟩,
        ⟨(some 26), (some (24, false)), .load 1 false (.t 25), []⟩,
        ⟨(some 27), (some (24, false)), .bin .gtr (.t 26) (.c (.int .i64 1000000000000000)), []⟩,
        ⟨(some 28), none, .pick (.t 24) (.c (.bool true)) (.t 27), []⟩,
        ⟨(some 29), none, .mov (.t 28), []⟩,
        ⟨(some 30), (some (29, false)), .faddr 2 (.t 7), []⟩,
        ⟨(some 31), (some (29, false)), .load 1 false (.t 30), []⟩,
        ⟨(some 32), (some (29, false)), .bin .lss (.t 31) (.c (.int .i64 0)), []⟩,
        ⟨(some 33), none, .pick (.t 29) (.c (.bool true)) (.t 32), []⟩,
        ⟨(some 34), none, .mov (.t 33), []⟩,
        ⟨(some 35), (some (34, false)), .faddr 2 (.t 7), []⟩,
        ⟨(some 36), (some (34, false)), .load 1 false (.t 35), []⟩,
        ⟨(some 37), (some (34, false)), .bin .gtr (.t 36) (.c (.int .i64 1000000000000000)), []⟩,
        ⟨(some 38), none, .pick (.t 34) (.c (.bool true)) (.t 37), []⟩] false)
    (.cond (.t 38) (.seq (.reg [⟨(some 6), none, .mov (.c (.bool false)), []⟩] false)
      (.ret))
      (.skip)))
  (.seq (.reg [⟨(some 39), none, .call false (.f 12) [], []⟩,
      ⟨(some 40), none, .mov (.t 39), [0]⟩,
      ⟨(some 41), (some (40, true)), .load 3 true (.t 7), [0, 1]⟩,
      ⟨(some 42), (some (40, true)), .load 3 true (.t 4), [0, 1]⟩,
      ⟨(some 43), (some (40, true)), .load 3 true (.t 3), [0, 1]⟩,
      ⟨(some 44), (some (40, true)), .call false (.f 13) [.t 42, .t 43], [0, 1, 3, 4]⟩,
      ⟨(some 45), (some (40, true)), .eqs (.st [(0, 1, .int), (1, 1, .int), (2, 1, .int)]) false (.t 41) (.t 44), [0, 1, 2, 3, 4, 5]⟩,
      ⟨(some 46), none, .pick (.t 40) (.t 45) (.c (.bool false)), [0, 1, 2, 3, 4, 5, 6]⟩,
      ⟨(some 47), none, .mov (.t 46), [0, 1, 2, 3, 4, 5, 6, 7]⟩,
      ⟨(some 48), (some (47, true)), .load 3 true (.t 7), [0, 1, 2, 3, 4, 5, 6, 7, 8]⟩,
      ⟨(some 49), (some (47, true)), .load 3 true (.t 5), [0, 1, 2, 3, 4, 5, 6, 7, 8]⟩,
      ⟨(some 50), (some (47, true)), .call false (.f 13) [.t 48, .t 49], [0, 1, 2, 3, 4, 5, 6, 7, 8, 9, 10]⟩,
      ⟨(some 51), (some (47, true)), .load 3 true (.t 3), [0, 1, 2, 3, 4, 5, 6, 7, 8]⟩,
      ⟨(some 52), (some (47, true)), .load 3 true (.t 4), [0, 1, 2, 3, 4, 5, 6, 7, 8]⟩,
      ⟨(some 53), (some (47, true)), .load 3 true (.t 5), [0, 1, 2, 3, 4, 5, 6, 7, 8]⟩,
      ⟨(some 54), (some (47, true)), .call false (.f 13) [.t 52, .t 53], [0, 1, 2, 3, 4, 5, 6, 7, 8, 9, 10, 11, 13, 14]⟩,
      ⟨(some 55), (some (47, true)), .call false (.f 13) [.t 51, .t 54], [0, 1, 2, 3, 4, 5, 6, 7, 8, 9, 10, 11, 12, 13, 14, 15]⟩,
      ⟨(some 56), (some (47, true)), .eqs (.st [(0, 1, .int), (1, 1, .int), (2, 1, .int)]) false (.t 50) (.t 55), [0, 1, 2, 3, 4, 5, 6, 7, 8, 9, 10, 11, 12, 13, 14, 15, 16]⟩,
      ⟨(some 57), none, .pick (.t 47) (.t 56) (.c (.bool false)), [0, 1, 2, 3, 4, 5, 6, 7, 8, 9, 10, 11, 12, 13, 14, 15, 16, 17]⟩,
      ⟨(some 58), none, .mov (.t 57), [0, 1, 2, 3, 4, 5, 6, 7, 8, 9, 10, 11, 12, 13, 14, 15, 16, 17, 18]⟩,
      ⟨(some 59), (some (58, true)), .load 3 true (.t 7), [0, 1, 2, 3, 4, 5, 6, 7, 8, 9, 10, 11, 12, 13, 14, 15, 16, 17, 18, 19]⟩,
      ⟨(some 60), (some (58, true)), .build [.int .i64 0, .int .i64 0, .int .i64 0] [], [0, 1, 2, 3, 4, 5, 6, 7, 8, 9, 10, 11, 12, 13, 14, 15, 16, 17, 18, 19]⟩,
      ⟨(some 61), (some (58, true)), .call false (.f 13) [.t 59, .t 60], [0, 1, 2, 3, 4, 5, 6, 7, 8, 9, 10, 11, 12, 13, 14, 15, 16, 17, 18, 19, 20, 21]⟩,
      ⟨(some 62), (some (58, true)), .load 3 true (.t 7), [0, 1, 2, 3, 4, 5, 6, 7, 8, 9, 10, 11, 12, 13, 14, 15, 16, 17, 18, 19]⟩,
      ⟨(some 63), (some (58, true)), .eqs (.st [(0, 1, .int), (1, 1, .int), (2, 1, .int)]) false (.t 61) (.t 62), [0, 1, 2, 3, 4, 5, 6, 7, 8, 9, 10, 11, 12, 13, 14, 15, 16, 17, 18, 19, 20, 21, 22, 23]⟩,
      ⟨(some 64), none, .pick (.t 58) (.t 63) (.c (.bool false)), [0, 1, 2, 3, 4, 5, 6, 7, 8, 9, 10, 11, 12, 13, 14, 15, 16, 17, 18, 19, 20, 21, 22, 23, 24]⟩,
      ⟨(some 6), none, .mov (.t 64), [0, 1, 2, 3, 4, 5, 6, 7, 8, 9, 10, 11, 12, 13, 14, 15, 16, 17, 18, 19, 20, 21, 22, 23, 24, 25]⟩] true)
  (.ret))))
def law02_ResourceAdds : IFn := ⟨3, 65, [.tmp 6], false, law02_ResourceAdds_c⟩

/-- function 7: orchestrator/ orchestratorlaw02.ResourceOrder -/
def law02_ResourceOrder_c : IR :=
  .seq (.reg [⟨(some 3), none, .box 3 (.t 0), []⟩,
      ⟨(some 4), none, .box 3 (.t 1), []⟩,
      ⟨(some 5), none, .box 3 (.t 2), []⟩,
      ⟨(some 6), none, .mov (.c (.bool false)), []⟩] false)
  (.seq (.reg [⟨(some 9), none, .load 3 true (.t 3), []⟩,
      ⟨(some 10), none, .build [.int .i64 0, .int .i64 0, .int .i64 0] [], []⟩,
      ⟨(some 11), none, .call false (.f 13) [.t 9, .t 10], [0, 1]⟩,
      ⟨(some 12), none, .load 3 true (.t 4), []⟩,
      ⟨(some 13), none, .build [.int .i64 0, .int .i64 0, .int .i64 0] [], []⟩,
      ⟨(some 14), none, .call false (.f 13) [.t 12, .t 13], [0, 1, 2, 3, 4]⟩,
      ⟨(some 7), none, .zero [.int .i64 0, .int .i64 0, .int .i64 0], []⟩,
      ⟨(some 8), none, .zero [.int .i64 0, .int .i64 0, .int .i64 0], []⟩,
      ⟨none, none, .store 3 (.t 7) (.t 11), [0, 1, 2, 3, 4, 5, 6, 7]⟩,
      ⟨none, none, .store 3 (.t 8) (.t 14), [0, 1, 2, 3, 4, 5, 6, 7, 8]⟩] true)
  (.seq (.seq (.reg [⟨(some 15), none, .load 3 true (.t 3), []⟩,
        ⟨(some 16), none, .load 3 true (.t 4), []⟩,
        ⟨(some 17), none, .call false (.f 17) [.t 15, .t 16], [0, 1]⟩,
        ⟨(some 18), none, .mov (.t 17), [0, 1, 2]⟩,
        ⟨(some 19), (some (18, true)), .load 3 true (.t 4), [0, 1, 2, 3]⟩,
        ⟨(some 20), (some (18, true)), .load 3 true (.t 3), [0, 1, 2, 3]⟩,
        ⟨(some 21), (some (18, true)), .call false (.f 17) [.t 19, .t 20], [0, 1, 2, 3, 4, 5]⟩,
        ⟨(some 22), none, .pick (.t 18) (.t 21) (.c (.bool false)), [0, 1, 2, 3, 4, 5, 6]⟩,
        ⟨(some 23), none, .load 3 true (.t 7), []⟩,
        ⟨(some 24), none, .load 3 true (.t 8), []⟩,
        ⟨(some 25), none, .eqs (.st [(0, 1, .int), (1, 1, .int), (2, 1, .int)]) false (.t 23) (.t 24), [8, 9]⟩,
        ⟨(some 26), none, .eqb true (.t 22) (.t 25), [0, 1, 2, 3, 4, 5, 6, 7, 8, 9, 10]⟩,
        ⟨(some 27), none, .mov (.t 26), [0, 1, 2, 3, 4, 5, 6, 7, 8, 9, 10, 11]⟩,
        ⟨(some 28), (some (27, false)), .load 3 true (.t 3), [0, 1, 2, 3, 4, 5, 6, 7, 8, 9, 10, 11, 12]⟩,
        ⟨(some 29), (some (27, false)), .load 3 true (.t 4), [0, 1, 2, 3, 4, 5, 6, 7, 8, 9, 10, 11, 12]⟩,
        ⟨(some 30), (some (27, false)), .call false (.f 17) [.t 28, .t 29], [0, 1, 2, 3, 4, 5, 6, 7, 8, 9, 10, 11, 12, 13, 14]⟩,
        ⟨(some 31), (some (27, false)), .mov (.t 30), [0, 1, 2, 3, 4, 5, 6, 7, 8, 9, 10, 11, 12, 13, 14, 15]⟩,
        ⟨(some 32), (some (31, true)), .load 3 true (.t 4), [0, 1, 2, 3, 4, 5, 6, 7, 8, 9, 10, 11, 12, 13, 14, 15, 16]⟩,
        ⟨(some 33), (some (31, true)), .load 3 true (.t 5), [0, 1, 2, 3, 4, 5, 6, 7, 8, 9, 10, 11, 12, 13, 14, 15, 16]⟩,
        ⟨(some 34), (some (31, true)), .call false (.f 17) [.t 32, .t 33], [0, 1, 2, 3, 4, 5, 6, 7, 8, 9, 10, 11, 12, 13, 14, 15, 16, 17, 18]⟩,
        ⟨(some 35), (some (27, false)), .pick (.t 31) (.t 34) (.c (.bool false)), [0, 1, 2, 3, 4, 5, 6, 7, 8, 9, 10, 11, 12, 13, 14, 15, 16, 17, 18, 19]⟩,
        ⟨(some 36), (some (27, false)), .mov (.t 35), [0, 1, 2, 3, 4, 5, 6, 7, 8, 9, 10, 11, 12, 13, 14, 15, 16, 17, 18, 19, 20]⟩,
        ⟨(some 37), (some (36, true)), .load 3 true (.t 3), [0, 1, 2, 3, 4, 5, 6, 7, 8, 9, 10, 11, 12, 13, 14, 15, 16, 17, 18, 19, 20, 21]⟩,
        ⟨(some 38), (some (36, true)), .load 3 true (.t 5), [0, 1, 2, 3, 4, 5, 6, 7, 8, 9, 10, 11, 12, 13, 14, 15, 16, 17, 18, 19, 20, 21]⟩,
        ⟨(some 39), (some (36, true)), .call false (.f 17) [.t 37, .t 38], [0, 1, 2, 3, 4, 5, 6, 7, 8, 9, 10, 11, 12, 13, 14, 15, 16, 17, 18, 19, 20, 21, 22, 23]⟩,
        ⟨(some 40), (some (36, true)), .un .not (.t 39), [0, 1, 2, 3, 4, 5, 6, 7, 8, 9, 10, 11, 12, 13, 14, 15, 16, 17, 18, 19, 20, 21, 22, 23, 24]⟩,
        ⟨(some 41), (some (27, false)), .pick (.t 36) (.t 40) (.c (.bool false)), [0, 1, 2, 3, 4, 5, 6, 7, 8, 9, 10, 11, 12, 13, 14, 15, 16, 17, 18, 19, 20, 21, 22, 23, 24, 25]⟩,
        ⟨(some 42), none, .pick (.t 27) (.c (.bool true)) (.t 41), [0, 1, 2, 3, 4, 5, 6, 7, 8, 9, 10, 11, 12, 13, 14, 15, 16, 17, 18, 19, 20, 21, 22, 23, 24, 25, 26]⟩] true)
    (.cond (.t 42) (.seq (.reg [⟨(some 6), none, .mov (.c (.bool false)), []⟩] false)
      (.ret))
      (.skip)))
  (.seq (.reg [⟨(some 43), none, .call false (.f 12) [], []⟩,
      ⟨(some 44), none, .mov (.t 43), [0]⟩,
      ⟨(some 45), (some (44, true)), .load 3 true (.t 3), [0, 1]⟩,
      ⟨(some 46), (some (44, true)), .load 3 true (.t 4), [0, 1]⟩,
      ⟨(some 47), (some (44, true)), .call false (.f 17) [.t 45, .t 46], [0, 1, 2, 3]⟩,
      ⟨(some 48), (some (44, true)), .load 3 true (.t 3), [0, 1]⟩,
      ⟨(some 49), (some (44, true)), .load 3 true (.t 4), [0, 1]⟩,
      ⟨(some 50), (some (44, true)), .load 3 true (.t 3), [0, 1]⟩,
      ⟨(some 51), (some (44, true)), .call false (.f 15) [.t 49, .t 50], [0, 1, 2, 3, 4, 6, 7]⟩,
      ⟨(some 52), (some (44, true)), .call false (.f 13) [.t 48, .t 51], [0, 1, 2, 3, 4, 5, 6, 7, 8]⟩,
      ⟨(some 53), (some (44, true)), .load 3 true (.t 8), [0, 1]⟩,
      ⟨(some 54), (some (44, true)), .eqs (.st [(0, 1, .int), (1, 1, .int), (2, 1, .int)]) false (.t 52) (.t 53), [0, 1, 2, 3, 4, 5, 6, 7, 8, 9, 10]⟩,
      ⟨(some 55), (some (44, true)), .eqb false (.t 47) (.t 54), [0, 1, 2, 3, 4, 5, 6, 7, 8, 9, 10, 11]⟩,
      ⟨(some 56), none, .pick (.t 44) (.t 55) (.c (.bool false)), [0, 1, 2, 3, 4, 5, 6, 7, 8, 9, 10, 11, 12]⟩,
      ⟨(some 6), none, .mov (.t 56), [0, 1, 2, 3, 4, 5, 6, 7, 8, 9, 10, 11, 12, 13]⟩] true)
  (.ret))))
def law02_ResourceOrder : IFn := ⟨3, 57, [.tmp 6], false, law02_ResourceOrder_c⟩

/-- function 8: orchestrator/ orchestratorlaw22.QuotaSays -/
def law22_QuotaSays_c : IR :=
  .seq (.reg [⟨(some 3), none, .box 21 (.t 0), []⟩,
      ⟨(some 5), none, .box 32 (.t 2), []⟩,
      ⟨(some 6), none, .mov (.c (.bool false)), []⟩] false)
  (.seq (.seq (.reg [⟨(some 13), none, .mov (.t 1), []⟩,
        ⟨(some 14), none, .call false (.f 23) [.t 13], []⟩,
        ⟨(some 15), none, .un .not (.t 14), []⟩,
        ⟨(some 16), none, .mov (.t 15), []⟩,
        ⟨(some 17), (some (16, false)), .load 32 true (.t 5), []⟩,
        ⟨(some 18), (some (16, false)), .call false (.f 24) [.t 17], []⟩,
        ⟨(some 19), (some (16, false)), .un .not (.t 18), []⟩,
        ⟨(some 20), none, .pick (.t 16) (.c (.bool true)) (.t 19), []⟩,
        ⟨(some 21), none, .mov (.t 20), []⟩,
        ⟨(some 22), (some (21, false)), .faddr 0 (.t 3), []⟩,
        ⟨(some 23), (some (21, false)), .load 13 true (.t 22), []⟩,
        ⟨(some 24), (some (21, false)), .call false (.f 25) [.t 23], []⟩,
        ⟨(some 25), (some (21, false)), .un .not (.t 24), []⟩,
        ⟨(some 26), none, .pick (.t 21) (.c (.bool true)) (.t 25), []⟩] false)
    (.cond (.t 26) (.seq (.reg [⟨(some 27), none, .call false (.f 26) [], []⟩,
          ⟨(some 6), none, .mov (.t 27), []⟩] false)
      (.ret))
      (.skip)))
  (.seq (.reg [⟨(some 29), none, .mov (.t 1), []⟩,
      ⟨(some 30), none, .call false (.f 27) [.t 29], []⟩,
      ⟨(some 28), none, .mov (.t 30), []⟩,
      ⟨(some 31), none, .extract (.t 28) 0, []⟩,
      ⟨(some 32), none, .extract (.t 28) 1, []⟩,
      ⟨(some 7), none, .zero [.int .i64 0, .int .i64 0, .int .i64 0], []⟩,
      ⟨none, none, .store 3 (.t 7) (.t 31), []⟩,
      ⟨(some 8), none, .mov (.t 32), []⟩] false)
  (.seq (.reg [⟨(some 34), none, .mov (.t 1), []⟩,
      ⟨(some 35), none, .call false (.f 28) [.t 34], []⟩,
      ⟨(some 33), none, .mov (.t 35), []⟩,
      ⟨(some 36), none, .extract (.t 33) 0, []⟩,
      ⟨(some 37), none, .extract (.t 33) 1, []⟩,
      ⟨(some 9), none, .zero [.int .i64 0, .int .i64 0, .int .i64 0], []⟩,
      ⟨none, none, .store 3 (.t 9) (.t 36), []⟩,
      ⟨(some 10), none, .mov (.t 37), []⟩] false)
  (.seq (.reg [⟨(some 38), none, .load 21 true (.t 3), []⟩,
      ⟨(some 39), none, .mov (.t 1), []⟩,
      ⟨(some 40), none, .call false (.f 29) [.t 38, .t 39], [0, 1]⟩,
      ⟨(some 41), none, .load 21 true (.t 3), []⟩,
      ⟨(some 42), none, .mov (.t 1), []⟩,
      ⟨(some 43), none, .call false (.f 30) [.t 41, .t 42], [0, 1, 2, 3, 4]⟩,
      ⟨(some 11), none, .zero [.str ⟨#[]⟩, .str ⟨#[]⟩, .str ⟨#[]⟩, .int .i64 0, .int .i64 0, .int .i64 0, .int .i64 0, .bool false, .int .i64 0, .ns 2, .ns 5, .ns 1, .ns 2, .int .i64 0, .int .i64 0, .int .i64 0, .int .i64 0, .int .i64 0, .int .i64 0, .int .i64 0, .int .i64 0], []⟩,
      ⟨(some 12), none, .zero [.str ⟨#[]⟩, .str ⟨#[]⟩, .str ⟨#[]⟩, .int .i64 0, .int .i64 0, .int .i64 0, .int .i64 0, .bool false, .int .i64 0, .ns 2, .ns 5, .ns 1, .ns 2, .int .i64 0, .int .i64 0, .int .i64 0, .int .i64 0, .int .i64 0, .int .i64 0, .int .i64 0, .int .i64 0], []⟩,
      ⟨none, none, .store 21 (.t 11) (.t 40), [0, 1, 2, 3, 4, 5, 6, 7]⟩,
      ⟨none, none, .store 21 (.t 12) (.t 43), [0, 1, 2, 3, 4, 5, 6, 7, 8]⟩] true)
  (.seq (.reg [⟨(some 44), none, .load 3 true (.t 7), []⟩,
      ⟨(some 45), none, .load 3 true (.t 9), []⟩,
      ⟨(some 46), none, .eqs (.st [(0, 1, .int), (1, 1, .int), (2, 1, .int)]) false (.t 44) (.t 45), [0, 1]⟩,
      ⟨(some 47), none, .mov (.t 46), [0, 1, 2]⟩,
      ⟨(some 48), (some (47, true)), .mov (.t 8), [0, 1, 2, 3]⟩,
      ⟨(some 49), (some (47, true)), .mov (.t 10), [0, 1, 2, 3]⟩,
      ⟨(some 50), (some (47, true)), .bin .eql (.t 48) (.t 49), [0, 1, 2, 3, 4, 5]⟩,
      ⟨(some 51), none, .pick (.t 47) (.t 50) (.c (.bool false)), [0, 1, 2, 3, 4, 5, 6]⟩,
      ⟨(some 52), none, .mov (.t 51), [0, 1, 2, 3, 4, 5, 6, 7]⟩,
      ⟨(some 53), (some (52, true)), .load 21 true (.t 3), [0, 1, 2, 3, 4, 5, 6, 7, 8]⟩,
      ⟨(some 54), (some (52, true)), .mov (.t 1), [0, 1, 2, 3, 4, 5, 6, 7, 8]⟩,
      ⟨(some 55), (some (52, true)), .load 32 true (.t 5), [0, 1, 2, 3, 4, 5, 6, 7, 8]⟩,
      ⟨(some 56), (some (52, true)), .call false (.f 31) [.t 53, .t 54, .t 55], [0, 1, 2, 3, 4, 5, 6, 7, 8, 9, 10, 11]⟩,
      ⟨(some 57), (some (52, true)), .load 21 true (.t 3), [0, 1, 2, 3, 4, 5, 6, 7, 8]⟩,
      ⟨(some 58), (some (52, true)), .mov (.t 1), [0, 1, 2, 3, 4, 5, 6, 7, 8]⟩,
      ⟨(some 59), (some (52, true)), .load 32 true (.t 5), [0, 1, 2, 3, 4, 5, 6, 7, 8]⟩,
      ⟨(some 60), (some (52, true)), .call false (.f 32) [.t 57, .t 58, .t 59], [0, 1, 2, 3, 4, 5, 6, 7, 8, 9, 10, 11, 12, 13, 14, 15]⟩,
      ⟨(some 61), (some (52, true)), .bin .eql (.t 56) (.t 60), [0, 1, 2, 3, 4, 5, 6, 7, 8, 9, 10, 11, 12, 13, 14, 15, 16]⟩,
      ⟨(some 62), none, .pick (.t 52) (.t 61) (.c (.bool false)), [0, 1, 2, 3, 4, 5, 6, 7, 8, 9, 10, 11, 12, 13, 14, 15, 16, 17]⟩,
      ⟨(some 63), none, .mov (.t 62), [0, 1, 2, 3, 4, 5, 6, 7, 8, 9, 10, 11, 12, 13, 14, 15, 16, 17, 18]⟩,
      ⟨(some 64), (some (63, true)), .faddr 0 (.t 11), [0, 1, 2, 3, 4, 5, 6, 7, 8, 9, 10, 11, 12, 13, 14, 15, 16, 17, 18, 19]⟩,
      ⟨(some 65), (some (63, true)), .load 13 true (.t 64), [0, 1, 2, 3, 4, 5, 6, 7, 8, 9, 10, 11, 12, 13, 14, 15, 16, 17, 18, 19, 20]⟩,
      ⟨(some 66), (some (63, true)), .faddr 0 (.t 12), [0, 1, 2, 3, 4, 5, 6, 7, 8, 9, 10, 11, 12, 13, 14, 15, 16, 17, 18, 19]⟩,
      ⟨(some 67), (some (63, true)), .load 13 true (.t 66), [0, 1, 2, 3, 4, 5, 6, 7, 8, 9, 10, 11, 12, 13, 14, 15, 16, 17, 18, 19, 22]⟩,
      ⟨(some 68), (some (63, true)), .call false (.f 33) [.t 65, .t 67], [0, 1, 2, 3, 4, 5, 6, 7, 8, 9, 10, 11, 12, 13, 14, 15, 16, 17, 18, 19, 20, 21, 22, 23]⟩,
      ⟨(some 69), none, .pick (.t 63) (.t 68) (.c (.bool false)), [0, 1, 2, 3, 4, 5, 6, 7, 8, 9, 10, 11, 12, 13, 14, 15, 16, 17, 18, 19, 20, 21, 22, 23, 24]⟩,
      ⟨(some 70), none, .mov (.t 69), [0, 1, 2, 3, 4, 5, 6, 7, 8, 9, 10, 11, 12, 13, 14, 15, 16, 17, 18, 19, 20, 21, 22, 23, 24, 25]⟩,
      ⟨(some 71), (some (70, true)), .faddr 13 (.t 11), [0, 1, 2, 3, 4, 5, 6, 7, 8, 9, 10, 11, 12, 13, 14, 15, 16, 17, 18, 19, 20, 21, 22, 23, 24, 25, 26]⟩,
      ⟨(some 72), (some (70, true)), .load 3 true (.t 71), [0, 1, 2, 3, 4, 5, 6, 7, 8, 9, 10, 11, 12, 13, 14, 15, 16, 17, 18, 19, 20, 21, 22, 23, 24, 25, 26, 27]⟩,
      ⟨(some 73), (some (70, true)), .faddr 13 (.t 12), [0, 1, 2, 3, 4, 5, 6, 7, 8, 9, 10, 11, 12, 13, 14, 15, 16, 17, 18, 19, 20, 21, 22, 23, 24, 25, 26]⟩,
      ⟨(some 74), (some (70, true)), .load 3 true (.t 73), [0, 1, 2, 3, 4, 5, 6, 7, 8, 9, 10, 11, 12, 13, 14, 15, 16, 17, 18, 19, 20, 21, 22, 23, 24, 25, 26, 29]⟩,
      ⟨(some 75), (some (70, true)), .eqs (.st [(0, 1, .int), (1, 1, .int), (2, 1, .int)]) false (.t 72) (.t 74), [0, 1, 2, 3, 4, 5, 6, 7, 8, 9, 10, 11, 12, 13, 14, 15, 16, 17, 18, 19, 20, 21, 22, 23, 24, 25, 26, 27, 28, 29, 30]⟩,
      ⟨(some 76), none, .pick (.t 70) (.t 75) (.c (.bool false)), [0, 1, 2, 3, 4, 5, 6, 7, 8, 9, 10, 11, 12, 13, 14, 15, 16, 17, 18, 19, 20, 21, 22, 23, 24, 25, 26, 27, 28, 29, 30, 31]⟩,
      ⟨(some 77), none, .mov (.t 76), [0, 1, 2, 3, 4, 5, 6, 7, 8, 9, 10, 11, 12, 13, 14, 15, 16, 17, 18, 19, 20, 21, 22, 23, 24, 25, 26, 27, 28, 29, 30, 31, 32]⟩,
      ⟨(some 78), (some (77, true)), .faddr 16 (.t 11), [0, 1, 2, 3, 4, 5, 6, 7, 8, 9, 10, 11, 12, 13, 14, 15, 16, 17, 18, 19, 20, 21, 22, 23, 24, 25, 26, 27, 28, 29, 30, 31, 32, 33]⟩,
      ⟨(some 79), (some (77, true)), .load 3 true (.t 78), [0, 1, 2, 3, 4, 5, 6, 7, 8, 9, 10, 11, 12, 13, 14, 15, 16, 17, 18, 19, 20, 21, 22, 23, 24, 25, 26, 27, 28, 29, 30, 31, 32, 33, 34]⟩,
      ⟨(some 80), (some (77, true)), .faddr 16 (.t 12), [0, 1, 2, 3, 4, 5, 6, 7, 8, 9, 10, 11, 12, 13, 14, 15, 16, 17, 18, 19, 20, 21, 22, 23, 24, 25, 26, 27, 28, 29, 30, 31, 32, 33]⟩,
      ⟨(some 81), (some (77, true)), .load 3 true (.t 80), [0, 1, 2, 3, 4, 5, 6, 7, 8, 9, 10, 11, 12, 13, 14, 15, 16, 17, 18, 19, 20, 21, 22, 23, 24, 25, 26, 27, 28, 29, 30, 31, 32, 33, 36]⟩,
      ⟨(some 82), (some (77, true)), .eqs (.st [(0, 1, .int), (1, 1, .int), (2, 1, .int)]) false (.t 79) (.t 81), [0, 1, 2, 3, 4, 5, 6, 7, 8, 9, 10, 11, 12, 13, 14, 15, 16, 17, 18, 19, 20, 21, 22, 23, 24, 25, 26, 27, 28, 29, 30, 31, 32, 33, 34, 35, 36, 37]⟩,
      ⟨(some 83), none, .pick (.t 77) (.t 82) (.c (.bool false)), [0, 1, 2, 3, 4, 5, 6, 7, 8, 9, 10, 11, 12, 13, 14, 15, 16, 17, 18, 19, 20, 21, 22, 23, 24, 25, 26, 27, 28, 29, 30, 31, 32, 33, 34, 35, 36, 37, 38]⟩,
      ⟨(some 84), none, .mov (.t 83), [0, 1, 2, 3, 4, 5, 6, 7, 8, 9, 10, 11, 12, 13, 14, 15, 16, 17, 18, 19, 20, 21, 22, 23, 24, 25, 26, 27, 28, 29, 30, 31, 32, 33, 34, 35, 36, 37, 38, 39]⟩,
      ⟨(some 85), (some (84, true)), .faddr 19 (.t 11), [0, 1, 2, 3, 4, 5, 6, 7, 8, 9, 10, 11, 12, 13, 14, 15, 16, 17, 18, 19, 20, 21, 22, 23, 24, 25, 26, 27, 28, 29, 30, 31, 32, 33, 34, 35, 36, 37, 38, 39, 40]⟩,
      ⟨(some 86), (some (84, true)), .load 1 false (.t 85), [0, 1, 2, 3, 4, 5, 6, 7, 8, 9, 10, 11, 12, 13, 14, 15, 16, 17, 18, 19, 20, 21, 22, 23, 24, 25, 26, 27, 28, 29, 30, 31, 32, 33, 34, 35, 36, 37, 38, 39, 40, 41]⟩,
      ⟨(some 87), (some (84, true)), .faddr 19 (.t 12), [0, 1, 2, 3, 4, 5, 6, 7, 8, 9, 10, 11, 12, 13, 14, 15, 16, 17, 18, 19, 20, 21, 22, 23, 24, 25, 26, 27, 28, 29, 30, 31, 32, 33, 34, 35, 36, 37, 38, 39, 40]⟩,
      ⟨(some 88), (some (84, true)), .load 1 false (.t 87), [0, 1, 2, 3, 4, 5, 6, 7, 8, 9, 10, 11, 12, 13, 14, 15, 16, 17, 18, 19, 20, 21, 22, 23, 24, 25, 26, 27, 28, 29, 30, 31, 32, 33, 34, 35, 36, 37, 38, 39, 40, 43]⟩,
      ⟨(some 89), (some (84, true)), .bin .eql (.t 86) (.t 88), [0, 1, 2, 3, 4, 5, 6, 7, 8, 9, 10, 11, 12, 13, 14, 15, 16, 17, 18, 19, 20, 21, 22, 23, 24, 25, 26, 27, 28, 29, 30, 31, 32, 33, 34, 35, 36, 37, 38, 39, 40, 41, 42, 43, 44]⟩,
      ⟨(some 90), none, .pick (.t 84) (.t 89) (.c (.bool false)), [0, 1, 2, 3, 4, 5, 6, 7, 8, 9, 10, 11, 12, 13, 14, 15, 16, 17, 18, 19, 20, 21, 22, 23, 24, 25, 26, 27, 28, 29, 30, 31, 32, 33, 34, 35, 36, 37, 38, 39, 40, 41, 42, 43, 44, 45]⟩,
      ⟨(some 91), none, .mov (.t 90), [0, 1, 2, 3, 4, 5, 6, 7, 8, 9, 10, 11, 12, 13, 14, 15, 16, 17, 18, 19, 20, 21, 22, 23, 24, 25, 26, 27, 28, 29, 30, 31, 32, 33, 34, 35, 36, 37, 38, 39, 40, 41, 42, 43, 44, 45, 46]⟩,
      ⟨(some 92), (some (91, true)), .faddr 20 (.t 11), [0, 1, 2, 3, 4, 5, 6, 7, 8, 9, 10, 11, 12, 13, 14, 15, 16, 17, 18, 19, 20, 21, 22, 23, 24, 25, 26, 27, 28, 29, 30, 31, 32, 33, 34, 35, 36, 37, 38, 39, 40, 41, 42, 43, 44, 45, 46, 47]⟩,
      ⟨(some 93), (some (91, true)), .load 1 false (.t 92), [0, 1, 2, 3, 4, 5, 6, 7, 8, 9, 10, 11, 12, 13, 14, 15, 16, 17, 18, 19, 20, 21, 22, 23, 24, 25, 26, 27, 28, 29, 30, 31, 32, 33, 34, 35, 36, 37, 38, 39, 40, 41, 42, 43, 44, 45, 46, 47, 48]⟩,
      ⟨(some 94), (some (91, true)), .faddr 20 (.t 12), [0, 1, 2, 3, 4, 5, 6, 7, 8, 9, 10, 11, 12, 13, 14, 15, 16, 17, 18, 19, 20, 21, 22, 23, 24, 25, 26, 27, 28, 29, 30, 31, 32, 33, 34, 35, 36, 37, 38, 39, 40, 41, 42, 43, 44, 45, 46, 47]⟩,
      ⟨(some 95), (some (91, true)), .load 1 false (.t 94), [0, 1, 2, 3, 4, 5, 6, 7, 8, 9, 10, 11, 12, 13, 14, 15, 16, 17, 18, 19, 20, 21, 22, 23, 24, 25, 26, 27, 28, 29, 30, 31, 32, 33, 34, 35, 36, 37, 38, 39, 40, 41, 42, 43, 44, 45, 46, 47, 50]⟩,
      ⟨(some 96), (some (91, true)), .bin .eql (.t 93) (.t 95), [0, 1, 2, 3, 4, 5, 6, 7, 8, 9, 10, 11, 12, 13, 14, 15, 16, 17, 18, 19, 20, 21, 22, 23, 24, 25, 26, 27, 28, 29, 30, 31, 32, 33, 34, 35, 36, 37, 38, 39, 40, 41, 42, 43, 44, 45, 46, 47, 48, 49, 50, 51]⟩,
      ⟨(some 97), none, .pick (.t 91) (.t 96) (.c (.bool false)), [0, 1, 2, 3, 4, 5, 6, 7, 8, 9, 10, 11, 12, 13, 14, 15, 16, 17, 18, 19, 20, 21, 22, 23, 24, 25, 26, 27, 28, 29, 30, 31, 32, 33, 34, 35, 36, 37, 38, 39, 40, 41, 42, 43, 44, 45, 46, 47, 48, 49, 50, 51, 52]⟩,
      ⟨(some 98), none, .mov (.t 97), [0, 1, 2, 3, 4, 5, 6, 7, 8, 9, 10, 11, 12, 13, 14, 15, 16, 17, 18, 19, 20, 21, 22, 23, 24, 25, 26, 27, 28, 29, 30, 31, 32, 33, 34, 35, 36, 37, 38, 39, 40, 41, 42, 43, 44, 45, 46, 47, 48, 49, 50, 51, 52, 53]⟩,
      ⟨(some 99), (some (98, true)), .call false (.f 26) [], [0, 1, 2, 3, 4, 5, 6, 7, 8, 9, 10, 11, 12, 13, 14, 15, 16, 17, 18, 19, 20, 21, 22, 23, 24, 25, 26, 27, 28, 29, 30, 31, 32, 33, 34, 35, 36, 37, 38, 39, 40, 41, 42, 43, 44, 45, 46, 47, 48, 49, 50, 51, 52, 53, 54]⟩,
      ⟨(some 100), none, .pick (.t 98) (.t 99) (.c (.bool false)), [0, 1, 2, 3, 4, 5, 6, 7, 8, 9, 10, 11, 12, 13, 14, 15, 16, 17, 18, 19, 20, 21, 22, 23, 24, 25, 26, 27, 28, 29, 30, 31, 32, 33, 34, 35, 36, 37, 38, 39, 40, 41, 42, 43, 44, 45, 46, 47, 48, 49, 50, 51, 52, 53, 54, 55]⟩,
      ⟨(some 6), none, .mov (.t 100), [0, 1, 2, 3, 4, 5, 6, 7, 8, 9, 10, 11, 12, 13, 14, 15, 16, 17, 18, 19, 20, 21, 22, 23, 24, 25, 26, 27, 28, 29, 30, 31, 32, 33, 34, 35, 36, 37, 38, 39, 40, 41, 42, 43, 44, 45, 46, 47, 48, 49, 50, 51, 52, 53, 54, 55, 56]⟩] true)
  (.ret))))))
def law22_QuotaSays : IFn := ⟨3, 101, [.tmp 6], false, law22_QuotaSays_c⟩

/-- function 9: orchestrator/ orchestratorlaw22.QuotaKeeps -/
def law22_QuotaKeeps_b0_live : List Nat := [100001, 2, 5, 20, 21, 22]
def law22_QuotaKeeps_b0 : IR :=
  .seq (.reg [⟨(some 23), none, .bin .lss (.t 22) (.t 21), []⟩] false)
    (.seq (.cond (.t 23) (.skip)
        (.exit 0))
    (.seq (.block 1 (.seq (.reg [⟨(some 24), none, .iaddr 32 (.t 20) (.t 22), []⟩,
            ⟨(some 25), none, .load 32 true (.t 24), []⟩,
            ⟨(some 7), none, .zero [.str ⟨#[]⟩, .str ⟨#[]⟩, .str ⟨#[]⟩, .int .i64 0, .int .i64 0, .int .i64 0, .int .i64 0, .bool false, .int .i64 0, .ns 2, .ns 5, .ns 1, .ns 2, .str ⟨#[]⟩, .int .i64 0, .int .i64 0, .int .i64 0, .ns 11, .ns 3, .ns 3, .ns 5, .ns 4, .ns 5, .int .i64 0, .bool false, .int .i64 0, .int .i64 0, .int .i64 0, .ns 7, .int .i64 0, .str ⟨#[]⟩, .str ⟨#[]⟩], []⟩,
            ⟨none, none, .store 32 (.t 7) (.t 25), []⟩] false)
        (.seq (.seq (.reg [⟨(some 26), none, .faddr 0 (.t 7), []⟩,
              ⟨(some 27), none, .faddr 1 (.t 26), []⟩,
              ⟨(some 28), none, .load 1 false (.t 27), []⟩,
              ⟨(some 29), none, .faddr 0 (.t 2), []⟩,
              ⟨(some 30), none, .faddr 1 (.t 29), []⟩,
              ⟨(some 31), none, .load 1 false (.t 30), []⟩,
              ⟨(some 32), none, .bin .neq (.t 28) (.t 31), []⟩,
              ⟨(some 33), none, .mov (.t 32), []⟩,
              ⟨(some 34), (some (33, false)), .load 21 true (.t 2), []⟩,
              ⟨(some 35), (some (33, false)), .mov (.t 5), []⟩,
              ⟨(some 36), (some (33, false)), .load 32 true (.t 7), []⟩,
              ⟨(some 37), (some (33, false)), .call false (.f 31) [.t 34, .t 35, .t 36], []⟩,
              ⟨(some 38), (some (33, false)), .bin .neq (.t 37) (.c (.int .i64 0)), []⟩,
              ⟨(some 39), none, .pick (.t 33) (.c (.bool true)) (.t 38), []⟩] false)
          (.cond (.t 39) (.exit 1)
            (.skip)))
        (.seq (.reg [⟨(some 40), none, .mov (.t 5), []⟩,
            ⟨(some 41), none, .load 32 true (.t 7), []⟩,
            ⟨(some 42), none, .lit 32 1 [.str ⟨#[]⟩, .str ⟨#[]⟩, .str ⟨#[]⟩, .int .i64 0, .int .i64 0, .int .i64 0, .int .i64 0, .bool false, .int .i64 0, .ns 2, .ns 5, .ns 1, .ns 2, .str ⟨#[]⟩, .int .i64 0, .int .i64 0, .int .i64 0, .ns 11, .ns 3, .ns 3, .ns 5, .ns 4, .ns 5, .int .i64 0, .bool false, .int .i64 0, .int .i64 0, .int .i64 0, .ns 7, .int .i64 0, .str ⟨#[]⟩, .str ⟨#[]⟩] [(0, .t 41)], []⟩,
            ⟨(some 43), none, .append 32 480 (.t 40) (.t 42), []⟩,
            ⟨(some 5), none, .mov (.t 43), []⟩] false)
        (.seq (.reg [⟨(some 45), none, .mov (.t 5), []⟩,
            ⟨(some 46), none, .call false (.f 27) [.t 45], []⟩,
            ⟨(some 44), none, .mov (.t 46), []⟩,
            ⟨(some 47), none, .extract (.t 44) 0, []⟩,
            ⟨(some 48), none, .extract (.t 44) 1, []⟩,
            ⟨(some 8), none, .zero [.int .i64 0, .int .i64 0, .int .i64 0], []⟩,
            ⟨none, none, .store 3 (.t 8) (.t 47), []⟩,
            ⟨(some 9), none, .mov (.t 48), []⟩] false)
        (.seq (.reg [⟨(some 49), none, .load 21 true (.t 2), []⟩,
            ⟨(some 50), none, .load 3 true (.t 8), []⟩,
            ⟨(some 51), none, .mov (.t 9), []⟩,
            ⟨(some 52), none, .call false (.f 34) [.t 49, .t 50, .t 51], []⟩,
            ⟨(some 53), none, .un .not (.t 52), []⟩] false)
        (.cond (.t 53) (.seq (.reg [⟨(some 4), none, .mov (.c (.bool false)), []⟩] false)
          (.ret))
          (.skip))))))))
    (.reg [⟨(some 54), none, .bin .add (.t 22) (.c (.int .i64 1)), []⟩,
      ⟨(some 22), none, .mov (.t 54), []⟩] false)))
def law22_QuotaKeeps_c : IR :=
  .seq (.reg [⟨(some 2), none, .box 21 (.t 0), []⟩,
      ⟨(some 4), none, .mov (.c (.bool false)), []⟩] false)
  (.seq (.seq (.reg [⟨(some 10), none, .mov (.t 1), []⟩,
        ⟨(some 11), none, .call false (.f 23) [.t 10], []⟩,
        ⟨(some 12), none, .un .not (.t 11), []⟩,
        ⟨(some 13), none, .mov (.t 12), []⟩,
        ⟨(some 14), (some (13, false)), .faddr 0 (.t 2), []⟩,
        ⟨(some 15), (some (13, false)), .load 13 true (.t 14), []⟩,
        ⟨(some 16), (some (13, false)), .call false (.f 25) [.t 15], []⟩,
        ⟨(some 17), (some (13, false)), .un .not (.t 16), []⟩,
        ⟨(some 18), none, .pick (.t 13) (.c (.bool true)) (.t 17), []⟩] false)
    (.cond (.t 18) (.seq (.reg [⟨(some 19), none, .call false (.f 26) [], []⟩,
          ⟨(some 4), none, .mov (.t 19), []⟩] false)
      (.ret))
      (.skip)))
  (.seq (.reg [⟨(some 5), none, .mov (.c (.ns 32)), []⟩] false)
  (.seq (.seq (.reg [⟨(some 20), none, .mov (.t 1), []⟩,
        ⟨(some 21), none, .len false (.t 20), []⟩,
        ⟨(some 22), none, .mov (.c (.int .i64 0)), []⟩] false)
    (.block 0 (.loop law22_QuotaKeeps_b0_live law22_QuotaKeeps_b0)))
  (.seq (.reg [⟨(some 55), none, .call false (.f 26) [], []⟩,
      ⟨(some 4), none, .mov (.t 55), []⟩] false)
  (.ret)))))
def law22_QuotaKeeps : IFn := ⟨2, 56, [.tmp 4], false, law22_QuotaKeeps_c⟩

/-- function 10: orchestrator/ orchestratorlaw22.QuotaIgnores -/
def law22_QuotaIgnores_b0_live : List Nat := [100002, 1, 3, 5, 7, 27, 28, 29]
def law22_QuotaIgnores_b0 : IR :=
  .seq (.reg [⟨(some 30), none, .bin .lss (.t 29) (.t 28), []⟩] false)
    (.seq (.cond (.t 30) (.skip)
        (.exit 0))
    (.seq (.block 1 (.seq (.reg [⟨(some 31), none, .iaddr 32 (.t 27) (.t 29), []⟩,
            ⟨(some 32), none, .load 32 true (.t 31), []⟩,
            ⟨(some 9), none, .zero [.str ⟨#[]⟩, .str ⟨#[]⟩, .str ⟨#[]⟩, .int .i64 0, .int .i64 0, .int .i64 0, .int .i64 0, .bool false, .int .i64 0, .ns 2, .ns 5, .ns 1, .ns 2, .str ⟨#[]⟩, .int .i64 0, .int .i64 0, .int .i64 0, .ns 11, .ns 3, .ns 3, .ns 5, .ns 4, .ns 5, .int .i64 0, .bool false, .int .i64 0, .int .i64 0, .int .i64 0, .ns 7, .int .i64 0, .str ⟨#[]⟩, .str ⟨#[]⟩], []⟩,
            ⟨none, none, .store 32 (.t 9) (.t 32), []⟩] false)
        (.seq (.reg [⟨(some 33), none, .faddr 0 (.t 9), []⟩,
            ⟨(some 34), none, .faddr 1 (.t 33), []⟩,
            ⟨(some 35), none, .load 1 false (.t 34), []⟩,
            ⟨(some 36), none, .faddr 0 (.t 3), []⟩,
            ⟨(some 37), none, .faddr 1 (.t 36), []⟩,
            ⟨(some 38), none, .load 1 false (.t 37), []⟩,
            ⟨(some 39), none, .bin .eql (.t 35) (.t 38), []⟩,
            ⟨(some 40), none, .mov (.t 39), []⟩,
            ⟨(some 41), (some (40, true)), .faddr 23 (.t 9), []⟩,
            ⟨(some 42), (some (40, true)), .faddr 0 (.t 41), []⟩,
            ⟨(some 43), (some (40, true)), .load 1 false (.t 42), []⟩,
            ⟨(some 44), (some (40, true)), .bin .eql (.t 43) (.c (.int .i64 0)), []⟩,
            ⟨(some 45), (some (40, true)), .mov (.t 44), []⟩,
            ⟨(some 46), (some (45, false)), .faddr 23 (.t 9), []⟩,
            ⟨(some 47), (some (45, false)), .faddr 0 (.t 46), []⟩,
            ⟨(some 48), (some (45, false)), .load 1 false (.t 47), []⟩,
            ⟨(some 49), (some (45, false)), .bin .eql (.t 48) (.c (.int .i64 1)), []⟩,
            ⟨(some 50), (some (40, true)), .pick (.t 45) (.c (.bool true)) (.t 49), []⟩,
            ⟨(some 51), none, .pick (.t 40) (.t 50) (.c (.bool false)), []⟩] false)
        (.cond (.t 51) (.reg [⟨(some 52), none, .mov (.t 7), []⟩,
            ⟨(some 53), none, .load 32 true (.t 9), []⟩,
            ⟨(some 54), none, .lit 32 1 [.str ⟨#[]⟩, .str ⟨#[]⟩, .str ⟨#[]⟩, .int .i64 0, .int .i64 0, .int .i64 0, .int .i64 0, .bool false, .int .i64 0, .ns 2, .ns 5, .ns 1, .ns 2, .str ⟨#[]⟩, .int .i64 0, .int .i64 0, .int .i64 0, .ns 11, .ns 3, .ns 3, .ns 5, .ns 4, .ns 5, .int .i64 0, .bool false, .int .i64 0, .int .i64 0, .int .i64 0, .ns 7, .int .i64 0, .str ⟨#[]⟩, .str ⟨#[]⟩] [(0, .t 53)], []⟩,
            ⟨(some 55), none, .append 32 480 (.t 52) (.t 54), []⟩,
            ⟨(some 7), none, .mov (.t 55), []⟩] false)
          (.skip)))))
    (.reg [⟨(some 56), none, .bin .add (.t 29) (.c (.int .i64 1)), []⟩,
      ⟨(some 29), none, .mov (.t 56), []⟩] false)))
def law22_QuotaIgnores_c : IR :=
  .seq (.reg [⟨(some 3), none, .box 21 (.t 0), []⟩,
      ⟨(some 5), none, .box 32 (.t 2), []⟩,
      ⟨(some 6), none, .mov (.c (.bool false)), []⟩] false)
  (.seq (.seq (.reg [⟨(some 12), none, .mov (.t 1), []⟩,
        ⟨(some 13), none, .call false (.f 23) [.t 12], []⟩,
        ⟨(some 14), none, .un .not (.t 13), []⟩,
        ⟨(some 15), none, .mov (.t 14), []⟩,
        ⟨(some 16), (some (15, false)), .load 32 true (.t 5), []⟩,
        ⟨(some 17), (some (15, false)), .call false (.f 24) [.t 16], []⟩,
        ⟨(some 18), (some (15, false)), .un .not (.t 17), []⟩,
        ⟨(some 19), none, .pick (.t 15) (.c (.bool true)) (.t 18), []⟩,
        ⟨(some 20), none, .mov (.t 19), []⟩,
        ⟨(some 21), (some (20, false)), .faddr 0 (.t 3), []⟩,
        ⟨(some 22), (some (20, false)), .load 13 true (.t 21), []⟩,
        ⟨(some 23), (some (20, false)), .call false (.f 25) [.t 22], []⟩,
        ⟨(some 24), (some (20, false)), .un .not (.t 23), []⟩,
        ⟨(some 25), none, .pick (.t 20) (.c (.bool true)) (.t 24), []⟩] false)
    (.cond (.t 25) (.seq (.reg [⟨(some 26), none, .call false (.f 26) [], []⟩,
          ⟨(some 6), none, .mov (.t 26), []⟩] false)
      (.ret))
      (.skip)))
  (.seq (.reg [⟨(some 7), none, .mov (.c (.ns 32)), []⟩] false)
  (.seq (.seq (.reg [⟨(some 27), none, .mov (.t 1), []⟩,
        ⟨(some 28), none, .len false (.t 27), []⟩,
        ⟨(some 29), none, .mov (.c (.int .i64 0)), []⟩] false)
    (.block 0 (.loop law22_QuotaIgnores_b0_live law22_QuotaIgnores_b0)))
  (.seq (.reg [⟨(some 57), none, .load 21 true (.t 3), []⟩,
      ⟨(some 58), none, .mov (.t 1), []⟩,
      ⟨(some 59), none, .call false (.f 29) [.t 57, .t 58], [0, 1]⟩,
      ⟨(some 60), none, .load 21 true (.t 3), []⟩,
      ⟨(some 61), none, .mov (.t 7), []⟩,
      ⟨(some 62), none, .call false (.f 29) [.t 60, .t 61], [0, 1, 2, 3, 4]⟩,
      ⟨(some 10), none, .zero [.str ⟨#[]⟩, .str ⟨#[]⟩, .str ⟨#[]⟩, .int .i64 0, .int .i64 0, .int .i64 0, .int .i64 0, .bool false, .int .i64 0, .ns 2, .ns 5, .ns 1, .ns 2, .int .i64 0, .int .i64 0, .int .i64 0, .int .i64 0, .int .i64 0, .int .i64 0, .int .i64 0, .int .i64 0], []⟩,
      ⟨(some 11), none, .zero [.str ⟨#[]⟩, .str ⟨#[]⟩, .str ⟨#[]⟩, .int .i64 0, .int .i64 0, .int .i64 0, .int .i64 0, .bool false, .int .i64 0, .ns 2, .ns 5, .ns 1, .ns 2, .int .i64 0, .int .i64 0, .int .i64 0, .int .i64 0, .int .i64 0, .int .i64 0, .int .i64 0, .int .i64 0], []⟩,
      ⟨none, none, .store 21 (.t 10) (.t 59), [0, 1, 2, 3, 4, 5, 6, 7]⟩,
      ⟨none, none, .store 21 (.t 11) (.t 62), [0, 1, 2, 3, 4, 5, 6, 7, 8]⟩] true)
  (.seq (.seq (.reg [⟨(some 63), none, .faddr 16 (.t 10), []⟩,
        ⟨(some 64), none, .load 3 true (.t 63), [0]⟩,
        ⟨(some 65), none, .faddr 16 (.t 11), []⟩,
        ⟨(some 66), none, .load 3 true (.t 65), [2]⟩,
        ⟨(some 67), none, .eqs (.st [(0, 1, .int), (1, 1, .int), (2, 1, .int)]) true (.t 64) (.t 66), [0, 1, 2, 3]⟩,
        ⟨(some 68), none, .mov (.t 67), [0, 1, 2, 3, 4]⟩,
        ⟨(some 69), (some (68, false)), .faddr 20 (.t 10), [0, 1, 2, 3, 4, 5]⟩,
        ⟨(some 70), (some (68, false)), .load 1 false (.t 69), [0, 1, 2, 3, 4, 5, 6]⟩,
        ⟨(some 71), (some (68, false)), .faddr 20 (.t 11), [0, 1, 2, 3, 4, 5]⟩,
        ⟨(some 72), (some (68, false)), .load 1 false (.t 71), [0, 1, 2, 3, 4, 5, 8]⟩,
        ⟨(some 73), (some (68, false)), .bin .neq (.t 70) (.t 72), [0, 1, 2, 3, 4, 5, 6, 7, 8, 9]⟩,
        ⟨(some 74), none, .pick (.t 68) (.c (.bool true)) (.t 73), [0, 1, 2, 3, 4, 5, 6, 7, 8, 9, 10]⟩,
        ⟨(some 75), none, .mov (.t 74), [0, 1, 2, 3, 4, 5, 6, 7, 8, 9, 10, 11]⟩,
        ⟨(some 76), (some (75, false)), .faddr 20 (.t 11), [0, 1, 2, 3, 4, 5, 6, 7, 8, 9, 10, 11, 12]⟩,
        ⟨(some 77), (some (75, false)), .load 1 false (.t 76), [0, 1, 2, 3, 4, 5, 6, 7, 8, 9, 10, 11, 12, 13]⟩,
        ⟨(some 78), (some (75, false)), .mov (.t 7), [0, 1, 2, 3, 4, 5, 6, 7, 8, 9, 10, 11, 12]⟩,
        ⟨(some 79), (some (75, false)), .len false (.t 78), [0, 1, 2, 3, 4, 5, 6, 7, 8, 9, 10, 11, 12, 15]⟩,
        ⟨(some 80), (some (75, false)), .bin .neq (.t 77) (.t 79), [0, 1, 2, 3, 4, 5, 6, 7, 8, 9, 10, 11, 12, 13, 14, 15, 16]⟩,
        ⟨(some 81), none, .pick (.t 75) (.c (.bool true)) (.t 80), [0, 1, 2, 3, 4, 5, 6, 7, 8, 9, 10, 11, 12, 13, 14, 15, 16, 17]⟩,
        ⟨(some 82), none, .mov (.t 81), [0, 1, 2, 3, 4, 5, 6, 7, 8, 9, 10, 11, 12, 13, 14, 15, 16, 17, 18]⟩,
        ⟨(some 83), (some (82, false)), .load 21 true (.t 3), [0, 1, 2, 3, 4, 5, 6, 7, 8, 9, 10, 11, 12, 13, 14, 15, 16, 17, 18, 19]⟩,
        ⟨(some 84), (some (82, false)), .mov (.t 1), [0, 1, 2, 3, 4, 5, 6, 7, 8, 9, 10, 11, 12, 13, 14, 15, 16, 17, 18, 19]⟩,
        ⟨(some 85), (some (82, false)), .load 32 true (.t 5), [0, 1, 2, 3, 4, 5, 6, 7, 8, 9, 10, 11, 12, 13, 14, 15, 16, 17, 18, 19]⟩,
        ⟨(some 86), (some (82, false)), .call false (.f 31) [.t 83, .t 84, .t 85], [0, 1, 2, 3, 4, 5, 6, 7, 8, 9, 10, 11, 12, 13, 14, 15, 16, 17, 18, 19, 20, 21, 22]⟩,
        ⟨(some 87), (some (82, false)), .load 21 true (.t 3), [0, 1, 2, 3, 4, 5, 6, 7, 8, 9, 10, 11, 12, 13, 14, 15, 16, 17, 18, 19]⟩,
        ⟨(some 88), (some (82, false)), .mov (.t 7), [0, 1, 2, 3, 4, 5, 6, 7, 8, 9, 10, 11, 12, 13, 14, 15, 16, 17, 18, 19]⟩,
        ⟨(some 89), (some (82, false)), .load 32 true (.t 5), [0, 1, 2, 3, 4, 5, 6, 7, 8, 9, 10, 11, 12, 13, 14, 15, 16, 17, 18, 19]⟩,
        ⟨(some 90), (some (82, false)), .call false (.f 31) [.t 87, .t 88, .t 89], [0, 1, 2, 3, 4, 5, 6, 7, 8, 9, 10, 11, 12, 13, 14, 15, 16, 17, 18, 19, 20, 21, 22, 23, 24, 25, 26]⟩,
        ⟨(some 91), (some (82, false)), .bin .neq (.t 86) (.t 90), [0, 1, 2, 3, 4, 5, 6, 7, 8, 9, 10, 11, 12, 13, 14, 15, 16, 17, 18, 19, 20, 21, 22, 23, 24, 25, 26, 27]⟩,
        ⟨(some 92), none, .pick (.t 82) (.c (.bool true)) (.t 91), [0, 1, 2, 3, 4, 5, 6, 7, 8, 9, 10, 11, 12, 13, 14, 15, 16, 17, 18, 19, 20, 21, 22, 23, 24, 25, 26, 27, 28]⟩] true)
    (.cond (.t 92) (.seq (.reg [⟨(some 6), none, .mov (.c (.bool false)), []⟩] false)
      (.ret))
      (.skip)))
  (.seq (.reg [⟨(some 93), none, .faddr 0 (.t 3), []⟩,
      ⟨(some 94), none, .faddr 1 (.t 93), []⟩,
      ⟨(some 95), none, .load 1 false (.t 94), []⟩,
      ⟨(some 96), none, .bin .add (.t 95) (.c (.str ⟨#[120]⟩)), []⟩,
      ⟨(some 97), none, .faddr 0 (.t 5), []⟩,
      ⟨(some 98), none, .faddr 1 (.t 97), []⟩,
      ⟨none, none, .store 1 (.t 98) (.t 96), []⟩] false)
  (.seq (.reg [⟨(some 99), none, .load 21 true (.t 3), []⟩,
      ⟨(some 100), none, .mov (.t 1), []⟩,
      ⟨(some 101), none, .load 32 true (.t 5), []⟩,
      ⟨(some 102), none, .call false (.f 31) [.t 99, .t 100, .t 101], []⟩,
      ⟨(some 103), none, .bin .eql (.t 102) (.c (.int .i64 0)), []⟩,
      ⟨(some 104), none, .mov (.t 103), []⟩,
      ⟨(some 105), (some (104, true)), .call false (.f 26) [], []⟩,
      ⟨(some 106), none, .pick (.t 104) (.t 105) (.c (.bool false)), []⟩,
      ⟨(some 6), none, .mov (.t 106), []⟩] false)
  (.ret))))))))
def law22_QuotaIgnores : IFn := ⟨3, 107, [.tmp 6], false, law22_QuotaIgnores_c⟩

/-- function 11: orchestrator/ orchestratorlaw22.QuotaGrows -/
def law22_QuotaGrows_c : IR :=
  .seq (.reg [⟨(some 4), none, .box 21 (.t 0), []⟩,
      ⟨(some 6), none, .box 32 (.t 2), []⟩,
      ⟨(some 8), none, .mov (.c (.bool false)), []⟩] false)
  (.seq (.seq (.reg [⟨(some 11), none, .mov (.t 1), []⟩,
        ⟨(some 12), none, .call false (.f 23) [.t 11], []⟩,
        ⟨(some 13), none, .un .not (.t 12), []⟩,
        ⟨(some 14), none, .mov (.t 13), []⟩,
        ⟨(some 15), (some (14, false)), .load 32 true (.t 6), []⟩,
        ⟨(some 16), (some (14, false)), .call false (.f 24) [.t 15], []⟩,
        ⟨(some 17), (some (14, false)), .un .not (.t 16), []⟩,
        ⟨(some 18), none, .pick (.t 14) (.c (.bool true)) (.t 17), []⟩,
        ⟨(some 19), none, .mov (.t 18), []⟩,
        ⟨(some 20), (some (19, false)), .faddr 0 (.t 4), []⟩,
        ⟨(some 21), (some (19, false)), .load 13 true (.t 20), []⟩,
        ⟨(some 22), (some (19, false)), .call false (.f 25) [.t 21], []⟩,
        ⟨(some 23), (some (19, false)), .un .not (.t 22), []⟩,
        ⟨(some 24), none, .pick (.t 19) (.c (.bool true)) (.t 23), []⟩,
        ⟨(some 25), none, .mov (.t 24), []⟩,
        ⟨(some 26), (some (25, false)), .load 21 true (.t 4), []⟩,
        ⟨(some 27), (some (25, false)), .mov (.t 1), []⟩,
        ⟨(some 28), (some (25, false)), .load 32 true (.t 6), []⟩,
        ⟨(some 29), (some (25, false)), .call false (.f 31) [.t 26, .t 27, .t 28], []⟩,
        ⟨(some 30), (some (25, false)), .bin .neq (.t 29) (.c (.int .i64 0)), []⟩,
        ⟨(some 31), none, .pick (.t 25) (.c (.bool true)) (.t 30), []⟩] false)
    (.cond (.t 31) (.seq (.reg [⟨(some 32), none, .call false (.f 26) [], []⟩,
          ⟨(some 8), none, .mov (.t 32), []⟩] false)
      (.ret))
      (.skip)))
  (.seq (.seq (.reg [⟨(some 33), none, .mov (.t 1), []⟩,
        ⟨(some 34), none, .len false (.t 33), []⟩,
        ⟨(some 35), none, .bin .gtr (.t 34) (.c (.int .i64 0)), []⟩] false)
    (.cond (.t 35) (.seq (.reg [⟨(some 36), none, .mov (.t 3), []⟩,
          ⟨(some 37), none, .conv .i64 (.t 36), []⟩,
          ⟨(some 38), none, .mov (.t 1), []⟩,
          ⟨(some 39), none, .len false (.t 38), []⟩,
          ⟨(some 40), none, .bin .rem (.t 37) (.t 39), []⟩,
          ⟨(some 9), none, .mov (.t 40), []⟩] false)
      (.seq (.reg [⟨(some 41), none, .load 21 true (.t 4), []⟩,
          ⟨(some 42), none, .lit 32 0 [.str ⟨#[]⟩, .str ⟨#[]⟩, .str ⟨#[]⟩, .int .i64 0, .int .i64 0, .int .i64 0, .int .i64 0, .bool false, .int .i64 0, .ns 2, .ns 5, .ns 1, .ns 2, .str ⟨#[]⟩, .int .i64 0, .int .i64 0, .int .i64 0, .ns 11, .ns 3, .ns 3, .ns 5, .ns 4, .ns 5, .int .i64 0, .bool false, .int .i64 0, .int .i64 0, .int .i64 0, .ns 7, .int .i64 0, .str ⟨#[]⟩, .str ⟨#[]⟩] [], []⟩,
          ⟨(some 43), none, .mov (.t 1), []⟩,
          ⟨(some 44), none, .mov (.t 9), []⟩,
          ⟨(some 45), none, .slice 32 (.t 43) none (some (.t 44)) none, [2, 3]⟩,
          ⟨(some 46), none, .append 32 480 (.t 42) (.t 45), [1, 2, 3, 4]⟩,
          ⟨(some 47), none, .mov (.t 1), []⟩,
          ⟨(some 48), none, .mov (.t 9), []⟩,
          ⟨(some 49), none, .bin .add (.t 48) (.c (.int .i64 1)), [7]⟩,
          ⟨(some 50), none, .slice 32 (.t 47) (some (.t 49)) none none, [6, 7, 8]⟩,
          ⟨(some 51), none, .append 32 480 (.t 46) (.t 50), [1, 2, 3, 4, 5, 6, 7, 8, 9]⟩,
          ⟨(some 52), none, .load 32 true (.t 6), []⟩,
          ⟨(some 53), none, .call false (.f 31) [.t 41, .t 51, .t 52], [0, 1, 2, 3, 4, 5, 6, 7, 8, 9, 10, 11]⟩,
          ⟨(some 54), none, .bin .neq (.t 53) (.c (.int .i64 0)), [0, 1, 2, 3, 4, 5, 6, 7, 8, 9, 10, 11, 12]⟩] true)
      (.cond (.t 54) (.seq (.reg [⟨(some 8), none, .mov (.c (.bool false)), []⟩] false)
        (.ret))
        (.skip))))
      (.skip)))
  (.seq (.reg [⟨(some 55), none, .load 21 true (.t 4), []⟩,
      ⟨(some 10), none, .zero [.str ⟨#[]⟩, .str ⟨#[]⟩, .str ⟨#[]⟩, .int .i64 0, .int .i64 0, .int .i64 0, .int .i64 0, .bool false, .int .i64 0, .ns 2, .ns 5, .ns 1, .ns 2, .int .i64 0, .int .i64 0, .int .i64 0, .int .i64 0, .int .i64 0, .int .i64 0, .int .i64 0, .int .i64 0], []⟩,
      ⟨none, none, .store 21 (.t 10) (.t 55), []⟩] false)
  (.seq (.seq (.reg [⟨(some 56), none, .faddr 19 (.t 10), []⟩,
        ⟨(some 57), none, .load 1 false (.t 56), []⟩,
        ⟨(some 58), none, .bin .gtr (.t 57) (.c (.int .i64 0)), []⟩,
        ⟨(some 59), none, .mov (.t 58), []⟩,
        ⟨(some 60), (some (59, true)), .faddr 19 (.t 10), []⟩,
        ⟨(some 61), (some (59, true)), .load 1 false (.t 60), []⟩,
        ⟨(some 62), (some (59, true)), .bin .lss (.t 61) (.c (.int .i64 1000000000000000)), []⟩,
        ⟨(some 63), none, .pick (.t 59) (.t 62) (.c (.bool false)), []⟩] false)
    (.cond (.t 63) (.reg [⟨(some 64), none, .faddr 19 (.t 10), []⟩,
        ⟨(some 65), none, .load 1 false (.t 64), []⟩,
        ⟨(some 66), none, .bin .add (.t 65) (.c (.int .i64 1)), []⟩,
        ⟨(some 67), none, .faddr 19 (.t 10), []⟩,
        ⟨none, none, .store 1 (.t 67) (.t 66), []⟩] false)
      (.skip)))
  (.seq (.seq (.reg [⟨(some 68), none, .faddr 13 (.t 10), []⟩,
        ⟨(some 69), none, .faddr 0 (.t 68), []⟩,
        ⟨(some 70), none, .load 1 false (.t 69), []⟩,
        ⟨(some 71), none, .bin .gtr (.t 70) (.c (.int .i64 0)), []⟩,
        ⟨(some 72), none, .mov (.t 71), []⟩,
        ⟨(some 73), (some (72, true)), .faddr 13 (.t 10), []⟩,
        ⟨(some 74), (some (72, true)), .faddr 0 (.t 73), []⟩,
        ⟨(some 75), (some (72, true)), .load 1 false (.t 74), []⟩,
        ⟨(some 76), (some (72, true)), .bin .lss (.t 75) (.c (.int .i64 1000000000000000)), []⟩,
        ⟨(some 77), none, .pick (.t 72) (.t 76) (.c (.bool false)), []⟩] false)
    (.cond (.t 77) (.reg [⟨(some 78), none, .faddr 13 (.t 10), []⟩,
        ⟨(some 79), none, .faddr 0 (.t 78), []⟩,
        ⟨(some 80), none, .load 1 false (.t 79), []⟩,
        ⟨(some 81), none, .bin .add (.t 80) (.c (.int .i64 1)), []⟩,
        ⟨(some 82), none, .faddr 13 (.t 10), []⟩,
        ⟨(some 83), none, .faddr 0 (.t 82), []⟩,
        ⟨none, none, .store 1 (.t 83) (.t 81), []⟩] false)
      (.skip)))
  (.seq (.reg [⟨(some 84), none, .load 21 true (.t 10), []⟩,
      ⟨(some 85), none, .mov (.t 1), []⟩,
      ⟨(some 86), none, .load 32 true (.t 6), []⟩,
      ⟨(some 87), none, .call false (.f 31) [.t 84, .t 85, .t 86], []⟩,
      ⟨(some 88), none, .bin .eql (.t 87) (.c (.int .i64 0)), []⟩,
      ⟨(some 89), none, .mov (.t 88), []⟩,
      ⟨(some 90), (some (89, true)), .call false (.f 26) [], []⟩,
      ⟨(some 91), none, .pick (.t 89) (.t 90) (.c (.bool false)), []⟩,
      ⟨(some 8), none, .mov (.t 91), []⟩] false)
  (.ret)))))))
def law22_QuotaGrows : IFn := ⟨4, 92, [.tmp 8], false, law22_QuotaGrows_c⟩

/-- function 12: orchestrator/ orchestratorlaw02.lives -/
def law02_lives_c : IR :=
  .seq (.reg [⟨(some 0), none, .mov (.c (.bool false)), []⟩] false)
  (.seq (.reg [⟨(some 4), none, .build [.int .i64 0, .int .i64 0, .int .i64 0] [(0, 1, .c (.int .i64 1)), (1, 1, .c (.int .i64 2)), (2, 1, .c (.int .i64 3))], []⟩,
      ⟨(some 5), none, .build [.int .i64 0, .int .i64 0, .int .i64 0] [(0, 1, .c (.int .i64 4)), (1, 1, .c (.int .i64 1)), (2, 1, .c (.int .i64 1000000000000000))], []⟩,
      ⟨(some 1), none, .zero [.int .i64 0, .int .i64 0, .int .i64 0], []⟩,
      ⟨(some 2), none, .zero [.int .i64 0, .int .i64 0, .int .i64 0], []⟩,
      ⟨none, none, .store 3 (.t 1) (.t 4), []⟩,
      ⟨none, none, .store 3 (.t 2) (.t 5), []⟩] false)
  (.seq (.reg [⟨(some 6), none, .load 3 true (.t 1), []⟩,
      ⟨(some 7), none, .load 3 true (.t 2), []⟩,
      ⟨(some 8), none, .build [.str ⟨#[]⟩, .str ⟨#[]⟩, .int .i64 0, .int .i64 0, .int .i64 0, .int .i64 0, .int .i64 0, .int .i64 0, .ns 4, .ns 4, .ns 4] [(2, 3, .t 6), (5, 3, .t 7)], []⟩,
      ⟨(some 9), none, .load 3 true (.t 2), []⟩,
      ⟨(some 10), none, .load 3 true (.t 2), []⟩,
      ⟨(some 11), none, .build [.str ⟨#[]⟩, .str ⟨#[]⟩, .int .i64 0, .int .i64 0, .int .i64 0, .int .i64 0, .int .i64 0, .int .i64 0, .ns 4, .ns 4, .ns 4] [(2, 3, .t 9), (5, 3, .t 10)], []⟩,
      ⟨(some 12), none, .lit 11 2 [.str ⟨#[]⟩, .str ⟨#[]⟩, .int .i64 0, .int .i64 0, .int .i64 0, .int .i64 0, .int .i64 0, .int .i64 0, .ns 4, .ns 4, .ns 4] [(0, .t 8), (1, .t 11)], []⟩,
      ⟨(some 13), none, .build [.str ⟨#[]⟩, .int .i64 0, .int .i64 0, .int .i64 0, .ns 11, .ns 3, .ns 3, .ns 5, .ns 4, .ns 5] [(4, 1, .t 12)], []⟩,
      ⟨(some 3), none, .zero [.str ⟨#[]⟩, .int .i64 0, .int .i64 0, .int .i64 0, .ns 11, .ns 3, .ns 3, .ns 5, .ns 4, .ns 5], []⟩,
      ⟨none, none, .store 10 (.t 3) (.t 13), []⟩] false)
  (.seq (.reg [⟨(some 14), none, .load 3 true (.t 1), []⟩,
      ⟨(some 15), none, .load 3 true (.t 2), []⟩,
      ⟨(some 16), none, .call false (.f 13) [.t 14, .t 15], [0, 1]⟩,
      ⟨(some 17), none, .build [.int .i64 0, .int .i64 0, .int .i64 0] [(0, 1, .c (.int .i64 5)), (1, 1, .c (.int .i64 3)), (2, 1, .c (.int .i64 1000000000000000))], []⟩,
      ⟨(some 18), none, .eqs (.st [(0, 1, .int), (1, 1, .int), (2, 1, .int)]) false (.t 16) (.t 17), [0, 1, 2, 3]⟩,
      ⟨(some 19), none, .mov (.t 18), [0, 1, 2, 3, 4]⟩,
      ⟨(some 20), (some (19, true)), .load 3 true (.t 1), [0, 1, 2, 3, 4, 5]⟩,
      ⟨(some 21), (some (19, true)), .load 3 true (.t 2), [0, 1, 2, 3, 4, 5]⟩,
      ⟨(some 22), (some (19, true)), .call false (.f 15) [.t 20, .t 21], [0, 1, 2, 3, 4, 5, 6, 7]⟩,
      ⟨(some 23), (some (19, true)), .build [.int .i64 0, .int .i64 0, .int .i64 0] [(1, 1, .c (.int .i64 1))], [0, 1, 2, 3, 4, 5]⟩,
      ⟨(some 24), (some (19, true)), .eqs (.st [(0, 1, .int), (1, 1, .int), (2, 1, .int)]) false (.t 22) (.t 23), [0, 1, 2, 3, 4, 5, 6, 7, 8, 9]⟩,
      ⟨(some 25), none, .pick (.t 19) (.t 24) (.c (.bool false)), [0, 1, 2, 3, 4, 5, 6, 7, 8, 9, 10]⟩,
      ⟨(some 26), none, .mov (.t 25), [0, 1, 2, 3, 4, 5, 6, 7, 8, 9, 10, 11]⟩,
      ⟨(some 27), (some (26, true)), .load 3 true (.t 1), [0, 1, 2, 3, 4, 5, 6, 7, 8, 9, 10, 11, 12]⟩,
      ⟨(some 28), (some (26, true)), .load 3 true (.t 1), [0, 1, 2, 3, 4, 5, 6, 7, 8, 9, 10, 11, 12]⟩,
      ⟨(some 29), (some (26, true)), .load 3 true (.t 2), [0, 1, 2, 3, 4, 5, 6, 7, 8, 9, 10, 11, 12]⟩,
      ⟨(some 30), (some (26, true)), .call false (.f 13) [.t 28, .t 29], [0, 1, 2, 3, 4, 5, 6, 7, 8, 9, 10, 11, 12, 14, 15]⟩,
      ⟨(some 31), (some (26, true)), .call false (.f 17) [.t 27, .t 30], [0, 1, 2, 3, 4, 5, 6, 7, 8, 9, 10, 11, 12, 13, 14, 15, 16]⟩,
      ⟨(some 32), none, .pick (.t 26) (.t 31) (.c (.bool false)), [0, 1, 2, 3, 4, 5, 6, 7, 8, 9, 10, 11, 12, 13, 14, 15, 16, 17]⟩,
      ⟨(some 33), none, .mov (.t 32), [0, 1, 2, 3, 4, 5, 6, 7, 8, 9, 10, 11, 12, 13, 14, 15, 16, 17, 18]⟩,
      ⟨(some 34), (some (33, true)), .load 3 true (.t 2), [0, 1, 2, 3, 4, 5, 6, 7, 8, 9, 10, 11, 12, 13, 14, 15, 16, 17, 18, 19]⟩,
      ⟨(some 35), (some (33, true)), .load 3 true (.t 1), [0, 1, 2, 3, 4, 5, 6, 7, 8, 9, 10, 11, 12, 13, 14, 15, 16, 17, 18, 19]⟩,
      ⟨(some 36), (some (33, true)), .call false (.f 17) [.t 34, .t 35], [0, 1, 2, 3, 4, 5, 6, 7, 8, 9, 10, 11, 12, 13, 14, 15, 16, 17, 18, 19, 20, 21]⟩,
      ⟨(some 37), (some (33, true)), .un .not (.t 36), [0, 1, 2, 3, 4, 5, 6, 7, 8, 9, 10, 11, 12, 13, 14, 15, 16, 17, 18, 19, 20, 21, 22]⟩,
      ⟨(some 38), none, .pick (.t 33) (.t 37) (.c (.bool false)), [0, 1, 2, 3, 4, 5, 6, 7, 8, 9, 10, 11, 12, 13, 14, 15, 16, 17, 18, 19, 20, 21, 22, 23]⟩,
      ⟨(some 39), none, .mov (.t 38), [0, 1, 2, 3, 4, 5, 6, 7, 8, 9, 10, 11, 12, 13, 14, 15, 16, 17, 18, 19, 20, 21, 22, 23, 24]⟩,
      ⟨(some 40), (some (39, true)), .load 10 true (.t 3), [0, 1, 2, 3, 4, 5, 6, 7, 8, 9, 10, 11, 12, 13, 14, 15, 16, 17, 18, 19, 20, 21, 22, 23, 24, 25]⟩,
      ⟨(some 41), (some (39, true)), .call false (.f 19) [.t 40], [0, 1, 2, 3, 4, 5, 6, 7, 8, 9, 10, 11, 12, 13, 14, 15, 16, 17, 18, 19, 20, 21, 22, 23, 24, 25, 26]⟩,
      ⟨(some 42), (some (39, true)), .build [.int .i64 0, .int .i64 0, .int .i64 0] [(0, 1, .c (.int .i64 5)), (1, 1, .c (.int .i64 3)), (2, 1, .c (.int .i64 1000000000000000))], [0, 1, 2, 3, 4, 5, 6, 7, 8, 9, 10, 11, 12, 13, 14, 15, 16, 17, 18, 19, 20, 21, 22, 23, 24, 25]⟩,
      ⟨(some 43), (some (39, true)), .eqs (.st [(0, 1, .int), (1, 1, .int), (2, 1, .int)]) false (.t 41) (.t 42), [0, 1, 2, 3, 4, 5, 6, 7, 8, 9, 10, 11, 12, 13, 14, 15, 16, 17, 18, 19, 20, 21, 22, 23, 24, 25, 26, 27, 28]⟩,
      ⟨(some 44), none, .pick (.t 39) (.t 43) (.c (.bool false)), [0, 1, 2, 3, 4, 5, 6, 7, 8, 9, 10, 11, 12, 13, 14, 15, 16, 17, 18, 19, 20, 21, 22, 23, 24, 25, 26, 27, 28, 29]⟩,
      ⟨(some 45), none, .mov (.t 44), [0, 1, 2, 3, 4, 5, 6, 7, 8, 9, 10, 11, 12, 13, 14, 15, 16, 17, 18, 19, 20, 21, 22, 23, 24, 25, 26, 27, 28, 29, 30]⟩,
      ⟨(some 46), (some (45, true)), .load 10 true (.t 3), [0, 1, 2, 3, 4, 5, 6, 7, 8, 9, 10, 11, 12, 13, 14, 15, 16, 17, 18, 19, 20, 21, 22, 23, 24, 25, 26, 27, 28, 29, 30, 31]⟩,
      ⟨(some 47), (some (45, true)), .call false (.f 21) [.t 46], [0, 1, 2, 3, 4, 5, 6, 7, 8, 9, 10, 11, 12, 13, 14, 15, 16, 17, 18, 19, 20, 21, 22, 23, 24, 25, 26, 27, 28, 29, 30, 31, 32]⟩,
      ⟨(some 48), (some (45, true)), .build [.int .i64 0, .int .i64 0, .int .i64 0] [(0, 1, .c (.int .i64 8)), (1, 1, .c (.int .i64 2)), (2, 1, .c (.int .i64 1000000000000000))], [0, 1, 2, 3, 4, 5, 6, 7, 8, 9, 10, 11, 12, 13, 14, 15, 16, 17, 18, 19, 20, 21, 22, 23, 24, 25, 26, 27, 28, 29, 30, 31]⟩,
      ⟨(some 49), (some (45, true)), .eqs (.st [(0, 1, .int), (1, 1, .int), (2, 1, .int)]) false (.t 47) (.t 48), [0, 1, 2, 3, 4, 5, 6, 7, 8, 9, 10, 11, 12, 13, 14, 15, 16, 17, 18, 19, 20, 21, 22, 23, 24, 25, 26, 27, 28, 29, 30, 31, 32, 33, 34]⟩,
      ⟨(some 50), none, .pick (.t 45) (.t 49) (.c (.bool false)), [0, 1, 2, 3, 4, 5, 6, 7, 8, 9, 10, 11, 12, 13, 14, 15, 16, 17, 18, 19, 20, 21, 22, 23, 24, 25, 26, 27, 28, 29, 30, 31, 32, 33, 34, 35]⟩,
      ⟨(some 0), none, .mov (.t 50), [0, 1, 2, 3, 4, 5, 6, 7, 8, 9, 10, 11, 12, 13, 14, 15, 16, 17, 18, 19, 20, 21, 22, 23, 24, 25, 26, 27, 28, 29, 30, 31, 32, 33, 34, 35, 36]⟩] true)
  (.ret))))
def law02_lives : IFn := ⟨0, 51, [.tmp 0], false, law02_lives_c⟩

/-- function 13: orchestrator/ resource.Add -/
def resource_Add_c : IR :=
  .seq (.reg [⟨(some 2), none, .box 3 (.t 0), []⟩,
      ⟨(some 3), none, .box 3 (.t 1), []⟩,
      ⟨(some 4), none, .zero [.int .i64 0, .int .i64 0, .int .i64 0], []⟩] false)
  (.seq (.reg [⟨(some 5), none, .load 3 true (.t 2), []⟩,
      ⟨(some 6), none, .load 3 true (.t 3), []⟩,
      ⟨(some 7), none, .call false (.f 35) [.t 5, .t 6, .f 36], []⟩,
      ⟨none, none, .store 3 (.t 4) (.t 7), []⟩] false)
  (.ret))
def resource_Add : IFn := ⟨2, 8, [.cell 4 3 true], false, resource_Add_c⟩

/-- function 14: orchestrator/ orchestratorref02.Add -/
def ref02_Add_c : IR :=
  .seq (.reg [⟨(some 2), none, .box 3 (.t 0), []⟩,
      ⟨(some 3), none, .box 3 (.t 1), []⟩,
      ⟨(some 4), none, .zero [.int .i64 0, .int .i64 0, .int .i64 0], []⟩] false)
  (.seq (.reg [⟨(some 5), none, .faddr 0 (.t 2), []⟩,
      ⟨(some 6), none, .load 1 false (.t 5), [0]⟩,
      ⟨(some 7), none, .call false (.f 38) [.t 6], [0, 1]⟩,
      ⟨(some 8), none, .faddr 0 (.t 3), []⟩,
      ⟨(some 9), none, .load 1 false (.t 8), [3]⟩,
      ⟨(some 10), none, .call false (.f 38) [.t 9], [0, 1, 2, 3, 4]⟩,
      ⟨(some 11), none, .bin .add (.t 7) (.t 10), [0, 1, 2, 3, 4, 5]⟩,
      ⟨(some 12), none, .call false (.f 38) [.t 11], [0, 1, 2, 3, 4, 5, 6]⟩,
      ⟨(some 13), none, .faddr 1 (.t 2), []⟩,
      ⟨(some 14), none, .load 1 false (.t 13), [8]⟩,
      ⟨(some 15), none, .call false (.f 38) [.t 14], [0, 1, 2, 3, 4, 5, 6, 7, 8, 9]⟩,
      ⟨(some 16), none, .faddr 1 (.t 3), []⟩,
      ⟨(some 17), none, .load 1 false (.t 16), [11]⟩,
      ⟨(some 18), none, .call false (.f 38) [.t 17], [0, 1, 2, 3, 4, 5, 6, 7, 8, 9, 10, 11, 12]⟩,
      ⟨(some 19), none, .bin .add (.t 15) (.t 18), [0, 1, 2, 3, 4, 5, 6, 7, 8, 9, 10, 11, 12, 13]⟩,
      ⟨(some 20), none, .call false (.f 38) [.t 19], [0, 1, 2, 3, 4, 5, 6, 7, 8, 9, 10, 11, 12, 13, 14]⟩,
      ⟨(some 21), none, .faddr 2 (.t 2), []⟩,
      ⟨(some 22), none, .load 1 false (.t 21), [16]⟩,
      ⟨(some 23), none, .call false (.f 38) [.t 22], [0, 1, 2, 3, 4, 5, 6, 7, 8, 9, 10, 11, 12, 13, 14, 15, 16, 17]⟩,
      ⟨(some 24), none, .faddr 2 (.t 3), []⟩,
      ⟨(some 25), none, .load 1 false (.t 24), [19]⟩,
      ⟨(some 26), none, .call false (.f 38) [.t 25], [0, 1, 2, 3, 4, 5, 6, 7, 8, 9, 10, 11, 12, 13, 14, 15, 16, 17, 18, 19, 20]⟩,
      ⟨(some 27), none, .bin .add (.t 23) (.t 26), [0, 1, 2, 3, 4, 5, 6, 7, 8, 9, 10, 11, 12, 13, 14, 15, 16, 17, 18, 19, 20, 21]⟩,
      ⟨(some 28), none, .call false (.f 38) [.t 27], [0, 1, 2, 3, 4, 5, 6, 7, 8, 9, 10, 11, 12, 13, 14, 15, 16, 17, 18, 19, 20, 21, 22]⟩,
      ⟨(some 29), none, .build [.int .i64 0, .int .i64 0, .int .i64 0] [(0, 1, .t 12), (1, 1, .t 20), (2, 1, .t 28)], [0, 1, 2, 3, 4, 5, 6, 7, 8, 9, 10, 11, 12, 13, 14, 15, 16, 17, 18, 19, 20, 21, 22, 23]⟩,
      ⟨none, none, .store 3 (.t 4) (.t 29), [0, 1, 2, 3, 4, 5, 6, 7, 8, 9, 10, 11, 12, 13, 14, 15, 16, 17, 18, 19, 20, 21, 22, 23, 24]⟩] true)
  (.ret))
def ref02_Add : IFn := ⟨2, 30, [.cell 4 3 true], false, ref02_Add_c⟩

/-- function 15: orchestrator/ resource.Sub -/
def resource_Sub_c : IR :=
  .seq (.reg [⟨(some 2), none, .box 3 (.t 0), []⟩,
      ⟨(some 3), none, .box 3 (.t 1), []⟩,
      ⟨(some 4), none, .zero [.int .i64 0, .int .i64 0, .int .i64 0], []⟩] false)
  (.seq (.reg [⟨(some 5), none, .load 3 true (.t 2), []⟩,
      ⟨(some 6), none, .load 3 true (.t 3), []⟩,
      ⟨(some 7), none, .call false (.f 35) [.t 5, .t 6, .f 39], []⟩,
      ⟨none, none, .store 3 (.t 4) (.t 7), []⟩] false)
  (.ret))
def resource_Sub : IFn := ⟨2, 8, [.cell 4 3 true], false, resource_Sub_c⟩

/-- function 16: orchestrator/ orchestratorref02.Sub -/
def ref02_Sub_c : IR :=
  .seq (.reg [⟨(some 2), none, .box 3 (.t 0), []⟩,
      ⟨(some 3), none, .box 3 (.t 1), []⟩,
      ⟨(some 4), none, .zero [.int .i64 0, .int .i64 0, .int .i64 0], []⟩] false)
  (.seq (.reg [⟨(some 5), none, .faddr 0 (.t 2), []⟩,
      ⟨(some 6), none, .load 1 false (.t 5), [0]⟩,
      ⟨(some 7), none, .call false (.f 38) [.t 6], [0, 1]⟩,
      ⟨(some 8), none, .faddr 0 (.t 3), []⟩,
      ⟨(some 9), none, .load 1 false (.t 8), [3]⟩,
      ⟨(some 10), none, .call false (.f 38) [.t 9], [0, 1, 2, 3, 4]⟩,
      ⟨(some 11), none, .bin .sub (.t 7) (.t 10), [0, 1, 2, 3, 4, 5]⟩,
      ⟨(some 12), none, .call false (.f 38) [.t 11], [0, 1, 2, 3, 4, 5, 6]⟩,
      ⟨(some 13), none, .faddr 1 (.t 2), []⟩,
      ⟨(some 14), none, .load 1 false (.t 13), [8]⟩,
      ⟨(some 15), none, .call false (.f 38) [.t 14], [0, 1, 2, 3, 4, 5, 6, 7, 8, 9]⟩,
      ⟨(some 16), none, .faddr 1 (.t 3), []⟩,
      ⟨(some 17), none, .load 1 false (.t 16), [11]⟩,
      ⟨(some 18), none, .call false (.f 38) [.t 17], [0, 1, 2, 3, 4, 5, 6, 7, 8, 9, 10, 11, 12]⟩,
      ⟨(some 19), none, .bin .sub (.t 15) (.t 18), [0, 1, 2, 3, 4, 5, 6, 7, 8, 9, 10, 11, 12, 13]⟩,
      ⟨(some 20), none, .call false (.f 38) [.t 19], [0, 1, 2, 3, 4, 5, 6, 7, 8, 9, 10, 11, 12, 13, 14]⟩,
      ⟨(some 21), none, .faddr 2 (.t 2), []⟩,
      ⟨(some 22), none, .load 1 false (.t 21), [16]⟩,
      ⟨(some 23), none, .call false (.f 38) [.t 22], [0, 1, 2, 3, 4, 5, 6, 7, 8, 9, 10, 11, 12, 13, 14, 15, 16, 17]⟩,
      ⟨(some 24), none, .faddr 2 (.t 3), []⟩,
      ⟨(some 25), none, .load 1 false (.t 24), [19]⟩,
      ⟨(some 26), none, .call false (.f 38) [.t 25], [0, 1, 2, 3, 4, 5, 6, 7, 8, 9, 10, 11, 12, 13, 14, 15, 16, 17, 18, 19, 20]⟩,
      ⟨(some 27), none, .bin .sub (.t 23) (.t 26), [0, 1, 2, 3, 4, 5, 6, 7, 8, 9, 10, 11, 12, 13, 14, 15, 16, 17, 18, 19, 20, 21]⟩,
      ⟨(some 28), none, .call false (.f 38) [.t 27], [0, 1, 2, 3, 4, 5, 6, 7, 8, 9, 10, 11, 12, 13, 14, 15, 16, 17, 18, 19, 20, 21, 22]⟩,
      ⟨(some 29), none, .build [.int .i64 0, .int .i64 0, .int .i64 0] [(0, 1, .t 12), (1, 1, .t 20), (2, 1, .t 28)], [0, 1, 2, 3, 4, 5, 6, 7, 8, 9, 10, 11, 12, 13, 14, 15, 16, 17, 18, 19, 20, 21, 22, 23]⟩,
      ⟨none, none, .store 3 (.t 4) (.t 29), [0, 1, 2, 3, 4, 5, 6, 7, 8, 9, 10, 11, 12, 13, 14, 15, 16, 17, 18, 19, 20, 21, 22, 23, 24]⟩] true)
  (.ret))
def ref02_Sub : IFn := ⟨2, 30, [.cell 4 3 true], false, ref02_Sub_c⟩

/-- function 17: orchestrator/ resource.Fits -/
def resource_Fits_c : IR :=
  .seq (.reg [⟨(some 2), none, .box 3 (.t 0), []⟩,
      ⟨(some 3), none, .box 3 (.t 1), []⟩,
      ⟨(some 4), none, .mov (.c (.bool false)), []⟩] false)
  (.seq (.reg [⟨(some 5), none, .load 3 true (.t 2), []⟩,
      ⟨(some 6), none, .load 3 true (.t 3), []⟩,
      ⟨(some 7), none, .call false (.f 15) [.t 5, .t 6], []⟩,
      ⟨(some 8), none, .build [.int .i64 0, .int .i64 0, .int .i64 0] [], []⟩,
      ⟨(some 9), none, .eqs (.st [(0, 1, .int), (1, 1, .int), (2, 1, .int)]) false (.t 7) (.t 8), []⟩,
      ⟨(some 4), none, .mov (.t 9), []⟩] false)
  (.ret))
def resource_Fits : IFn := ⟨2, 10, [.tmp 4], false, resource_Fits_c⟩

/-- function 18: orchestrator/ orchestratorref02.Fits -/
def ref02_Fits_c : IR :=
  .seq (.reg [⟨(some 2), none, .box 3 (.t 0), []⟩,
      ⟨(some 3), none, .box 3 (.t 1), []⟩,
      ⟨(some 4), none, .mov (.c (.bool false)), []⟩] false)
  (.seq (.reg [⟨(some 5), none, .faddr 0 (.t 2), []⟩,
      ⟨(some 6), none, .load 1 false (.t 5), [0]⟩,
      ⟨(some 7), none, .call false (.f 38) [.t 6], [0, 1]⟩,
      ⟨(some 8), none, .faddr 0 (.t 3), []⟩,
      ⟨(some 9), none, .load 1 false (.t 8), [3]⟩,
      ⟨(some 10), none, .call false (.f 38) [.t 9], [0, 1, 2, 3, 4]⟩,
      ⟨(some 11), none, .bin .leq (.t 7) (.t 10), [0, 1, 2, 3, 4, 5]⟩,
      ⟨(some 12), none, .mov (.t 11), [0, 1, 2, 3, 4, 5, 6]⟩,
      ⟨(some 13), (some (12, true)), .faddr 1 (.t 2), [0, 1, 2, 3, 4, 5, 6, 7]⟩,
      ⟨(some 14), (some (12, true)), .load 1 false (.t 13), [0, 1, 2, 3, 4, 5, 6, 7, 8]⟩,
      ⟨(some 15), (some (12, true)), .call false (.f 38) [.t 14], [0, 1, 2, 3, 4, 5, 6, 7, 8, 9]⟩,
      ⟨(some 16), (some (12, true)), .faddr 1 (.t 3), [0, 1, 2, 3, 4, 5, 6, 7]⟩,
      ⟨(some 17), (some (12, true)), .load 1 false (.t 16), [0, 1, 2, 3, 4, 5, 6, 7, 11]⟩,
      ⟨(some 18), (some (12, true)), .call false (.f 38) [.t 17], [0, 1, 2, 3, 4, 5, 6, 7, 8, 9, 10, 11, 12]⟩,
      ⟨(some 19), (some (12, true)), .bin .leq (.t 15) (.t 18), [0, 1, 2, 3, 4, 5, 6, 7, 8, 9, 10, 11, 12, 13]⟩,
      ⟨(some 20), none, .pick (.t 12) (.t 19) (.c (.bool false)), [0, 1, 2, 3, 4, 5, 6, 7, 8, 9, 10, 11, 12, 13, 14]⟩,
      ⟨(some 21), none, .mov (.t 20), [0, 1, 2, 3, 4, 5, 6, 7, 8, 9, 10, 11, 12, 13, 14, 15]⟩,
      ⟨(some 22), (some (21, true)), .faddr 2 (.t 2), [0, 1, 2, 3, 4, 5, 6, 7, 8, 9, 10, 11, 12, 13, 14, 15, 16]⟩,
      ⟨(some 23), (some (21, true)), .load 1 false (.t 22), [0, 1, 2, 3, 4, 5, 6, 7, 8, 9, 10, 11, 12, 13, 14, 15, 16, 17]⟩,
      ⟨(some 24), (some (21, true)), .call false (.f 38) [.t 23], [0, 1, 2, 3, 4, 5, 6, 7, 8, 9, 10, 11, 12, 13, 14, 15, 16, 17, 18]⟩,
      ⟨(some 25), (some (21, true)), .faddr 2 (.t 3), [0, 1, 2, 3, 4, 5, 6, 7, 8, 9, 10, 11, 12, 13, 14, 15, 16]⟩,
      ⟨(some 26), (some (21, true)), .load 1 false (.t 25), [0, 1, 2, 3, 4, 5, 6, 7, 8, 9, 10, 11, 12, 13, 14, 15, 16, 20]⟩,
      ⟨(some 27), (some (21, true)), .call false (.f 38) [.t 26], [0, 1, 2, 3, 4, 5, 6, 7, 8, 9, 10, 11, 12, 13, 14, 15, 16, 17, 18, 19, 20, 21]⟩,
      ⟨(some 28), (some (21, true)), .bin .leq (.t 24) (.t 27), [0, 1, 2, 3, 4, 5, 6, 7, 8, 9, 10, 11, 12, 13, 14, 15, 16, 17, 18, 19, 20, 21, 22]⟩,
      ⟨(some 29), none, .pick (.t 21) (.t 28) (.c (.bool false)), [0, 1, 2, 3, 4, 5, 6, 7, 8, 9, 10, 11, 12, 13, 14, 15, 16, 17, 18, 19, 20, 21, 22, 23]⟩,
      ⟨(some 4), none, .mov (.t 29), [0, 1, 2, 3, 4, 5, 6, 7, 8, 9, 10, 11, 12, 13, 14, 15, 16, 17, 18, 19, 20, 21, 22, 23, 24]⟩] true)
  (.ret))
def ref02_Fits : IFn := ⟨2, 30, [.tmp 4], false, ref02_Fits_c⟩

/-- function 19: orchestrator/ resource.Requests -/
def resource_Requests_b0_live : List Nat := [100003, 2, 3, 7, 8, 9]
def resource_Requests_b0 : IR :=
  .seq (.reg [⟨(some 10), none, .bin .lss (.t 9) (.t 8), []⟩] false)
    (.seq (.cond (.t 10) (.skip)
        (.exit 0))
    (.seq (.block 1 (.seq (.reg [⟨(some 11), none, .iaddr 11 (.t 7) (.t 9), []⟩,
            ⟨(some 12), none, .load 11 true (.t 11), []⟩,
            ⟨(some 5), none, .zero [.str ⟨#[]⟩, .str ⟨#[]⟩, .int .i64 0, .int .i64 0, .int .i64 0, .int .i64 0, .int .i64 0, .int .i64 0, .ns 4, .ns 4, .ns 4], []⟩,
            ⟨none, none, .store 11 (.t 5) (.t 12), []⟩] false)
        (.reg [⟨(some 13), none, .load 3 true (.t 3), []⟩,
          ⟨(some 14), none, .faddr 2 (.t 5), []⟩,
          ⟨(some 15), none, .load 3 true (.t 14), []⟩,
          ⟨(some 16), none, .call false (.f 13) [.t 13, .t 15], []⟩,
          ⟨none, none, .store 3 (.t 3) (.t 16), []⟩] false)))
    (.reg [⟨(some 17), none, .bin .add (.t 9) (.c (.int .i64 1)), []⟩,
      ⟨(some 9), none, .mov (.t 17), []⟩] false)))
def resource_Requests_c : IR :=
  .seq (.reg [⟨(some 1), none, .box 10 (.t 0), []⟩,
      ⟨(some 2), none, .zero [.int .i64 0, .int .i64 0, .int .i64 0], []⟩] false)
  (.seq (.reg [⟨(some 3), none, .zero [.int .i64 0, .int .i64 0, .int .i64 0], []⟩] false)
  (.seq (.seq (.reg [⟨(some 6), none, .faddr 4 (.t 1), []⟩,
        ⟨(some 7), none, .load 1 false (.t 6), []⟩,
        ⟨(some 8), none, .len false (.t 7), []⟩,
        ⟨(some 9), none, .mov (.c (.int .i64 0)), []⟩] false)
    (.block 0 (.loop resource_Requests_b0_live resource_Requests_b0)))
  (.seq (.reg [⟨(some 18), none, .load 3 true (.t 3), []⟩,
      ⟨none, none, .store 3 (.t 2) (.t 18), []⟩] false)
  (.ret))))
def resource_Requests : IFn := ⟨1, 19, [.cell 2 3 true], false, resource_Requests_c⟩

/-- function 20: orchestrator/ orchestratorref02.Requests -/
def ref02_Requests_b0_live : List Nat := [100004, 1, 2, 3, 4]
def ref02_Requests_b0 : IR :=
  .seq (.seq (.reg [⟨(some 6), none, .mov (.t 4), []⟩,
          ⟨(some 7), none, .faddr 4 (.t 1), []⟩,
          ⟨(some 8), none, .load 1 false (.t 7), []⟩,
          ⟨(some 9), none, .len false (.t 8), []⟩,
          ⟨(some 10), none, .bin .lss (.t 6) (.t 9), []⟩] false)
      (.cond (.t 10) (.skip)
        (.exit 0)))
    (.seq (.block 1 (.reg [⟨(some 13), none, .load 3 true (.t 3), []⟩,
          ⟨(some 14), none, .faddr 4 (.t 1), []⟩,
          ⟨(some 15), none, .load 1 false (.t 14), [1]⟩,
          ⟨(some 16), none, .mov (.t 4), []⟩,
          ⟨(some 17), none, .iaddr 11 (.t 15) (.t 16), [1, 2, 3]⟩,
          ⟨(some 18), none, .faddr 2 (.t 17), [1, 2, 3, 4]⟩,
          ⟨(some 19), none, .load 3 true (.t 18), [1, 2, 3, 4, 5]⟩,
          ⟨(some 20), none, .call false (.f 14) [.t 13, .t 19], [0, 1, 2, 3, 4, 5, 6]⟩,
          ⟨none, none, .store 3 (.t 3) (.t 20), [0, 1, 2, 3, 4, 5, 6, 7]⟩] true))
    (.reg [⟨(some 11), none, .mov (.t 4), []⟩,
      ⟨(some 12), none, .bin .add (.t 11) (.c (.int .i64 1)), []⟩,
      ⟨(some 4), none, .mov (.t 12), []⟩] false))
def ref02_Requests_c : IR :=
  .seq (.reg [⟨(some 1), none, .box 10 (.t 0), []⟩,
      ⟨(some 2), none, .zero [.int .i64 0, .int .i64 0, .int .i64 0], []⟩] false)
  (.seq (.reg [⟨(some 5), none, .build [.int .i64 0, .int .i64 0, .int .i64 0] [], []⟩,
      ⟨(some 3), none, .zero [.int .i64 0, .int .i64 0, .int .i64 0], []⟩,
      ⟨none, none, .store 3 (.t 3) (.t 5), []⟩] false)
  (.seq (.seq (.reg [⟨(some 4), none, .mov (.c (.int .i64 0)), []⟩] false)
    (.block 0 (.loop ref02_Requests_b0_live ref02_Requests_b0)))
  (.seq (.reg [⟨(some 21), none, .load 3 true (.t 3), []⟩,
      ⟨none, none, .store 3 (.t 2) (.t 21), []⟩] false)
  (.ret))))
def ref02_Requests : IFn := ⟨1, 22, [.cell 2 3 true], false, ref02_Requests_c⟩

/-- function 21: orchestrator/ resource.Limits -/
def resource_Limits_b0_live : List Nat := [100005, 2, 3, 7, 8, 9]
def resource_Limits_b0 : IR :=
  .seq (.reg [⟨(some 10), none, .bin .lss (.t 9) (.t 8), []⟩] false)
    (.seq (.cond (.t 10) (.skip)
        (.exit 0))
    (.seq (.block 1 (.seq (.reg [⟨(some 11), none, .iaddr 11 (.t 7) (.t 9), []⟩,
            ⟨(some 12), none, .load 11 true (.t 11), []⟩,
            ⟨(some 5), none, .zero [.str ⟨#[]⟩, .str ⟨#[]⟩, .int .i64 0, .int .i64 0, .int .i64 0, .int .i64 0, .int .i64 0, .int .i64 0, .ns 4, .ns 4, .ns 4], []⟩,
            ⟨none, none, .store 11 (.t 5) (.t 12), []⟩] false)
        (.reg [⟨(some 13), none, .load 3 true (.t 3), []⟩,
          ⟨(some 14), none, .faddr 5 (.t 5), []⟩,
          ⟨(some 15), none, .load 3 true (.t 14), []⟩,
          ⟨(some 16), none, .call false (.f 13) [.t 13, .t 15], []⟩,
          ⟨none, none, .store 3 (.t 3) (.t 16), []⟩] false)))
    (.reg [⟨(some 17), none, .bin .add (.t 9) (.c (.int .i64 1)), []⟩,
      ⟨(some 9), none, .mov (.t 17), []⟩] false)))
def resource_Limits_c : IR :=
  .seq (.reg [⟨(some 1), none, .box 10 (.t 0), []⟩,
      ⟨(some 2), none, .zero [.int .i64 0, .int .i64 0, .int .i64 0], []⟩] false)
  (.seq (.reg [⟨(some 3), none, .zero [.int .i64 0, .int .i64 0, .int .i64 0], []⟩] false)
  (.seq (.seq (.reg [⟨(some 6), none, .faddr 4 (.t 1), []⟩,
        ⟨(some 7), none, .load 1 false (.t 6), []⟩,
        ⟨(some 8), none, .len false (.t 7), []⟩,
        ⟨(some 9), none, .mov (.c (.int .i64 0)), []⟩] false)
    (.block 0 (.loop resource_Limits_b0_live resource_Limits_b0)))
  (.seq (.reg [⟨(some 18), none, .load 3 true (.t 3), []⟩,
      ⟨none, none, .store 3 (.t 2) (.t 18), []⟩] false)
  (.ret))))
def resource_Limits : IFn := ⟨1, 19, [.cell 2 3 true], false, resource_Limits_c⟩

/-- function 22: orchestrator/ orchestratorref02.Limits -/
def ref02_Limits_b0_live : List Nat := [100006, 1, 2, 3, 4]
def ref02_Limits_b0 : IR :=
  .seq (.seq (.reg [⟨(some 6), none, .mov (.t 4), []⟩,
          ⟨(some 7), none, .faddr 4 (.t 1), []⟩,
          ⟨(some 8), none, .load 1 false (.t 7), []⟩,
          ⟨(some 9), none, .len false (.t 8), []⟩,
          ⟨(some 10), none, .bin .lss (.t 6) (.t 9), []⟩] false)
      (.cond (.t 10) (.skip)
        (.exit 0)))
    (.seq (.block 1 (.reg [⟨(some 13), none, .load 3 true (.t 3), []⟩,
          ⟨(some 14), none, .faddr 4 (.t 1), []⟩,
          ⟨(some 15), none, .load 1 false (.t 14), [1]⟩,
          ⟨(some 16), none, .mov (.t 4), []⟩,
          ⟨(some 17), none, .iaddr 11 (.t 15) (.t 16), [1, 2, 3]⟩,
          ⟨(some 18), none, .faddr 5 (.t 17), [1, 2, 3, 4]⟩,
          ⟨(some 19), none, .load 3 true (.t 18), [1, 2, 3, 4, 5]⟩,
          ⟨(some 20), none, .call false (.f 14) [.t 13, .t 19], [0, 1, 2, 3, 4, 5, 6]⟩,
          ⟨none, none, .store 3 (.t 3) (.t 20), [0, 1, 2, 3, 4, 5, 6, 7]⟩] true))
    (.reg [⟨(some 11), none, .mov (.t 4), []⟩,
      ⟨(some 12), none, .bin .add (.t 11) (.c (.int .i64 1)), []⟩,
      ⟨(some 4), none, .mov (.t 12), []⟩] false))
def ref02_Limits_c : IR :=
  .seq (.reg [⟨(some 1), none, .box 10 (.t 0), []⟩,
      ⟨(some 2), none, .zero [.int .i64 0, .int .i64 0, .int .i64 0], []⟩] false)
  (.seq (.reg [⟨(some 5), none, .build [.int .i64 0, .int .i64 0, .int .i64 0] [], []⟩,
      ⟨(some 3), none, .zero [.int .i64 0, .int .i64 0, .int .i64 0], []⟩,
      ⟨none, none, .store 3 (.t 3) (.t 5), []⟩] false)
  (.seq (.seq (.reg [⟨(some 4), none, .mov (.c (.int .i64 0)), []⟩] false)
    (.block 0 (.loop ref02_Limits_b0_live ref02_Limits_b0)))
  (.seq (.reg [⟨(some 21), none, .load 3 true (.t 3), []⟩,
      ⟨none, none, .store 3 (.t 2) (.t 21), []⟩] false)
  (.ret))))
def ref02_Limits : IFn := ⟨1, 22, [.cell 2 3 true], false, ref02_Limits_c⟩

/-- function 23: orchestrator/ orchestratorlaw22.Small -/
def law22_Small_b0_live : List Nat := [100007, 8, 9, 10]
def law22_Small_b0 : IR :=
  .seq (.reg [⟨(some 11), none, .bin .lss (.t 10) (.t 9), []⟩] false)
    (.seq (.cond (.t 11) (.skip)
        (.exit 0))
    (.seq (.block 1 (.seq (.reg [⟨(some 12), none, .iaddr 32 (.t 8) (.t 10), []⟩,
            ⟨(some 13), none, .load 32 true (.t 12), []⟩,
            ⟨(some 4), none, .zero [.str ⟨#[]⟩, .str ⟨#[]⟩, .str ⟨#[]⟩, .int .i64 0, .int .i64 0, .int .i64 0, .int .i64 0, .bool false, .int .i64 0, .ns 2, .ns 5, .ns 1, .ns 2, .str ⟨#[]⟩, .int .i64 0, .int .i64 0, .int .i64 0, .ns 11, .ns 3, .ns 3, .ns 5, .ns 4, .ns 5, .int .i64 0, .bool false, .int .i64 0, .int .i64 0, .int .i64 0, .ns 7, .int .i64 0, .str ⟨#[]⟩, .str ⟨#[]⟩], []⟩,
            ⟨none, none, .store 32 (.t 4) (.t 13), []⟩] false)
        (.seq (.reg [⟨(some 14), none, .load 32 true (.t 4), []⟩,
            ⟨(some 15), none, .call false (.f 24) [.t 14], []⟩,
            ⟨(some 16), none, .un .not (.t 15), []⟩] false)
        (.cond (.t 16) (.seq (.reg [⟨(some 2), none, .mov (.c (.bool false)), []⟩] false)
          (.ret))
          (.skip)))))
    (.reg [⟨(some 17), none, .bin .add (.t 10) (.c (.int .i64 1)), []⟩,
      ⟨(some 10), none, .mov (.t 17), []⟩] false)))
def law22_Small_c : IR :=
  .seq (.reg [⟨(some 2), none, .mov (.c (.bool false)), []⟩] false)
  (.seq (.seq (.reg [⟨(some 5), none, .mov (.t 0), []⟩,
        ⟨(some 6), none, .len false (.t 5), []⟩,
        ⟨(some 7), none, .bin .gtr (.t 6) (.c (.int .i64 20)), []⟩] false)
    (.cond (.t 7) (.seq (.reg [⟨(some 2), none, .mov (.c (.bool false)), []⟩] false)
      (.ret))
      (.skip)))
  (.seq (.seq (.reg [⟨(some 8), none, .mov (.t 0), []⟩,
        ⟨(some 9), none, .len false (.t 8), []⟩,
        ⟨(some 10), none, .mov (.c (.int .i64 0)), []⟩] false)
    (.block 0 (.loop law22_Small_b0_live law22_Small_b0)))
  (.seq (.reg [⟨(some 2), none, .mov (.c (.bool true)), []⟩] false)
  (.ret))))
def law22_Small : IFn := ⟨1, 18, [.tmp 2], false, law22_Small_c⟩

/-- function 24: orchestrator/ orchestratorlaw19.SmallPod -/
def law19_SmallPod_c : IR :=
  .seq (.reg [⟨(some 1), none, .box 32 (.t 0), []⟩,
      ⟨(some 2), none, .mov (.c (.bool false)), []⟩] false)
  (.seq (.reg [⟨(some 4), none, .load 32 true (.t 1), []⟩,
      ⟨(some 5), none, .call false (.f 40) [.t 4], []⟩,
      ⟨(some 3), none, .zero [.str ⟨#[]⟩, .str ⟨#[]⟩, .str ⟨#[]⟩, .int .i64 0, .int .i64 0, .int .i64 0, .int .i64 0, .bool false, .int .i64 0, .ns 2, .ns 5, .ns 1, .ns 2, .int .i64 0, .int .i64 0, .str ⟨#[]⟩, .ns 5, .ns 6, .int .i64 0, .int .i64 0, .str ⟨#[]⟩, .ns 5, .ns 6], []⟩,
      ⟨none, none, .store 23 (.t 3) (.t 5), []⟩] false)
  (.seq (.reg [⟨(some 6), none, .faddr 0 (.t 1), []⟩,
      ⟨(some 7), none, .load 13 true (.t 6), []⟩,
      ⟨(some 8), none, .call false (.f 25) [.t 7], []⟩,
      ⟨(some 9), none, .mov (.t 8), []⟩,
      ⟨(some 10), (some (9, true)), .faddr 13 (.t 3), []⟩,
      ⟨(some 11), (some (9, true)), .load 5 true (.t 10), []⟩,
      ⟨(some 12), (some (9, true)), .call false (.f 41) [.t 11, .c (.int .i64 20000)], []⟩,
      ⟨(some 13), none, .pick (.t 9) (.t 12) (.c (.bool false)), []⟩,
      ⟨(some 14), none, .mov (.t 13), []⟩,
      ⟨(some 15), (some (14, true)), .faddr 18 (.t 3), []⟩,
      ⟨(some 16), (some (14, true)), .load 5 true (.t 15), []⟩,
      ⟨(some 17), (some (14, true)), .call false (.f 41) [.t 16, .c (.int .i64 20000)], []⟩,
      ⟨(some 18), none, .pick (.t 14) (.t 17) (.c (.bool false)), []⟩,
      ⟨(some 2), none, .mov (.t 18), []⟩] false)
  (.ret)))
def law19_SmallPod : IFn := ⟨1, 19, [.tmp 2], false, law19_SmallPod_c⟩

/-- function 25: orchestrator/ orchestratorlaw19.SmallMeta -/
def law19_SmallMeta_b4_live : List Nat := [100012, 93, 94, 95, 110, 111, 112]
def law19_SmallMeta_b4 : IR :=
  .seq (.reg [⟨(some 113), none, .bin .lss (.t 112) (.t 111), []⟩] false)
    (.seq (.cond (.t 113) (.skip)
        (.exit 8))
    (.seq (.block 9 (.seq (.reg [⟨(some 114), none, .iaddr 1 (.t 110) (.t 112), []⟩,
            ⟨(some 115), none, .load 1 false (.t 114), []⟩,
            ⟨(some 12), none, .mov (.t 115), []⟩] false)
        (.seq (.reg [⟨(some 116), none, .mov (.t 12), []⟩,
            ⟨(some 117), none, .len true (.t 116), []⟩,
            ⟨(some 118), none, .bin .gtr (.t 117) (.c (.int .i64 2000)), []⟩] false)
        (.cond (.t 118) (.seq (.reg [⟨(some 2), none, .mov (.c (.bool false)), []⟩] false)
          (.ret))
          (.skip)))))
    (.reg [⟨(some 119), none, .bin .add (.t 112) (.c (.int .i64 1)), []⟩,
      ⟨(some 112), none, .mov (.t 119), []⟩] false)))
def law19_SmallMeta_b3_live : List Nat := [100011, 93, 94, 95]
def law19_SmallMeta_b3 : IR :=
  .seq (.reg [⟨(some 96), none, .bin .lss (.t 95) (.t 94), []⟩] false)
    (.seq (.cond (.t 96) (.skip)
        (.exit 6))
    (.seq (.block 7 (.seq (.reg [⟨(some 97), none, .iaddr 2 (.t 93) (.t 95), []⟩,
            ⟨(some 98), none, .load 2 true (.t 97), []⟩,
            ⟨(some 10), none, .zero [.str ⟨#[]⟩, .ns 1], []⟩,
            ⟨none, none, .store 2 (.t 10) (.t 98), []⟩] false)
        (.seq (.seq (.reg [⟨(some 99), none, .faddr 0 (.t 10), []⟩,
              ⟨(some 100), none, .load 1 false (.t 99), []⟩,
              ⟨(some 101), none, .len true (.t 100), []⟩,
              ⟨(some 102), none, .bin .gtr (.t 101) (.c (.int .i64 400)), []⟩,
              ⟨(some 103), none, .mov (.t 102), []⟩,
              ⟨(some 104), (some (103, false)), .faddr 1 (.t 10), []⟩,
              ⟨(some 105), (some (103, false)), .load 1 false (.t 104), []⟩,
              ⟨(some 106), (some (103, false)), .len false (.t 105), []⟩,
              ⟨(some 107), (some (103, false)), .bin .gtr (.t 106) (.c (.int .i64 200)), []⟩,
              ⟨(some 108), none, .pick (.t 103) (.c (.bool true)) (.t 107), []⟩] false)
          (.cond (.t 108) (.seq (.reg [⟨(some 2), none, .mov (.c (.bool false)), []⟩] false)
            (.ret))
            (.skip)))
        (.seq (.reg [⟨(some 109), none, .faddr 1 (.t 10), []⟩,
            ⟨(some 110), none, .load 1 false (.t 109), []⟩,
            ⟨(some 111), none, .len false (.t 110), []⟩,
            ⟨(some 112), none, .mov (.c (.int .i64 0)), []⟩] false)
        (.block 8 (.loop law19_SmallMeta_b4_live law19_SmallMeta_b4))))))
    (.reg [⟨(some 120), none, .bin .add (.t 95) (.c (.int .i64 1)), []⟩,
      ⟨(some 95), none, .mov (.t 120), []⟩] false)))
def law19_SmallMeta_b2_live : List Nat := [100010, 1, 82, 83, 84]
def law19_SmallMeta_b2 : IR :=
  .seq (.reg [⟨(some 85), none, .bin .lss (.t 84) (.t 83), []⟩] false)
    (.seq (.cond (.t 85) (.skip)
        (.exit 4))
    (.seq (.block 5 (.seq (.reg [⟨(some 86), none, .iaddr 1 (.t 82) (.t 84), []⟩,
            ⟨(some 87), none, .load 1 false (.t 86), []⟩,
            ⟨(some 8), none, .mov (.t 87), []⟩] false)
        (.seq (.reg [⟨(some 88), none, .mov (.t 8), []⟩,
            ⟨(some 89), none, .len true (.t 88), []⟩,
            ⟨(some 90), none, .bin .gtr (.t 89) (.c (.int .i64 400)), []⟩] false)
        (.cond (.t 90) (.seq (.reg [⟨(some 2), none, .mov (.c (.bool false)), []⟩] false)
          (.ret))
          (.skip)))))
    (.reg [⟨(some 91), none, .bin .add (.t 84) (.c (.int .i64 1)), []⟩,
      ⟨(some 84), none, .mov (.t 91), []⟩] false)))
def law19_SmallMeta_b1_live : List Nat := [100009, 1, 66, 67, 68]
def law19_SmallMeta_b1 : IR :=
  .seq (.reg [⟨(some 69), none, .bin .lss (.t 68) (.t 67), []⟩] false)
    (.seq (.cond (.t 69) (.skip)
        (.exit 2))
    (.seq (.block 3 (.seq (.reg [⟨(some 70), none, .iaddr 5 (.t 66) (.t 68), []⟩,
            ⟨(some 71), none, .load 5 true (.t 70), []⟩,
            ⟨(some 6), none, .zero [.str ⟨#[]⟩, .str ⟨#[]⟩, .int .i64 0, .bool false, .bool false], []⟩,
            ⟨none, none, .store 5 (.t 6) (.t 71), []⟩] false)
        (.seq (.reg [⟨(some 72), none, .faddr 0 (.t 6), []⟩,
            ⟨(some 73), none, .load 1 false (.t 72), []⟩,
            ⟨(some 74), none, .len true (.t 73), []⟩,
            ⟨(some 75), none, .faddr 1 (.t 6), []⟩,
            ⟨(some 76), none, .load 1 false (.t 75), []⟩,
            ⟨(some 77), none, .len true (.t 76), []⟩,
            ⟨(some 78), none, .bin .add (.t 74) (.t 77), []⟩,
            ⟨(some 79), none, .bin .gtr (.t 78) (.c (.int .i64 400)), []⟩] false)
        (.cond (.t 79) (.seq (.reg [⟨(some 2), none, .mov (.c (.bool false)), []⟩] false)
          (.ret))
          (.skip)))))
    (.reg [⟨(some 80), none, .bin .add (.t 68) (.c (.int .i64 1)), []⟩,
      ⟨(some 68), none, .mov (.t 80), []⟩] false)))
def law19_SmallMeta_b0_live : List Nat := [100008, 1, 50, 51, 52]
def law19_SmallMeta_b0 : IR :=
  .seq (.reg [⟨(some 53), none, .bin .lss (.t 52) (.t 51), []⟩] false)
    (.seq (.cond (.t 53) (.skip)
        (.exit 0))
    (.seq (.block 1 (.seq (.reg [⟨(some 54), none, .iaddr 2 (.t 50) (.t 52), []⟩,
            ⟨(some 55), none, .load 2 true (.t 54), []⟩,
            ⟨(some 4), none, .zero [.str ⟨#[]⟩, .str ⟨#[]⟩], []⟩,
            ⟨none, none, .store 2 (.t 4) (.t 55), []⟩] false)
        (.seq (.reg [⟨(some 56), none, .faddr 0 (.t 4), []⟩,
            ⟨(some 57), none, .load 1 false (.t 56), []⟩,
            ⟨(some 58), none, .len true (.t 57), []⟩,
            ⟨(some 59), none, .faddr 1 (.t 4), []⟩,
            ⟨(some 60), none, .load 1 false (.t 59), []⟩,
            ⟨(some 61), none, .len true (.t 60), []⟩,
            ⟨(some 62), none, .bin .add (.t 58) (.t 61), []⟩,
            ⟨(some 63), none, .bin .gtr (.t 62) (.c (.int .i64 400)), []⟩] false)
        (.cond (.t 63) (.seq (.reg [⟨(some 2), none, .mov (.c (.bool false)), []⟩] false)
          (.ret))
          (.skip)))))
    (.reg [⟨(some 64), none, .bin .add (.t 52) (.c (.int .i64 1)), []⟩,
      ⟨(some 52), none, .mov (.t 64), []⟩] false)))
def law19_SmallMeta_c : IR :=
  .seq (.reg [⟨(some 1), none, .box 13 (.t 0), []⟩,
      ⟨(some 2), none, .mov (.c (.bool false)), []⟩] false)
  (.seq (.seq (.reg [⟨(some 13), none, .faddr 9 (.t 1), []⟩,
        ⟨(some 14), none, .load 1 false (.t 13), []⟩,
        ⟨(some 15), none, .len false (.t 14), []⟩,
        ⟨(some 16), none, .bin .gtr (.t 15) (.c (.int .i64 60)), []⟩,
        ⟨(some 17), none, .mov (.t 16), []⟩,
        ⟨(some 18), (some (17, false)), .faddr 10 (.t 1), []⟩,
        ⟨(some 19), (some (17, false)), .load 1 false (.t 18), []⟩,
        ⟨(some 20), (some (17, false)), .len false (.t 19), []⟩,
        ⟨(some 21), (some (17, false)), .bin .gtr (.t 20) (.c (.int .i64 60)), []⟩,
        ⟨(some 22), none, .pick (.t 17) (.c (.bool true)) (.t 21), []⟩,
        ⟨(some 23), none, .mov (.t 22), []⟩,
        ⟨(some 24), (some (23, false)), .faddr 11 (.t 1), []⟩,
        ⟨(some 25), (some (23, false)), .load 1 false (.t 24), []⟩,
        ⟨(some 26), (some (23, false)), .len false (.t 25), []⟩,
        ⟨(some 27), (some (23, false)), .bin .gtr (.t 26) (.c (.int .i64 60)), []⟩,
        ⟨(some 28), none, .pick (.t 23) (.c (.bool true)) (.t 27), []⟩,
        ⟨(some 29), none, .mov (.t 28), []⟩,
        ⟨(some 30), (some (29, false)), .faddr 12 (.t 1), []⟩,
        ⟨(some 31), (some (29, false)), .load 1 false (.t 30), []⟩,
        ⟨(some 32), (some (29, false)), .len false (.t 31), []⟩,
        ⟨(some 33), (some (29, false)), .bin .gtr (.t 32) (.c (.int .i64 60)), []⟩,
        ⟨(some 34), none, .pick (.t 29) (.c (.bool true)) (.t 33), []⟩,
        ⟨(some 35), none, .mov (.t 34), []⟩,
        ⟨(some 36), (some (35, false)), .faddr 0 (.t 1), []⟩,
        ⟨(some 37), (some (35, false)), .load 1 false (.t 36), []⟩,
        ⟨(some 38), (some (35, false)), .len true (.t 37), []⟩,
        ⟨(some 39), (some (35, false)), .faddr 1 (.t 1), []⟩,
        ⟨(some 40), (some (35, false)), .load 1 false (.t 39), []⟩,
        ⟨(some 41), (some (35, false)), .len true (.t 40), []⟩,
        ⟨(some 42), (some (35, false)), .bin .add (.t 38) (.t 41), []⟩,
        ⟨(some 43), (some (35, false)), .faddr 2 (.t 1), []⟩,
        ⟨(some 44), (some (35, false)), .load 1 false (.t 43), []⟩,
        ⟨(some 45), (some (35, false)), .len true (.t 44), []⟩,
        ⟨(some 46), (some (35, false)), .bin .add (.t 42) (.t 45), []⟩,
        ⟨(some 47), (some (35, false)), .bin .gtr (.t 46) (.c (.int .i64 400)), []⟩,
        ⟨(some 48), none, .pick (.t 35) (.c (.bool true)) (.t 47), []⟩] false)
    (.cond (.t 48) (.seq (.reg [⟨(some 2), none, .mov (.c (.bool false)), []⟩] false)
      (.ret))
      (.skip)))
  (.seq (.seq (.reg [⟨(some 49), none, .faddr 9 (.t 1), []⟩,
        ⟨(some 50), none, .load 1 false (.t 49), []⟩,
        ⟨(some 51), none, .len false (.t 50), []⟩,
        ⟨(some 52), none, .mov (.c (.int .i64 0)), []⟩] false)
    (.block 0 (.loop law19_SmallMeta_b0_live law19_SmallMeta_b0)))
  (.seq (.seq (.reg [⟨(some 65), none, .faddr 10 (.t 1), []⟩,
        ⟨(some 66), none, .load 1 false (.t 65), []⟩,
        ⟨(some 67), none, .len false (.t 66), []⟩,
        ⟨(some 68), none, .mov (.c (.int .i64 0)), []⟩] false)
    (.block 2 (.loop law19_SmallMeta_b1_live law19_SmallMeta_b1)))
  (.seq (.seq (.reg [⟨(some 81), none, .faddr 11 (.t 1), []⟩,
        ⟨(some 82), none, .load 1 false (.t 81), []⟩,
        ⟨(some 83), none, .len false (.t 82), []⟩,
        ⟨(some 84), none, .mov (.c (.int .i64 0)), []⟩] false)
    (.block 4 (.loop law19_SmallMeta_b2_live law19_SmallMeta_b2)))
  (.seq (.seq (.reg [⟨(some 92), none, .faddr 12 (.t 1), []⟩,
        ⟨(some 93), none, .load 1 false (.t 92), []⟩,
        ⟨(some 94), none, .len false (.t 93), []⟩,
        ⟨(some 95), none, .mov (.c (.int .i64 0)), []⟩] false)
    (.block 6 (.loop law19_SmallMeta_b3_live law19_SmallMeta_b3)))
  (.seq (.reg [⟨(some 2), none, .mov (.c (.bool true)), []⟩] false)
  (.ret)))))))
def law19_SmallMeta : IFn := ⟨1, 121, [.tmp 2], false, law19_SmallMeta_c⟩

/-- function 26: orchestrator/ orchestratorlaw22.lives -/
def law22_lives_c : IR :=
  .seq (.reg [⟨(some 0), none, .mov (.c (.bool false)), []⟩] false)
  (.seq (.reg [⟨(some 4), none, .build [.str ⟨#[]⟩, .str ⟨#[]⟩, .str ⟨#[]⟩, .int .i64 0, .int .i64 0, .int .i64 0, .int .i64 0, .bool false, .int .i64 0, .ns 2, .ns 5, .ns 1, .ns 2] [(1, 1, .c (.str ⟨#[110]⟩))], []⟩,
      ⟨(some 5), none, .build [.int .i64 0, .int .i64 0, .int .i64 0] [(0, 1, .c (.int .i64 500))], []⟩,
      ⟨(some 6), none, .build [.str ⟨#[]⟩, .str ⟨#[]⟩, .str ⟨#[]⟩, .int .i64 0, .int .i64 0, .int .i64 0, .int .i64 0, .bool false, .int .i64 0, .ns 2, .ns 5, .ns 1, .ns 2, .int .i64 0, .int .i64 0, .int .i64 0, .int .i64 0, .int .i64 0, .int .i64 0, .int .i64 0, .int .i64 0] [(0, 13, .t 4), (13, 3, .t 5), (19, 1, .c (.int .i64 2))], []⟩,
      ⟨(some 1), none, .zero [.str ⟨#[]⟩, .str ⟨#[]⟩, .str ⟨#[]⟩, .int .i64 0, .int .i64 0, .int .i64 0, .int .i64 0, .bool false, .int .i64 0, .ns 2, .ns 5, .ns 1, .ns 2, .int .i64 0, .int .i64 0, .int .i64 0, .int .i64 0, .int .i64 0, .int .i64 0, .int .i64 0, .int .i64 0], []⟩,
      ⟨none, none, .store 21 (.t 1) (.t 6), []⟩] false)
  (.seq (.reg [⟨(some 7), none, .call false (.f 42) [.c (.int .i64 300)], []⟩,
      ⟨(some 8), none, .lit 32 1 [.str ⟨#[]⟩, .str ⟨#[]⟩, .str ⟨#[]⟩, .int .i64 0, .int .i64 0, .int .i64 0, .int .i64 0, .bool false, .int .i64 0, .ns 2, .ns 5, .ns 1, .ns 2, .str ⟨#[]⟩, .int .i64 0, .int .i64 0, .int .i64 0, .ns 11, .ns 3, .ns 3, .ns 5, .ns 4, .ns 5, .int .i64 0, .bool false, .int .i64 0, .int .i64 0, .int .i64 0, .ns 7, .int .i64 0, .str ⟨#[]⟩, .str ⟨#[]⟩] [(0, .t 7)], []⟩,
      ⟨(some 2), none, .mov (.t 8), []⟩] false)
  (.seq (.reg [⟨(some 9), none, .load 21 true (.t 1), []⟩,
      ⟨(some 10), none, .mov (.t 2), []⟩,
      ⟨(some 11), none, .call false (.f 29) [.t 9, .t 10], []⟩,
      ⟨(some 3), none, .zero [.str ⟨#[]⟩, .str ⟨#[]⟩, .str ⟨#[]⟩, .int .i64 0, .int .i64 0, .int .i64 0, .int .i64 0, .bool false, .int .i64 0, .ns 2, .ns 5, .ns 1, .ns 2, .int .i64 0, .int .i64 0, .int .i64 0, .int .i64 0, .int .i64 0, .int .i64 0, .int .i64 0, .int .i64 0], []⟩,
      ⟨none, none, .store 21 (.t 3) (.t 11), []⟩] false)
  (.seq (.reg [⟨(some 12), none, .load 21 true (.t 1), []⟩,
      ⟨(some 13), none, .mov (.t 2), []⟩,
      ⟨(some 14), none, .call false (.f 42) [.c (.int .i64 200)], []⟩,
      ⟨(some 15), none, .call false (.f 31) [.t 12, .t 13, .t 14], [0, 1, 2]⟩,
      ⟨(some 16), none, .bin .eql (.t 15) (.c (.int .i64 0)), [0, 1, 2, 3]⟩,
      ⟨(some 17), none, .mov (.t 16), [0, 1, 2, 3, 4]⟩,
      ⟨(some 18), (some (17, true)), .load 21 true (.t 1), [0, 1, 2, 3, 4, 5]⟩,
      ⟨(some 19), (some (17, true)), .mov (.t 2), [0, 1, 2, 3, 4, 5]⟩,
      ⟨(some 20), (some (17, true)), .call false (.f 42) [.c (.int .i64 201)], [0, 1, 2, 3, 4, 5]⟩,
      ⟨(some 21), (some (17, true)), .call false (.f 31) [.t 18, .t 19, .t 20], [0, 1, 2, 3, 4, 5, 6, 7, 8]⟩,
      ⟨(some 22), (some (17, true)), .bin .eql (.t 21) (.c (.int .i64 12)), [0, 1, 2, 3, 4, 5, 6, 7, 8, 9]⟩,
      ⟨(some 23), none, .pick (.t 17) (.t 22) (.c (.bool false)), [0, 1, 2, 3, 4, 5, 6, 7, 8, 9, 10]⟩,
      ⟨(some 24), none, .mov (.t 23), [0, 1, 2, 3, 4, 5, 6, 7, 8, 9, 10, 11]⟩,
      ⟨(some 25), (some (24, true)), .load 21 true (.t 1), [0, 1, 2, 3, 4, 5, 6, 7, 8, 9, 10, 11, 12]⟩,
      ⟨(some 26), (some (24, true)), .mov (.t 2), [0, 1, 2, 3, 4, 5, 6, 7, 8, 9, 10, 11, 12]⟩,
      ⟨(some 27), (some (24, true)), .call false (.f 42) [.c (.int .i64 0)], [0, 1, 2, 3, 4, 5, 6, 7, 8, 9, 10, 11, 12]⟩,
      ⟨(some 28), (some (24, true)), .lit 32 1 [.str ⟨#[]⟩, .str ⟨#[]⟩, .str ⟨#[]⟩, .int .i64 0, .int .i64 0, .int .i64 0, .int .i64 0, .bool false, .int .i64 0, .ns 2, .ns 5, .ns 1, .ns 2, .str ⟨#[]⟩, .int .i64 0, .int .i64 0, .int .i64 0, .ns 11, .ns 3, .ns 3, .ns 5, .ns 4, .ns 5, .int .i64 0, .bool false, .int .i64 0, .int .i64 0, .int .i64 0, .ns 7, .int .i64 0, .str ⟨#[]⟩, .str ⟨#[]⟩] [(0, .t 27)], [0, 1, 2, 3, 4, 5, 6, 7, 8, 9, 10, 11, 12, 15]⟩,
      ⟨(some 29), (some (24, true)), .append 32 480 (.t 26) (.t 28), [0, 1, 2, 3, 4, 5, 6, 7, 8, 9, 10, 11, 12, 14, 15, 16]⟩,
      ⟨(some 30), (some (24, true)), .call false (.f 42) [.c (.int .i64 0)], [0, 1, 2, 3, 4, 5, 6, 7, 8, 9, 10, 11, 12, 14, 15, 16, 17]⟩,
      ⟨(some 31), (some (24, true)), .call false (.f 31) [.t 25, .t 29, .t 30], [0, 1, 2, 3, 4, 5, 6, 7, 8, 9, 10, 11, 12, 13, 14, 15, 16, 17, 18]⟩,
      ⟨(some 32), (some (24, true)), .bin .eql (.t 31) (.c (.int .i64 12)), [0, 1, 2, 3, 4, 5, 6, 7, 8, 9, 10, 11, 12, 13, 14, 15, 16, 17, 18, 19]⟩,
      ⟨(some 33), none, .pick (.t 24) (.t 32) (.c (.bool false)), [0, 1, 2, 3, 4, 5, 6, 7, 8, 9, 10, 11, 12, 13, 14, 15, 16, 17, 18, 19, 20]⟩,
      ⟨(some 34), none, .mov (.t 33), [0, 1, 2, 3, 4, 5, 6, 7, 8, 9, 10, 11, 12, 13, 14, 15, 16, 17, 18, 19, 20, 21]⟩,
      ⟨(some 35), (some (34, true)), .faddr 16 (.t 3), [0, 1, 2, 3, 4, 5, 6, 7, 8, 9, 10, 11, 12, 13, 14, 15, 16, 17, 18, 19, 20, 21, 22]⟩,
      ⟨(some 36), (some (34, true)), .faddr 0 (.t 35), [0, 1, 2, 3, 4, 5, 6, 7, 8, 9, 10, 11, 12, 13, 14, 15, 16, 17, 18, 19, 20, 21, 22, 23]⟩,
      ⟨(some 37), (some (34, true)), .load 1 false (.t 36), [0, 1, 2, 3, 4, 5, 6, 7, 8, 9, 10, 11, 12, 13, 14, 15, 16, 17, 18, 19, 20, 21, 22, 23, 24]⟩,
      ⟨(some 38), (some (34, true)), .bin .eql (.t 37) (.c (.int .i64 300)), [0, 1, 2, 3, 4, 5, 6, 7, 8, 9, 10, 11, 12, 13, 14, 15, 16, 17, 18, 19, 20, 21, 22, 23, 24, 25]⟩,
      ⟨(some 39), none, .pick (.t 34) (.t 38) (.c (.bool false)), [0, 1, 2, 3, 4, 5, 6, 7, 8, 9, 10, 11, 12, 13, 14, 15, 16, 17, 18, 19, 20, 21, 22, 23, 24, 25, 26]⟩,
      ⟨(some 40), none, .mov (.t 39), [0, 1, 2, 3, 4, 5, 6, 7, 8, 9, 10, 11, 12, 13, 14, 15, 16, 17, 18, 19, 20, 21, 22, 23, 24, 25, 26, 27]⟩,
      ⟨(some 41), (some (40, true)), .faddr 20 (.t 3), [0, 1, 2, 3, 4, 5, 6, 7, 8, 9, 10, 11, 12, 13, 14, 15, 16, 17, 18, 19, 20, 21, 22, 23, 24, 25, 26, 27, 28]⟩,
      ⟨(some 42), (some (40, true)), .load 1 false (.t 41), [0, 1, 2, 3, 4, 5, 6, 7, 8, 9, 10, 11, 12, 13, 14, 15, 16, 17, 18, 19, 20, 21, 22, 23, 24, 25, 26, 27, 28, 29]⟩,
      ⟨(some 43), (some (40, true)), .bin .eql (.t 42) (.c (.int .i64 1)), [0, 1, 2, 3, 4, 5, 6, 7, 8, 9, 10, 11, 12, 13, 14, 15, 16, 17, 18, 19, 20, 21, 22, 23, 24, 25, 26, 27, 28, 29, 30]⟩,
      ⟨(some 44), none, .pick (.t 40) (.t 43) (.c (.bool false)), [0, 1, 2, 3, 4, 5, 6, 7, 8, 9, 10, 11, 12, 13, 14, 15, 16, 17, 18, 19, 20, 21, 22, 23, 24, 25, 26, 27, 28, 29, 30, 31]⟩,
      ⟨(some 0), none, .mov (.t 44), [0, 1, 2, 3, 4, 5, 6, 7, 8, 9, 10, 11, 12, 13, 14, 15, 16, 17, 18, 19, 20, 21, 22, 23, 24, 25, 26, 27, 28, 29, 30, 31, 32]⟩] true)
  (.ret)))))
def law22_lives : IFn := ⟨0, 45, [.tmp 0], false, law22_lives_c⟩

/-- function 27: orchestrator/ quota.Usage -/
def quota_Usage_b0_live : List Nat := [100013, 2, 4, 5, 8, 9, 10]
def quota_Usage_b0 : IR :=
  .seq (.reg [⟨(some 11), none, .bin .lss (.t 10) (.t 9), []⟩] false)
    (.seq (.cond (.t 11) (.skip)
        (.exit 0))
    (.seq (.block 1 (.seq (.reg [⟨(some 12), none, .iaddr 32 (.t 8) (.t 10), []⟩,
            ⟨(some 13), none, .load 32 true (.t 12), []⟩,
            ⟨(some 7), none, .zero [.str ⟨#[]⟩, .str ⟨#[]⟩, .str ⟨#[]⟩, .int .i64 0, .int .i64 0, .int .i64 0, .int .i64 0, .bool false, .int .i64 0, .ns 2, .ns 5, .ns 1, .ns 2, .str ⟨#[]⟩, .int .i64 0, .int .i64 0, .int .i64 0, .ns 11, .ns 3, .ns 3, .ns 5, .ns 4, .ns 5, .int .i64 0, .bool false, .int .i64 0, .int .i64 0, .int .i64 0, .ns 7, .int .i64 0, .str ⟨#[]⟩, .str ⟨#[]⟩], []⟩,
            ⟨none, none, .store 32 (.t 7) (.t 13), []⟩] false)
        (.seq (.reg [⟨(some 14), none, .load 32 true (.t 7), []⟩,
            ⟨(some 15), none, .call false (.f 43) [.t 14], []⟩] false)
        (.cond (.t 15) (.seq (.reg [⟨(some 16), none, .load 3 true (.t 4), []⟩,
              ⟨(some 17), none, .faddr 13 (.t 7), []⟩,
              ⟨(some 18), none, .load 10 true (.t 17), [1]⟩,
              ⟨(some 19), none, .call false (.f 19) [.t 18], [1, 2]⟩,
              ⟨(some 20), none, .call false (.f 13) [.t 16, .t 19], [0, 1, 2, 3]⟩,
              ⟨none, none, .store 3 (.t 4) (.t 20), [0, 1, 2, 3, 4]⟩] true)
          (.reg [⟨(some 21), none, .mov (.t 5), []⟩,
            ⟨(some 22), none, .bin .add (.t 21) (.c (.int .i64 1)), []⟩,
            ⟨(some 5), none, .mov (.t 22), []⟩] false))
          (.skip)))))
    (.reg [⟨(some 23), none, .bin .add (.t 10) (.c (.int .i64 1)), []⟩,
      ⟨(some 10), none, .mov (.t 23), []⟩] false)))
def quota_Usage_c : IR :=
  .seq (.reg [⟨(some 2), none, .zero [.int .i64 0, .int .i64 0, .int .i64 0], []⟩,
      ⟨(some 3), none, .mov (.c (.int .i64 0)), []⟩] false)
  (.seq (.reg [⟨(some 4), none, .zero [.int .i64 0, .int .i64 0, .int .i64 0], []⟩] false)
  (.seq (.reg [⟨(some 5), none, .mov (.c (.int .i64 0)), []⟩] false)
  (.seq (.seq (.reg [⟨(some 8), none, .mov (.t 0), []⟩,
        ⟨(some 9), none, .len false (.t 8), []⟩,
        ⟨(some 10), none, .mov (.c (.int .i64 0)), []⟩] false)
    (.block 0 (.loop quota_Usage_b0_live quota_Usage_b0)))
  (.seq (.reg [⟨(some 24), none, .load 3 true (.t 4), []⟩,
      ⟨(some 25), none, .mov (.t 5), []⟩,
      ⟨none, none, .store 3 (.t 2) (.t 24), []⟩,
      ⟨(some 3), none, .mov (.t 25), []⟩] false)
  (.ret)))))
def quota_Usage : IFn := ⟨1, 26, [.cell 2 3 true, .tmp 3], false, quota_Usage_c⟩

/-- function 28: orchestrator/ orchestratorref22.Usage -/
def ref22_Usage_b0_live : List Nat := [100014, 0, 2, 4, 5, 6]
def ref22_Usage_b0 : IR :=
  .seq (.seq (.reg [⟨(some 8), none, .mov (.t 6), []⟩,
          ⟨(some 9), none, .mov (.t 0), []⟩,
          ⟨(some 10), none, .len false (.t 9), []⟩,
          ⟨(some 11), none, .bin .lss (.t 8) (.t 10), []⟩] false)
      (.cond (.t 11) (.skip)
        (.exit 0)))
    (.seq (.block 1 (.seq (.reg [⟨(some 14), none, .mov (.t 0), []⟩,
            ⟨(some 15), none, .mov (.t 6), []⟩,
            ⟨(some 16), none, .iaddr 32 (.t 14) (.t 15), []⟩,
            ⟨(some 17), none, .load 32 true (.t 16), []⟩,
            ⟨(some 18), none, .call false (.f 44) [.t 17], []⟩] false)
        (.cond (.t 18) (.seq (.reg [⟨(some 19), none, .load 3 true (.t 4), []⟩,
              ⟨(some 20), none, .mov (.t 0), []⟩,
              ⟨(some 21), none, .mov (.t 6), []⟩,
              ⟨(some 22), none, .iaddr 32 (.t 20) (.t 21), [1, 2]⟩,
              ⟨(some 23), none, .faddr 13 (.t 22), [1, 2, 3]⟩,
              ⟨(some 24), none, .load 10 true (.t 23), [1, 2, 3, 4]⟩,
              ⟨(some 25), none, .call false (.f 20) [.t 24], [1, 2, 3, 4, 5]⟩,
              ⟨(some 26), none, .call false (.f 14) [.t 19, .t 25], [0, 1, 2, 3, 4, 5, 6]⟩,
              ⟨none, none, .store 3 (.t 4) (.t 26), [0, 1, 2, 3, 4, 5, 6, 7]⟩] true)
          (.reg [⟨(some 27), none, .mov (.t 5), []⟩,
            ⟨(some 28), none, .bin .add (.t 27) (.c (.int .i64 1)), []⟩,
            ⟨(some 5), none, .mov (.t 28), []⟩] false))
          (.skip))))
    (.reg [⟨(some 12), none, .mov (.t 6), []⟩,
      ⟨(some 13), none, .bin .add (.t 12) (.c (.int .i64 1)), []⟩,
      ⟨(some 6), none, .mov (.t 13), []⟩] false))
def ref22_Usage_c : IR :=
  .seq (.reg [⟨(some 2), none, .zero [.int .i64 0, .int .i64 0, .int .i64 0], []⟩,
      ⟨(some 3), none, .mov (.c (.int .i64 0)), []⟩] false)
  (.seq (.reg [⟨(some 7), none, .build [.int .i64 0, .int .i64 0, .int .i64 0] [], []⟩,
      ⟨(some 4), none, .zero [.int .i64 0, .int .i64 0, .int .i64 0], []⟩,
      ⟨none, none, .store 3 (.t 4) (.t 7), []⟩] false)
  (.seq (.reg [⟨(some 5), none, .mov (.c (.int .i64 0)), []⟩] false)
  (.seq (.seq (.reg [⟨(some 6), none, .mov (.c (.int .i64 0)), []⟩] false)
    (.block 0 (.loop ref22_Usage_b0_live ref22_Usage_b0)))
  (.seq (.reg [⟨(some 29), none, .load 3 true (.t 4), []⟩,
      ⟨(some 30), none, .mov (.t 5), []⟩,
      ⟨none, none, .store 3 (.t 2) (.t 29), []⟩,
      ⟨(some 3), none, .mov (.t 30), []⟩] false)
  (.ret)))))
def ref22_Usage : IFn := ⟨1, 31, [.cell 2 3 true, .tmp 3], false, ref22_Usage_c⟩

/-- function 29: orchestrator/ quota.Status -/
def quota_Status_c : IR :=
  .seq (.reg [⟨(some 2), none, .box 21 (.t 0), []⟩,
      ⟨(some 4), none, .zero [.str ⟨#[]⟩, .str ⟨#[]⟩, .str ⟨#[]⟩, .int .i64 0, .int .i64 0, .int .i64 0, .int .i64 0, .bool false, .int .i64 0, .ns 2, .ns 5, .ns 1, .ns 2, .int .i64 0, .int .i64 0, .int .i64 0, .int .i64 0, .int .i64 0, .int .i64 0, .int .i64 0, .int .i64 0], []⟩] false)
  (.seq (.reg [⟨(some 6), none, .mov (.t 1), []⟩,
      ⟨(some 7), none, .faddr 0 (.t 2), []⟩,
      ⟨(some 8), none, .faddr 1 (.t 7), []⟩,
      ⟨(some 9), none, .load 1 false (.t 8), []⟩,
      ⟨(some 10), none, .call false (.f 45) [.t 6, .t 9], []⟩,
      ⟨(some 11), none, .call false (.f 27) [.t 10], []⟩,
      ⟨(some 5), none, .mov (.t 11), []⟩,
      ⟨(some 12), none, .extract (.t 5) 0, []⟩,
      ⟨(some 13), none, .extract (.t 5) 1, []⟩,
      ⟨(some 14), none, .faddr 16 (.t 2), []⟩,
      ⟨none, none, .store 3 (.t 14) (.t 12), []⟩,
      ⟨(some 15), none, .faddr 20 (.t 2), []⟩,
      ⟨none, none, .store 1 (.t 15) (.t 13), []⟩] false)
  (.seq (.reg [⟨(some 16), none, .load 21 true (.t 2), []⟩,
      ⟨none, none, .store 21 (.t 4) (.t 16), []⟩] false)
  (.ret)))
def quota_Status : IFn := ⟨2, 17, [.cell 4 21 true], false, quota_Status_c⟩

/-- function 30: orchestrator/ orchestratorref22.Status -/
def ref22_Status_c : IR :=
  .seq (.reg [⟨(some 2), none, .box 21 (.t 0), []⟩,
      ⟨(some 4), none, .zero [.str ⟨#[]⟩, .str ⟨#[]⟩, .str ⟨#[]⟩, .int .i64 0, .int .i64 0, .int .i64 0, .int .i64 0, .bool false, .int .i64 0, .ns 2, .ns 5, .ns 1, .ns 2, .int .i64 0, .int .i64 0, .int .i64 0, .int .i64 0, .int .i64 0, .int .i64 0, .int .i64 0, .int .i64 0], []⟩] false)
  (.seq (.reg [⟨(some 8), none, .faddr 0 (.t 2), []⟩,
      ⟨(some 9), none, .faddr 1 (.t 8), []⟩,
      ⟨(some 10), none, .load 1 false (.t 9), []⟩,
      ⟨(some 11), none, .mov (.t 1), []⟩,
      ⟨(some 12), none, .call false (.f 46) [.t 10, .t 11], []⟩,
      ⟨(some 13), none, .call false (.f 28) [.t 12], []⟩,
      ⟨(some 7), none, .mov (.t 13), []⟩,
      ⟨(some 14), none, .extract (.t 7) 0, []⟩,
      ⟨(some 15), none, .extract (.t 7) 1, []⟩,
      ⟨(some 5), none, .zero [.int .i64 0, .int .i64 0, .int .i64 0], []⟩,
      ⟨none, none, .store 3 (.t 5) (.t 14), []⟩,
      ⟨(some 6), none, .mov (.t 15), []⟩] false)
  (.seq (.reg [⟨(some 16), none, .load 3 true (.t 5), []⟩,
      ⟨(some 17), none, .faddr 16 (.t 2), []⟩,
      ⟨none, none, .store 3 (.t 17) (.t 16), []⟩] false)
  (.seq (.reg [⟨(some 18), none, .mov (.t 6), []⟩,
      ⟨(some 19), none, .faddr 20 (.t 2), []⟩,
      ⟨none, none, .store 1 (.t 19) (.t 18), []⟩] false)
  (.seq (.reg [⟨(some 20), none, .load 21 true (.t 2), []⟩,
      ⟨none, none, .store 21 (.t 4) (.t 20), []⟩] false)
  (.ret)))))
def ref22_Status : IFn := ⟨2, 21, [.cell 4 21 true], false, ref22_Status_c⟩

/-- function 31: orchestrator/ quota.Admit -/
def quota_Admit_c : IR :=
  .seq (.reg [⟨(some 3), none, .box 21 (.t 0), []⟩,
      ⟨(some 5), none, .box 32 (.t 2), []⟩,
      ⟨(some 6), none, .mov (.c (.int .i64 0)), []⟩] false)
  (.seq (.seq (.reg [⟨(some 10), none, .faddr 0 (.t 5), []⟩,
        ⟨(some 11), none, .faddr 1 (.t 10), []⟩,
        ⟨(some 12), none, .load 1 false (.t 11), []⟩,
        ⟨(some 13), none, .faddr 0 (.t 3), []⟩,
        ⟨(some 14), none, .faddr 1 (.t 13), []⟩,
        ⟨(some 15), none, .load 1 false (.t 14), []⟩,
        ⟨(some 16), none, .bin .neq (.t 12) (.t 15), []⟩] false)
    (.cond (.t 16) (.seq (.reg [⟨(some 6), none, .mov (.c (.int .i64 0)), []⟩] false)
      (.ret))
      (.skip)))
  (.seq (.reg [⟨(some 18), none, .mov (.t 1), []⟩,
      ⟨(some 19), none, .faddr 0 (.t 3), []⟩,
      ⟨(some 20), none, .faddr 1 (.t 19), []⟩,
      ⟨(some 21), none, .load 1 false (.t 20), []⟩,
      ⟨(some 22), none, .call false (.f 45) [.t 18, .t 21], []⟩,
      ⟨(some 23), none, .call false (.f 27) [.t 22], []⟩,
      ⟨(some 17), none, .mov (.t 23), []⟩,
      ⟨(some 24), none, .extract (.t 17) 0, []⟩,
      ⟨(some 25), none, .extract (.t 17) 1, []⟩,
      ⟨(some 7), none, .zero [.int .i64 0, .int .i64 0, .int .i64 0], []⟩,
      ⟨none, none, .store 3 (.t 7) (.t 24), []⟩,
      ⟨(some 8), none, .mov (.t 25), []⟩] false)
  (.seq (.reg [⟨(some 26), none, .load 3 true (.t 7), []⟩,
      ⟨(some 27), none, .faddr 13 (.t 5), []⟩,
      ⟨(some 28), none, .load 10 true (.t 27), [1]⟩,
      ⟨(some 29), none, .call false (.f 19) [.t 28], [1, 2]⟩,
      ⟨(some 30), none, .call false (.f 13) [.t 26, .t 29], [0, 1, 2, 3]⟩,
      ⟨(some 9), none, .zero [.int .i64 0, .int .i64 0, .int .i64 0], []⟩,
      ⟨none, none, .store 3 (.t 9) (.t 30), [0, 1, 2, 3, 4, 5]⟩] true)
  (.seq (.seq (.reg [⟨(some 31), none, .faddr 0 (.t 9), []⟩,
        ⟨(some 32), none, .load 1 false (.t 31), []⟩,
        ⟨(some 33), none, .faddr 13 (.t 3), []⟩,
        ⟨(some 34), none, .faddr 0 (.t 33), []⟩,
        ⟨(some 35), none, .load 1 false (.t 34), []⟩,
        ⟨(some 36), none, .call false (.f 47) [.t 32, .t 35], []⟩,
        ⟨(some 37), none, .mov (.t 36), []⟩,
        ⟨(some 38), (some (37, false)), .faddr 1 (.t 9), []⟩,
        ⟨(some 39), (some (37, false)), .load 1 false (.t 38), []⟩,
        ⟨(some 40), (some (37, false)), .faddr 13 (.t 3), []⟩,
        ⟨(some 41), (some (37, false)), .faddr 1 (.t 40), []⟩,
        ⟨(some 42), (some (37, false)), .load 1 false (.t 41), []⟩,
        ⟨(some 43), (some (37, false)), .call false (.f 47) [.t 39, .t 42], []⟩,
        ⟨(some 44), none, .pick (.t 37) (.c (.bool true)) (.t 43), []⟩,
        ⟨(some 45), none, .mov (.t 44), []⟩,
        ⟨(some 46), (some (45, false)), .faddr 2 (.t 9), []⟩,
        ⟨(some 47), (some (45, false)), .load 1 false (.t 46), []⟩,
        ⟨(some 48), (some (45, false)), .faddr 13 (.t 3), []⟩,
        ⟨(some 49), (some (45, false)), .faddr 2 (.t 48), []⟩,
        ⟨(some 50), (some (45, false)), .load 1 false (.t 49), []⟩,
        ⟨(some 51), (some (45, false)), .call false (.f 47) [.t 47, .t 50], []⟩,
        ⟨(some 52), none, .pick (.t 45) (.c (.bool true)) (.t 51), []⟩,
        ⟨(some 53), none, .mov (.t 52), []⟩,
        ⟨(some 54), (some (53, false)), .mov (.t 8), []⟩,
        ⟨(some 55), (some (53, false)), .bin .add (.t 54) (.c (.int .i64 1)), []⟩,
        ⟨(some 56), (some (53, false)), .faddr 19 (.t 3), []⟩,
        ⟨(some 57), (some (53, false)), .load 1 false (.t 56), []⟩,
        ⟨(some 58), (some (53, false)), .call false (.f 47) [.t 55, .t 57], []⟩,
        ⟨(some 59), none, .pick (.t 53) (.c (.bool true)) (.t 58), []⟩] false)
    (.cond (.t 59) (.seq (.reg [⟨(some 6), none, .mov (.c (.int .i64 12)), []⟩] false)
      (.ret))
      (.skip)))
  (.seq (.reg [⟨(some 6), none, .mov (.c (.int .i64 0)), []⟩] false)
  (.ret))))))
def quota_Admit : IFn := ⟨3, 60, [.tmp 6], false, quota_Admit_c⟩

/-- function 32: orchestrator/ orchestratorref22.Admit -/
def ref22_Admit_c : IR :=
  .seq (.reg [⟨(some 3), none, .box 21 (.t 0), []⟩,
      ⟨(some 5), none, .box 32 (.t 2), []⟩,
      ⟨(some 6), none, .mov (.c (.int .i64 0)), []⟩] false)
  (.seq (.seq (.reg [⟨(some 9), none, .faddr 0 (.t 5), []⟩,
        ⟨(some 10), none, .faddr 1 (.t 9), []⟩,
        ⟨(some 11), none, .load 1 false (.t 10), []⟩,
        ⟨(some 12), none, .faddr 0 (.t 3), []⟩,
        ⟨(some 13), none, .faddr 1 (.t 12), []⟩,
        ⟨(some 14), none, .load 1 false (.t 13), []⟩,
        ⟨(some 15), none, .bin .neq (.t 11) (.t 14), []⟩] false)
    (.cond (.t 15) (.seq (.reg [⟨(some 6), none, .mov (.c (.int .i64 0)), []⟩] false)
      (.ret))
      (.skip)))
  (.seq (.reg [⟨(some 17), none, .faddr 0 (.t 3), []⟩,
      ⟨(some 18), none, .faddr 1 (.t 17), []⟩,
      ⟨(some 19), none, .load 1 false (.t 18), []⟩,
      ⟨(some 20), none, .mov (.t 1), []⟩,
      ⟨(some 21), none, .call false (.f 46) [.t 19, .t 20], []⟩,
      ⟨(some 22), none, .call false (.f 28) [.t 21], []⟩,
      ⟨(some 16), none, .mov (.t 22), []⟩,
      ⟨(some 23), none, .extract (.t 16) 0, []⟩,
      ⟨(some 24), none, .extract (.t 16) 1, []⟩,
      ⟨(some 7), none, .zero [.int .i64 0, .int .i64 0, .int .i64 0], []⟩,
      ⟨none, none, .store 3 (.t 7) (.t 23), []⟩,
      ⟨(some 8), none, .mov (.t 24), []⟩] false)
  (.seq (.reg [⟨(some 25), none, .load 3 true (.t 7), []⟩,
      ⟨(some 26), none, .faddr 13 (.t 5), []⟩,
      ⟨(some 27), none, .load 10 true (.t 26), [1]⟩,
      ⟨(some 28), none, .call false (.f 20) [.t 27], [1, 2]⟩,
      ⟨(some 29), none, .call false (.f 14) [.t 25, .t 28], [0, 1, 2, 3]⟩,
      ⟨none, none, .store 3 (.t 7) (.t 29), [0, 1, 2, 3, 4]⟩] true)
  (.seq (.seq (.reg [⟨(some 30), none, .faddr 0 (.t 7), []⟩,
        ⟨(some 31), none, .load 1 false (.t 30), []⟩,
        ⟨(some 32), none, .faddr 13 (.t 3), []⟩,
        ⟨(some 33), none, .faddr 0 (.t 32), []⟩,
        ⟨(some 34), none, .load 1 false (.t 33), []⟩,
        ⟨(some 35), none, .call false (.f 48) [.t 31, .t 34], []⟩,
        ⟨(some 36), none, .mov (.t 35), []⟩,
        ⟨(some 37), (some (36, false)), .faddr 1 (.t 7), []⟩,
        ⟨(some 38), (some (36, false)), .load 1 false (.t 37), []⟩,
        ⟨(some 39), (some (36, false)), .faddr 13 (.t 3), []⟩,
        ⟨(some 40), (some (36, false)), .faddr 1 (.t 39), []⟩,
        ⟨(some 41), (some (36, false)), .load 1 false (.t 40), []⟩,
        ⟨(some 42), (some (36, false)), .call false (.f 48) [.t 38, .t 41], []⟩,
        ⟨(some 43), none, .pick (.t 36) (.c (.bool true)) (.t 42), []⟩,
        ⟨(some 44), none, .mov (.t 43), []⟩,
        ⟨(some 45), (some (44, false)), .faddr 2 (.t 7), []⟩,
        ⟨(some 46), (some (44, false)), .load 1 false (.t 45), []⟩,
        ⟨(some 47), (some (44, false)), .faddr 13 (.t 3), []⟩,
        ⟨(some 48), (some (44, false)), .faddr 2 (.t 47), []⟩,
        ⟨(some 49), (some (44, false)), .load 1 false (.t 48), []⟩,
        ⟨(some 50), (some (44, false)), .call false (.f 48) [.t 46, .t 49], []⟩,
        ⟨(some 51), none, .pick (.t 44) (.c (.bool true)) (.t 50), []⟩,
        ⟨(some 52), none, .mov (.t 51), []⟩,
        ⟨(some 53), (some (52, false)), .mov (.t 8), []⟩,
        ⟨(some 54), (some (52, false)), .bin .add (.t 53) (.c (.int .i64 1)), []⟩,
        ⟨(some 55), (some (52, false)), .faddr 19 (.t 3), []⟩,
        ⟨(some 56), (some (52, false)), .load 1 false (.t 55), []⟩,
        ⟨(some 57), (some (52, false)), .call false (.f 48) [.t 54, .t 56], []⟩,
        ⟨(some 58), none, .pick (.t 52) (.c (.bool true)) (.t 57), []⟩] false)
    (.cond (.t 58) (.seq (.reg [⟨(some 6), none, .mov (.c (.int .i64 12)), []⟩] false)
      (.ret))
      (.skip)))
  (.seq (.reg [⟨(some 6), none, .mov (.c (.int .i64 0)), []⟩] false)
  (.ret))))))
def ref22_Admit : IFn := ⟨3, 59, [.tmp 6], false, ref22_Admit_c⟩

/-- function 33: orchestrator/ orchestratorref19.SameMeta -/
def ref19_SameMeta_b1_live : List Nat := [100016, 2, 3, 6]
def ref19_SameMeta_b1 : IR :=
  .seq (.seq (.reg [⟨(some 118), none, .mov (.t 6), []⟩,
          ⟨(some 119), none, .faddr 12 (.t 2), []⟩,
          ⟨(some 120), none, .load 1 false (.t 119), []⟩,
          ⟨(some 121), none, .len false (.t 120), []⟩,
          ⟨(some 122), none, .bin .lss (.t 118) (.t 121), []⟩] false)
      (.cond (.t 122) (.skip)
        (.exit 2)))
    (.seq (.block 3 (.seq (.reg [⟨(some 125), none, .faddr 12 (.t 2), []⟩,
            ⟨(some 126), none, .load 1 false (.t 125), [0]⟩,
            ⟨(some 127), none, .mov (.t 6), []⟩,
            ⟨(some 128), none, .iaddr 2 (.t 126) (.t 127), [0, 1, 2]⟩,
            ⟨(some 129), none, .faddr 0 (.t 128), [0, 1, 2, 3]⟩,
            ⟨(some 130), none, .load 1 false (.t 129), [0, 1, 2, 3, 4]⟩,
            ⟨(some 131), none, .faddr 12 (.t 3), []⟩,
            ⟨(some 132), none, .load 1 false (.t 131), [6]⟩,
            ⟨(some 133), none, .mov (.t 6), []⟩,
            ⟨(some 134), none, .iaddr 2 (.t 132) (.t 133), [6, 7, 8]⟩,
            ⟨(some 135), none, .faddr 0 (.t 134), [6, 7, 8, 9]⟩,
            ⟨(some 136), none, .load 1 false (.t 135), [6, 7, 8, 9, 10]⟩,
            ⟨(some 137), none, .bin .neq (.t 130) (.t 136), [0, 1, 2, 3, 4, 5, 6, 7, 8, 9, 10, 11]⟩,
            ⟨(some 138), none, .mov (.t 137), [0, 1, 2, 3, 4, 5, 6, 7, 8, 9, 10, 11, 12]⟩,
            ⟨(some 139), (some (138, false)), .faddr 12 (.t 2), [0, 1, 2, 3, 4, 5, 6, 7, 8, 9, 10, 11, 12, 13]⟩,
            ⟨(some 140), (some (138, false)), .load 1 false (.t 139), [0, 1, 2, 3, 4, 5, 6, 7, 8, 9, 10, 11, 12, 13, 14]⟩,
            ⟨(some 141), (some (138, false)), .mov (.t 6), [0, 1, 2, 3, 4, 5, 6, 7, 8, 9, 10, 11, 12, 13]⟩,
            ⟨(some 142), (some (138, false)), .iaddr 2 (.t 140) (.t 141), [0, 1, 2, 3, 4, 5, 6, 7, 8, 9, 10, 11, 12, 13, 14, 15, 16]⟩,
            ⟨(some 143), (some (138, false)), .faddr 1 (.t 142), [0, 1, 2, 3, 4, 5, 6, 7, 8, 9, 10, 11, 12, 13, 14, 15, 16, 17]⟩,
            ⟨(some 144), (some (138, false)), .load 1 false (.t 143), [0, 1, 2, 3, 4, 5, 6, 7, 8, 9, 10, 11, 12, 13, 14, 15, 16, 17, 18]⟩,
            ⟨(some 145), (some (138, false)), .faddr 12 (.t 3), [0, 1, 2, 3, 4, 5, 6, 7, 8, 9, 10, 11, 12, 13]⟩,
            ⟨(some 146), (some (138, false)), .load 1 false (.t 145), [0, 1, 2, 3, 4, 5, 6, 7, 8, 9, 10, 11, 12, 13, 20]⟩,
            ⟨(some 147), (some (138, false)), .mov (.t 6), [0, 1, 2, 3, 4, 5, 6, 7, 8, 9, 10, 11, 12, 13]⟩,
            ⟨(some 148), (some (138, false)), .iaddr 2 (.t 146) (.t 147), [0, 1, 2, 3, 4, 5, 6, 7, 8, 9, 10, 11, 12, 13, 20, 21, 22]⟩,
            ⟨(some 149), (some (138, false)), .faddr 1 (.t 148), [0, 1, 2, 3, 4, 5, 6, 7, 8, 9, 10, 11, 12, 13, 20, 21, 22, 23]⟩,
            ⟨(some 150), (some (138, false)), .load 1 false (.t 149), [0, 1, 2, 3, 4, 5, 6, 7, 8, 9, 10, 11, 12, 13, 20, 21, 22, 23, 24]⟩,
            ⟨(some 151), (some (138, false)), .call false (.f 50) [.t 144, .t 150], [0, 1, 2, 3, 4, 5, 6, 7, 8, 9, 10, 11, 12, 13, 14, 15, 16, 17, 18, 19, 20, 21, 22, 23, 24, 25]⟩,
            ⟨(some 152), (some (138, false)), .un .not (.t 151), [0, 1, 2, 3, 4, 5, 6, 7, 8, 9, 10, 11, 12, 13, 14, 15, 16, 17, 18, 19, 20, 21, 22, 23, 24, 25, 26]⟩,
            ⟨(some 153), none, .pick (.t 138) (.c (.bool true)) (.t 152), [0, 1, 2, 3, 4, 5, 6, 7, 8, 9, 10, 11, 12, 13, 14, 15, 16, 17, 18, 19, 20, 21, 22, 23, 24, 25, 26, 27]⟩] true)
        (.cond (.t 153) (.seq (.reg [⟨(some 4), none, .mov (.c (.bool false)), []⟩] false)
          (.ret))
          (.skip))))
    (.reg [⟨(some 123), none, .mov (.t 6), []⟩,
      ⟨(some 124), none, .bin .add (.t 123) (.c (.int .i64 1)), []⟩,
      ⟨(some 6), none, .mov (.t 124), []⟩] false))
def ref19_SameMeta_b0_live : List Nat := [100015, 2, 3, 5]
def ref19_SameMeta_b0 : IR :=
  .seq (.seq (.reg [⟨(some 100), none, .mov (.t 5), []⟩,
          ⟨(some 101), none, .faddr 10 (.t 2), []⟩,
          ⟨(some 102), none, .load 1 false (.t 101), []⟩,
          ⟨(some 103), none, .len false (.t 102), []⟩,
          ⟨(some 104), none, .bin .lss (.t 100) (.t 103), []⟩] false)
      (.cond (.t 104) (.skip)
        (.exit 0)))
    (.seq (.block 1 (.seq (.reg [⟨(some 107), none, .faddr 10 (.t 2), []⟩,
            ⟨(some 108), none, .load 1 false (.t 107), [0]⟩,
            ⟨(some 109), none, .mov (.t 5), []⟩,
            ⟨(some 110), none, .iaddr 5 (.t 108) (.t 109), [0, 1, 2]⟩,
            ⟨(some 111), none, .load 5 true (.t 110), [0, 1, 2, 3]⟩,
            ⟨(some 112), none, .faddr 10 (.t 3), []⟩,
            ⟨(some 113), none, .load 1 false (.t 112), [5]⟩,
            ⟨(some 114), none, .mov (.t 5), []⟩,
            ⟨(some 115), none, .iaddr 5 (.t 113) (.t 114), [5, 6, 7]⟩,
            ⟨(some 116), none, .load 5 true (.t 115), [5, 6, 7, 8]⟩,
            ⟨(some 117), none, .eqs (.st [(0, 1, .str), (1, 1, .str), (2, 1, .int), (3, 1, .bool), (4, 1, .bool)]) true (.t 111) (.t 116), [0, 1, 2, 3, 4, 5, 6, 7, 8, 9]⟩] true)
        (.cond (.t 117) (.seq (.reg [⟨(some 4), none, .mov (.c (.bool false)), []⟩] false)
          (.ret))
          (.skip))))
    (.reg [⟨(some 105), none, .mov (.t 5), []⟩,
      ⟨(some 106), none, .bin .add (.t 105) (.c (.int .i64 1)), []⟩,
      ⟨(some 5), none, .mov (.t 106), []⟩] false))
def ref19_SameMeta_c : IR :=
  .seq (.reg [⟨(some 2), none, .box 13 (.t 0), []⟩,
      ⟨(some 3), none, .box 13 (.t 1), []⟩,
      ⟨(some 4), none, .mov (.c (.bool false)), []⟩] false)
  (.seq (.seq (.reg [⟨(some 7), none, .faddr 0 (.t 2), []⟩,
        ⟨(some 8), none, .load 1 false (.t 7), []⟩,
        ⟨(some 9), none, .faddr 0 (.t 3), []⟩,
        ⟨(some 10), none, .load 1 false (.t 9), []⟩,
        ⟨(some 11), none, .bin .neq (.t 8) (.t 10), []⟩,
        ⟨(some 12), none, .mov (.t 11), []⟩,
        ⟨(some 13), (some (12, false)), .faddr 1 (.t 2), []⟩,
        ⟨(some 14), (some (12, false)), .load 1 false (.t 13), []⟩,
        ⟨(some 15), (some (12, false)), .faddr 1 (.t 3), []⟩,
        ⟨(some 16), (some (12, false)), .load 1 false (.t 15), []⟩,
        ⟨(some 17), (some (12, false)), .bin .neq (.t 14) (.t 16), []⟩,
        ⟨(some 18), none, .pick (.t 12) (.c (.bool true)) (.t 17), []⟩,
        ⟨(some 19), none, .mov (.t 18), []⟩,
        ⟨(some 20), (some (19, false)), .faddr 2 (.t 2), []⟩,
        ⟨(some 21), (some (19, false)), .load 1 false (.t 20), []⟩,
        ⟨(some 22), (some (19, false)), .faddr 2 (.t 3), []⟩,
        ⟨(some 23), (some (19, false)), .load 1 false (.t 22), []⟩,
        ⟨(some 24), (some (19, false)), .bin .neq (.t 21) (.t 23), []⟩,
        ⟨(some 25), none, .pick (.t 19) (.c (.bool true)) (.t 24), []⟩,
        ⟨(some 26), none, .mov (.t 25), []⟩,
        ⟨(some 27), (some (26, false)), .faddr 3 (.t 2), []⟩,
        ⟨(some 28), (some (26, false)), .load 1 false (.t 27), []⟩,
        ⟨(some 29), (some (26, false)), .faddr 3 (.t 3), []⟩,
        ⟨(some 30), (some (26, false)), .load 1 false (.t 29), []⟩,
        ⟨(some 31), (some (26, false)), .bin .neq (.t 28) (.t 30), []⟩,
        ⟨(some 32), none, .pick (.t 26) (.c (.bool true)) (.t 31), []⟩,
        ⟨(some 33), none, .mov (.t 32), []⟩,
        ⟨(some 34), (some (33, false)), .faddr 4 (.t 2), []⟩,
        ⟨(some 35), (some (33, false)), .load 1 false (.t 34), []⟩,
        ⟨(some 36), (some (33, false)), .faddr 4 (.t 3), []⟩,
        ⟨(some 37), (some (33, false)), .load 1 false (.t 36), []⟩,
        ⟨(some 38), (some (33, false)), .bin .neq (.t 35) (.t 37), []⟩,
        ⟨(some 39), none, .pick (.t 33) (.c (.bool true)) (.t 38), []⟩,
        ⟨(some 40), none, .mov (.t 39), []⟩,
        ⟨(some 41), (some (40, false)), .faddr 5 (.t 2), []⟩,
        ⟨(some 42), (some (40, false)), .load 1 false (.t 41), []⟩,
        ⟨(some 43), (some (40, false)), .faddr 5 (.t 3), []⟩,
        ⟨(some 44), (some (40, false)), .load 1 false (.t 43), []⟩,
        ⟨(some 45), (some (40, false)), .bin .neq (.t 42) (.t 44), []⟩,
        ⟨(some 46), none, .pick (.t 40) (.c (.bool true)) (.t 45), []⟩,
        ⟨(some 47), none, .mov (.t 46), []⟩,
        ⟨(some 48), (some (47, false)), .faddr 6 (.t 2), []⟩,
        ⟨(some 49), (some (47, false)), .load 1 false (.t 48), []⟩,
        ⟨(some 50), (some (47, false)), .faddr 6 (.t 3), []⟩,
        ⟨(some 51), (some (47, false)), .load 1 false (.t 50), []⟩,
        ⟨(some 52), (some (47, false)), .bin .neq (.t 49) (.t 51), []⟩,
        ⟨(some 53), none, .pick (.t 47) (.c (.bool true)) (.t 52), []⟩,
        ⟨(some 54), none, .mov (.t 53), []⟩,
        ⟨(some 55), (some (54, false)), .faddr 7 (.t 2), []⟩,
        ⟨(some 56), (some (54, false)), .load 1 false (.t 55), []⟩,
        ⟨(some 57), (some (54, false)), .faddr 7 (.t 3), []⟩,
        ⟨(some 58), (some (54, false)), .load 1 false (.t 57), []⟩,
        ⟨(some 59), (some (54, false)), .eqb true (.t 56) (.t 58), []⟩,
        ⟨(some 60), none, .pick (.t 54) (.c (.bool true)) (.t 59), []⟩,
        ⟨(some 61), none, .mov (.t 60), []⟩,
        ⟨(some 62), (some (61, false)), .faddr 8 (.t 2), []⟩,
        ⟨(some 63), (some (61, false)), .load 1 false (.t 62), []⟩,
        ⟨(some 64), (some (61, false)), .faddr 8 (.t 3), []⟩,
        ⟨(some 65), (some (61, false)), .load 1 false (.t 64), []⟩,
        ⟨(some 66), (some (61, false)), .bin .neq (.t 63) (.t 65), []⟩,
        ⟨(some 67), none, .pick (.t 61) (.c (.bool true)) (.t 66), []⟩] false)
    (.cond (.t 67) (.seq (.reg [⟨(some 4), none, .mov (.c (.bool false)), []⟩] false)
      (.ret))
      (.skip)))
  (.seq (.seq (.reg [⟨(some 68), none, .faddr 9 (.t 2), []⟩,
        ⟨(some 69), none, .load 1 false (.t 68), []⟩,
        ⟨(some 70), none, .faddr 9 (.t 3), []⟩,
        ⟨(some 71), none, .load 1 false (.t 70), []⟩,
        ⟨(some 72), none, .call false (.f 49) [.t 69, .t 71], []⟩,
        ⟨(some 73), none, .un .not (.t 72), []⟩,
        ⟨(some 74), none, .mov (.t 73), []⟩,
        ⟨(some 75), (some (74, false)), .faddr 11 (.t 2), []⟩,
        ⟨(some 76), (some (74, false)), .load 1 false (.t 75), []⟩,
        ⟨(some 77), (some (74, false)), .faddr 11 (.t 3), []⟩,
        ⟨(some 78), (some (74, false)), .load 1 false (.t 77), []⟩,
        ⟨(some 79), (some (74, false)), .call false (.f 50) [.t 76, .t 78], []⟩,
        ⟨(some 80), (some (74, false)), .un .not (.t 79), []⟩,
        ⟨(some 81), none, .pick (.t 74) (.c (.bool true)) (.t 80), []⟩,
        ⟨(some 82), none, .mov (.t 81), []⟩,
        ⟨(some 83), (some (82, false)), .faddr 10 (.t 2), []⟩,
        ⟨(some 84), (some (82, false)), .load 1 false (.t 83), []⟩,
        ⟨(some 85), (some (82, false)), .len false (.t 84), []⟩,
        ⟨(some 86), (some (82, false)), .faddr 10 (.t 3), []⟩,
        ⟨(some 87), (some (82, false)), .load 1 false (.t 86), []⟩,
        ⟨(some 88), (some (82, false)), .len false (.t 87), []⟩,
        ⟨(some 89), (some (82, false)), .bin .neq (.t 85) (.t 88), []⟩,
        ⟨(some 90), none, .pick (.t 82) (.c (.bool true)) (.t 89), []⟩,
        ⟨(some 91), none, .mov (.t 90), []⟩,
        ⟨(some 92), (some (91, false)), .faddr 12 (.t 2), []⟩,
        ⟨(some 93), (some (91, false)), .load 1 false (.t 92), []⟩,
        ⟨(some 94), (some (91, false)), .len false (.t 93), []⟩,
        ⟨(some 95), (some (91, false)), .faddr 12 (.t 3), []⟩,
        ⟨(some 96), (some (91, false)), .load 1 false (.t 95), []⟩,
        ⟨(some 97), (some (91, false)), .len false (.t 96), []⟩,
        ⟨(some 98), (some (91, false)), .bin .neq (.t 94) (.t 97), []⟩,
        ⟨(some 99), none, .pick (.t 91) (.c (.bool true)) (.t 98), []⟩] false)
    (.cond (.t 99) (.seq (.reg [⟨(some 4), none, .mov (.c (.bool false)), []⟩] false)
      (.ret))
      (.skip)))
  (.seq (.seq (.reg [⟨(some 5), none, .mov (.c (.int .i64 0)), []⟩] false)
    (.block 0 (.loop ref19_SameMeta_b0_live ref19_SameMeta_b0)))
  (.seq (.seq (.reg [⟨(some 6), none, .mov (.c (.int .i64 0)), []⟩] false)
    (.block 2 (.loop ref19_SameMeta_b1_live ref19_SameMeta_b1)))
  (.seq (.reg [⟨(some 4), none, .mov (.c (.bool true)), []⟩] false)
  (.ret))))))
def ref19_SameMeta : IFn := ⟨2, 154, [.tmp 4], false, ref19_SameMeta_c⟩

/-- function 34: orchestrator/ orchestratorlaw22.within -/
def law22_within_c : IR :=
  .seq (.reg [⟨(some 3), none, .box 21 (.t 0), []⟩,
      ⟨(some 4), none, .box 3 (.t 1), []⟩,
      ⟨(some 6), none, .mov (.c (.bool false)), []⟩] false)
  (.seq (.reg [⟨(some 7), none, .faddr 13 (.t 3), []⟩,
      ⟨(some 8), none, .faddr 0 (.t 7), []⟩,
      ⟨(some 9), none, .load 1 false (.t 8), []⟩,
      ⟨(some 10), none, .bin .leq (.t 9) (.c (.int .i64 0)), []⟩,
      ⟨(some 11), none, .mov (.t 10), []⟩,
      ⟨(some 12), (some (11, false)), .faddr 0 (.t 4), []⟩,
      ⟨(some 13), (some (11, false)), .load 1 false (.t 12), []⟩,
      ⟨(some 14), (some (11, false)), .faddr 13 (.t 3), []⟩,
      ⟨(some 15), (some (11, false)), .faddr 0 (.t 14), []⟩,
      ⟨(some 16), (some (11, false)), .load 1 false (.t 15), []⟩,
      ⟨(some 17), (some (11, false)), .bin .leq (.t 13) (.t 16), []⟩,
      ⟨(some 18), none, .pick (.t 11) (.c (.bool true)) (.t 17), []⟩,
      ⟨(some 19), none, .mov (.t 18), []⟩,
      ⟨(some 20), (some (19, true)), .faddr 13 (.t 3), []⟩,
      ⟨(some 21), (some (19, true)), .faddr 1 (.t 20), []⟩,
      ⟨(some 22), (some (19, true)), .load 1 false (.t 21), []⟩,
      ⟨(some 23), (some (19, true)), .bin .leq (.t 22) (.c (.int .i64 0)), []⟩,
      ⟨(some 24), (some (19, true)), .mov (.t 23), []⟩,
      ⟨(some 25), (some (24, false)), .faddr 1 (.t 4), []⟩,
      ⟨(some 26), (some (24, false)), .load 1 false (.t 25), []⟩,
      ⟨(some 27), (some (24, false)), .faddr 13 (.t 3), []⟩,
      ⟨(some 28), (some (24, false)), .faddr 1 (.t 27), []⟩,
      ⟨(some 29), (some (24, false)), .load 1 false (.t 28), []⟩,
      ⟨(some 30), (some (24, false)), .bin .leq (.t 26) (.t 29), []⟩,
      ⟨(some 31), (some (19, true)), .pick (.t 24) (.c (.bool true)) (.t 30), []⟩,
      ⟨(some 32), none, .pick (.t 19) (.t 31) (.c (.bool false)), []⟩,
      ⟨(some 33), none, .mov (.t 32), []⟩,
      ⟨(some 34), (some (33, true)), .faddr 13 (.t 3), []⟩,
      ⟨(some 35), (some (33, true)), .faddr 2 (.t 34), []⟩,
      ⟨(some 36), (some (33, true)), .load 1 false (.t 35), []⟩,
      ⟨(some 37), (some (33, true)), .bin .leq (.t 36) (.c (.int .i64 0)), []⟩,
      ⟨(some 38), (some (33, true)), .mov (.t 37), []⟩,
      ⟨(some 39), (some (38, false)), .faddr 2 (.t 4), []⟩,
      ⟨(some 40), (some (38, false)), .load 1 false (.t 39), []⟩,
      ⟨(some 41), (some (38, false)), .faddr 13 (.t 3), []⟩,
      ⟨(some 42), (some (38, false)), .faddr 2 (.t 41), []⟩,
      ⟨(some 43), (some (38, false)), .load 1 false (.t 42), []⟩,
      ⟨(some 44), (some (38, false)), .bin .leq (.t 40) (.t 43), []⟩,
      ⟨(some 45), (some (33, true)), .pick (.t 38) (.c (.bool true)) (.t 44), []⟩,
      ⟨(some 46), none, .pick (.t 33) (.t 45) (.c (.bool false)), []⟩,
      ⟨(some 47), none, .mov (.t 46), []⟩,
      ⟨(some 48), (some (47, true)), .faddr 19 (.t 3), []⟩,
      ⟨(some 49), (some (47, true)), .load 1 false (.t 48), []⟩,
      ⟨(some 50), (some (47, true)), .bin .leq (.t 49) (.c (.int .i64 0)), []⟩,
      ⟨(some 51), (some (47, true)), .mov (.t 50), []⟩,
      ⟨(some 52), (some (51, false)), .mov (.t 2), []⟩,
      ⟨(some 53), (some (51, false)), .faddr 19 (.t 3), []⟩,
      ⟨(some 54), (some (51, false)), .load 1 false (.t 53), []⟩,
      ⟨(some 55), (some (51, false)), .bin .leq (.t 52) (.t 54), []⟩,
      ⟨(some 56), (some (47, true)), .pick (.t 51) (.c (.bool true)) (.t 55), []⟩,
      ⟨(some 57), none, .pick (.t 47) (.t 56) (.c (.bool false)), []⟩,
      ⟨(some 6), none, .mov (.t 57), []⟩] false)
  (.ret))
def law22_within : IFn := ⟨3, 58, [.tmp 6], false, law22_within_c⟩

/-- function 35: orchestrator/ resource.each -/
def resource_each_c : IR :=
  .seq (.reg [⟨(some 3), none, .box 3 (.t 0), []⟩,
      ⟨(some 4), none, .box 3 (.t 1), []⟩,
      ⟨(some 6), none, .zero [.int .i64 0, .int .i64 0, .int .i64 0], []⟩] false)
  (.seq (.reg [⟨(some 7), none, .mov (.t 2), []⟩,
      ⟨(some 8), none, .faddr 0 (.t 3), []⟩,
      ⟨(some 9), none, .load 1 false (.t 8), [1]⟩,
      ⟨(some 10), none, .call false (.f 37) [.t 9], [1, 2]⟩,
      ⟨(some 11), none, .faddr 0 (.t 4), []⟩,
      ⟨(some 12), none, .load 1 false (.t 11), [4]⟩,
      ⟨(some 13), none, .call false (.f 37) [.t 12], [1, 2, 3, 4, 5]⟩,
      ⟨(some 14), none, .call false (.t 7) [.t 10, .t 13], [0, 1, 2, 3, 4, 5, 6]⟩,
      ⟨(some 15), none, .mov (.t 2), []⟩,
      ⟨(some 16), none, .faddr 1 (.t 3), []⟩,
      ⟨(some 17), none, .load 1 false (.t 16), [9]⟩,
      ⟨(some 18), none, .call false (.f 37) [.t 17], [0, 1, 2, 3, 4, 5, 6, 7, 9, 10]⟩,
      ⟨(some 19), none, .faddr 1 (.t 4), []⟩,
      ⟨(some 20), none, .load 1 false (.t 19), [12]⟩,
      ⟨(some 21), none, .call false (.f 37) [.t 20], [0, 1, 2, 3, 4, 5, 6, 7, 9, 10, 11, 12, 13]⟩,
      ⟨(some 22), none, .call false (.t 15) [.t 18, .t 21], [0, 1, 2, 3, 4, 5, 6, 7, 8, 9, 10, 11, 12, 13, 14]⟩,
      ⟨(some 23), none, .mov (.t 2), []⟩,
      ⟨(some 24), none, .faddr 2 (.t 3), []⟩,
      ⟨(some 25), none, .load 1 false (.t 24), [17]⟩,
      ⟨(some 26), none, .call false (.f 37) [.t 25], [0, 1, 2, 3, 4, 5, 6, 7, 8, 9, 10, 11, 12, 13, 14, 15, 17, 18]⟩,
      ⟨(some 27), none, .faddr 2 (.t 4), []⟩,
      ⟨(some 28), none, .load 1 false (.t 27), [20]⟩,
      ⟨(some 29), none, .call false (.f 37) [.t 28], [0, 1, 2, 3, 4, 5, 6, 7, 8, 9, 10, 11, 12, 13, 14, 15, 17, 18, 19, 20, 21]⟩,
      ⟨(some 30), none, .call false (.t 23) [.t 26, .t 29], [0, 1, 2, 3, 4, 5, 6, 7, 8, 9, 10, 11, 12, 13, 14, 15, 16, 17, 18, 19, 20, 21, 22]⟩,
      ⟨(some 31), none, .build [.int .i64 0, .int .i64 0, .int .i64 0] [(0, 1, .t 14), (1, 1, .t 22), (2, 1, .t 30)], [0, 1, 2, 3, 4, 5, 6, 7, 8, 9, 10, 11, 12, 13, 14, 15, 16, 17, 18, 19, 20, 21, 22, 23]⟩,
      ⟨none, none, .store 3 (.t 6) (.t 31), [0, 1, 2, 3, 4, 5, 6, 7, 8, 9, 10, 11, 12, 13, 14, 15, 16, 17, 18, 19, 20, 21, 22, 23, 24]⟩] true)
  (.ret))
def resource_each : IFn := ⟨3, 32, [.cell 6 3 true], false, resource_each_c⟩

/-- function 36: orchestrator/ resource.Add$1 -/
def resource_Add_1_c : IR :=
  .seq (.reg [⟨(some 4), none, .mov (.c (.int .i64 0)), []⟩] false)
  (.seq (.reg [⟨(some 5), none, .mov (.t 0), []⟩,
      ⟨(some 6), none, .mov (.t 1), []⟩,
      ⟨(some 7), none, .bin .add (.t 5) (.t 6), []⟩,
      ⟨(some 8), none, .call false (.f 37) [.t 7], []⟩,
      ⟨(some 4), none, .mov (.t 8), []⟩] false)
  (.ret))
def resource_Add_1 : IFn := ⟨2, 9, [.tmp 4], false, resource_Add_1_c⟩

/-- function 37: orchestrator/ resource.clamp -/
def resource_clamp_c : IR :=
  .seq (.reg [⟨(some 2), none, .mov (.c (.int .i64 0)), []⟩] false)
  (.seq (.reg [⟨(some 3), none, .mov (.t 0), []⟩,
      ⟨(some 4), none, .mnmx true (.t 3) [.c (.int .i64 0)], []⟩,
      ⟨(some 5), none, .mnmx false (.t 4) [.c (.int .i64 1000000000000000)], []⟩,
      ⟨(some 2), none, .mov (.t 5), []⟩] false)
  (.ret))
def resource_clamp : IFn := ⟨1, 6, [.tmp 2], false, resource_clamp_c⟩

/-- function 38: orchestrator/ orchestratorref02.clamp -/
def ref02_clamp_c : IR :=
  .seq (.reg [⟨(some 2), none, .mov (.c (.int .i64 0)), []⟩] false)
  (.seq (.reg [⟨(some 3), none, .mov (.t 0), []⟩,
      ⟨(some 4), none, .mnmx true (.c (.int .i64 0)) [.t 3], []⟩,
      ⟨(some 5), none, .mnmx false (.c (.int .i64 1000000000000000)) [.t 4], []⟩,
      ⟨(some 2), none, .mov (.t 5), []⟩] false)
  (.ret))
def ref02_clamp : IFn := ⟨1, 6, [.tmp 2], false, ref02_clamp_c⟩

/-- function 39: orchestrator/ resource.Sub$1 -/
def resource_Sub_1_c : IR :=
  .seq (.reg [⟨(some 4), none, .mov (.c (.int .i64 0)), []⟩] false)
  (.seq (.reg [⟨(some 5), none, .mov (.t 0), []⟩,
      ⟨(some 6), none, .mov (.t 1), []⟩,
      ⟨(some 7), none, .bin .sub (.t 5) (.t 6), []⟩,
      ⟨(some 8), none, .call false (.f 37) [.t 7], []⟩,
      ⟨(some 4), none, .mov (.t 8), []⟩] false)
  (.ret))
def resource_Sub_1 : IFn := ⟨2, 9, [.tmp 4], false, resource_Sub_1_c⟩

/-- function 40: orchestrator/ orchestratorref19.FromPod -/
def ref19_FromPod_c : IR :=
  .seq (.reg [⟨(some 1), none, .box 32 (.t 0), []⟩,
      ⟨(some 2), none, .zero [.str ⟨#[]⟩, .str ⟨#[]⟩, .str ⟨#[]⟩, .int .i64 0, .int .i64 0, .int .i64 0, .int .i64 0, .bool false, .int .i64 0, .ns 2, .ns 5, .ns 1, .ns 2, .int .i64 0, .int .i64 0, .str ⟨#[]⟩, .ns 5, .ns 6, .int .i64 0, .int .i64 0, .str ⟨#[]⟩, .ns 5, .ns 6], []⟩] false)
  (.seq (.reg [⟨(some 4), none, .faddr 0 (.t 1), []⟩,
      ⟨(some 5), none, .load 13 true (.t 4), []⟩,
      ⟨(some 3), none, .zero [.str ⟨#[]⟩, .str ⟨#[]⟩, .str ⟨#[]⟩, .int .i64 0, .int .i64 0, .int .i64 0, .int .i64 0, .bool false, .int .i64 0, .ns 2, .ns 5, .ns 1, .ns 2], []⟩,
      ⟨none, none, .store 13 (.t 3) (.t 5), []⟩] false)
  (.seq (.reg [⟨(some 6), none, .faddr 0 (.t 3), []⟩,
      ⟨none, none, .store 1 (.t 6) (.c (.str ⟨#[80, 111, 100]⟩)), []⟩] false)
  (.seq (.reg [⟨(some 7), none, .load 13 true (.t 3), []⟩,
      ⟨(some 8), none, .faddr 13 (.t 1), []⟩,
      ⟨(some 9), none, .load 10 true (.t 8), [1]⟩,
      ⟨(some 10), none, .call false (.f 51) [.t 9], [1, 2]⟩,
      ⟨(some 11), none, .faddr 23 (.t 1), []⟩,
      ⟨(some 12), none, .load 9 true (.t 11), [4]⟩,
      ⟨(some 13), none, .call false (.f 52) [.t 12], [1, 2, 3, 4, 5]⟩,
      ⟨(some 14), none, .build [.str ⟨#[]⟩, .str ⟨#[]⟩, .str ⟨#[]⟩, .int .i64 0, .int .i64 0, .int .i64 0, .int .i64 0, .bool false, .int .i64 0, .ns 2, .ns 5, .ns 1, .ns 2, .int .i64 0, .int .i64 0, .str ⟨#[]⟩, .ns 5, .ns 6, .int .i64 0, .int .i64 0, .str ⟨#[]⟩, .ns 5, .ns 6] [(0, 13, .t 7), (13, 5, .t 10), (18, 5, .t 13)], [0, 1, 2, 3, 4, 5, 6]⟩,
      ⟨none, none, .store 23 (.t 2) (.t 14), [0, 1, 2, 3, 4, 5, 6, 7]⟩] true)
  (.ret))))
def ref19_FromPod : IFn := ⟨1, 15, [.cell 2 23 true], false, ref19_FromPod_c⟩

/-- function 41: orchestrator/ orchestratorref06.Few -/
def ref06_Few_c : IR :=
  .seq (.reg [⟨(some 2), none, .box 5 (.t 0), []⟩,
      ⟨(some 4), none, .mov (.c (.bool false)), []⟩] false)
  (.seq (.reg [⟨(some 5), none, .load 5 true (.t 2), []⟩,
      ⟨(some 6), none, .mov (.t 1), []⟩,
      ⟨(some 7), none, .call false (.f 53) [.t 5, .t 6], []⟩,
      ⟨(some 8), none, .bin .geq (.t 7) (.c (.int .i64 0)), []⟩,
      ⟨(some 4), none, .mov (.t 8), []⟩] false)
  (.ret))
def ref06_Few : IFn := ⟨2, 9, [.tmp 4], false, ref06_Few_c⟩

/-- function 42: orchestrator/ orchestratorlaw22.asks -/
def law22_asks_c : IR :=
  .seq (.reg [⟨(some 2), none, .zero [.str ⟨#[]⟩, .str ⟨#[]⟩, .str ⟨#[]⟩, .int .i64 0, .int .i64 0, .int .i64 0, .int .i64 0, .bool false, .int .i64 0, .ns 2, .ns 5, .ns 1, .ns 2, .str ⟨#[]⟩, .int .i64 0, .int .i64 0, .int .i64 0, .ns 11, .ns 3, .ns 3, .ns 5, .ns 4, .ns 5, .int .i64 0, .bool false, .int .i64 0, .int .i64 0, .int .i64 0, .ns 7, .int .i64 0, .str ⟨#[]⟩, .str ⟨#[]⟩], []⟩] false)
  (.seq (.reg [⟨(some 4), none, .build [.str ⟨#[]⟩, .str ⟨#[]⟩, .str ⟨#[]⟩, .int .i64 0, .int .i64 0, .int .i64 0, .int .i64 0, .bool false, .int .i64 0, .ns 2, .ns 5, .ns 1, .ns 2] [(0, 1, .c (.str ⟨#[80, 111, 100]⟩)), (1, 1, .c (.str ⟨#[110]⟩)), (2, 1, .c (.str ⟨#[97]⟩))], []⟩,
      ⟨(some 5), none, .mov (.t 0), []⟩,
      ⟨(some 6), none, .build [.int .i64 0, .int .i64 0, .int .i64 0] [(0, 1, .t 5)], []⟩,
      ⟨(some 7), none, .build [.str ⟨#[]⟩, .str ⟨#[]⟩, .int .i64 0, .int .i64 0, .int .i64 0, .int .i64 0, .int .i64 0, .int .i64 0, .ns 4, .ns 4, .ns 4] [(2, 3, .t 6)], []⟩,
      ⟨(some 8), none, .lit 11 1 [.str ⟨#[]⟩, .str ⟨#[]⟩, .int .i64 0, .int .i64 0, .int .i64 0, .int .i64 0, .int .i64 0, .int .i64 0, .ns 4, .ns 4, .ns 4] [(0, .t 7)], []⟩,
      ⟨(some 9), none, .build [.str ⟨#[]⟩, .int .i64 0, .int .i64 0, .int .i64 0, .ns 11, .ns 3, .ns 3, .ns 5, .ns 4, .ns 5] [(4, 1, .t 8)], []⟩,
      ⟨(some 10), none, .build [.str ⟨#[]⟩, .str ⟨#[]⟩, .str ⟨#[]⟩, .int .i64 0, .int .i64 0, .int .i64 0, .int .i64 0, .bool false, .int .i64 0, .ns 2, .ns 5, .ns 1, .ns 2, .str ⟨#[]⟩, .int .i64 0, .int .i64 0, .int .i64 0, .ns 11, .ns 3, .ns 3, .ns 5, .ns 4, .ns 5, .int .i64 0, .bool false, .int .i64 0, .int .i64 0, .int .i64 0, .ns 7, .int .i64 0, .str ⟨#[]⟩, .str ⟨#[]⟩] [(0, 13, .t 4), (13, 10, .t 9)], []⟩,
      ⟨(some 3), none, .zero [.str ⟨#[]⟩, .str ⟨#[]⟩, .str ⟨#[]⟩, .int .i64 0, .int .i64 0, .int .i64 0, .int .i64 0, .bool false, .int .i64 0, .ns 2, .ns 5, .ns 1, .ns 2, .str ⟨#[]⟩, .int .i64 0, .int .i64 0, .int .i64 0, .ns 11, .ns 3, .ns 3, .ns 5, .ns 4, .ns 5, .int .i64 0, .bool false, .int .i64 0, .int .i64 0, .int .i64 0, .ns 7, .int .i64 0, .str ⟨#[]⟩, .str ⟨#[]⟩], []⟩,
      ⟨none, none, .store 32 (.t 3) (.t 10), []⟩] false)
  (.seq (.reg [⟨(some 11), none, .faddr 23 (.t 3), []⟩,
      ⟨(some 12), none, .faddr 0 (.t 11), []⟩,
      ⟨none, none, .store 1 (.t 12) (.c (.int .i64 1)), []⟩] false)
  (.seq (.reg [⟨(some 13), none, .load 32 true (.t 3), []⟩,
      ⟨none, none, .store 32 (.t 2) (.t 13), []⟩] false)
  (.ret))))
def law22_asks : IFn := ⟨1, 14, [.cell 2 32 true], false, law22_asks_c⟩

/-- function 43: orchestrator/ quota.counts -/
def quota_counts_c : IR :=
  .seq (.reg [⟨(some 1), none, .box 32 (.t 0), []⟩,
      ⟨(some 2), none, .mov (.c (.bool false)), []⟩] false)
  (.seq (.reg [⟨(some 3), none, .faddr 23 (.t 1), []⟩,
      ⟨(some 4), none, .faddr 0 (.t 3), []⟩,
      ⟨(some 5), none, .load 1 false (.t 4), []⟩,
      ⟨(some 6), none, .bin .eql (.t 5) (.c (.int .i64 0)), []⟩,
      ⟨(some 7), none, .mov (.t 6), []⟩,
      ⟨(some 8), (some (7, false)), .faddr 23 (.t 1), []⟩,
      ⟨(some 9), (some (7, false)), .faddr 0 (.t 8), []⟩,
      ⟨(some 10), (some (7, false)), .load 1 false (.t 9), []⟩,
      ⟨(some 11), (some (7, false)), .bin .eql (.t 10) (.c (.int .i64 1)), []⟩,
      ⟨(some 12), none, .pick (.t 7) (.c (.bool true)) (.t 11), []⟩,
      ⟨(some 2), none, .mov (.t 12), []⟩] false)
  (.ret))
def quota_counts : IFn := ⟨1, 13, [.tmp 2], false, quota_counts_c⟩

/-- function 44: orchestrator/ orchestratorref22.counts -/
def ref22_counts_c : IR :=
  .seq (.reg [⟨(some 1), none, .box 32 (.t 0), []⟩,
      ⟨(some 2), none, .mov (.c (.bool false)), []⟩] false)
  (.seq (.reg [⟨(some 3), none, .faddr 23 (.t 1), []⟩,
      ⟨(some 4), none, .faddr 0 (.t 3), []⟩,
      ⟨(some 5), none, .load 1 false (.t 4), []⟩,
      ⟨(some 6), none, .bin .eql (.t 5) (.c (.int .i64 0)), []⟩,
      ⟨(some 7), none, .mov (.t 6), []⟩,
      ⟨(some 8), (some (7, false)), .faddr 23 (.t 1), []⟩,
      ⟨(some 9), (some (7, false)), .faddr 0 (.t 8), []⟩,
      ⟨(some 10), (some (7, false)), .load 1 false (.t 9), []⟩,
      ⟨(some 11), (some (7, false)), .bin .eql (.t 10) (.c (.int .i64 1)), []⟩,
      ⟨(some 12), none, .pick (.t 7) (.c (.bool true)) (.t 11), []⟩,
      ⟨(some 2), none, .mov (.t 12), []⟩] false)
  (.ret))
def ref22_counts : IFn := ⟨1, 13, [.tmp 2], false, ref22_counts_c⟩

/-- function 45: orchestrator/ quota.of -/
def quota_of_b0_live : List Nat := [100017, 1, 5, 8, 9, 10]
def quota_of_b0 : IR :=
  .seq (.reg [⟨(some 11), none, .bin .lss (.t 10) (.t 9), []⟩] false)
    (.seq (.cond (.t 11) (.skip)
        (.exit 0))
    (.seq (.block 1 (.seq (.reg [⟨(some 12), none, .iaddr 32 (.t 8) (.t 10), []⟩,
            ⟨(some 13), none, .load 32 true (.t 12), []⟩,
            ⟨(some 7), none, .zero [.str ⟨#[]⟩, .str ⟨#[]⟩, .str ⟨#[]⟩, .int .i64 0, .int .i64 0, .int .i64 0, .int .i64 0, .bool false, .int .i64 0, .ns 2, .ns 5, .ns 1, .ns 2, .str ⟨#[]⟩, .int .i64 0, .int .i64 0, .int .i64 0, .ns 11, .ns 3, .ns 3, .ns 5, .ns 4, .ns 5, .int .i64 0, .bool false, .int .i64 0, .int .i64 0, .int .i64 0, .ns 7, .int .i64 0, .str ⟨#[]⟩, .str ⟨#[]⟩], []⟩,
            ⟨none, none, .store 32 (.t 7) (.t 13), []⟩] false)
        (.seq (.reg [⟨(some 14), none, .faddr 0 (.t 7), []⟩,
            ⟨(some 15), none, .faddr 1 (.t 14), []⟩,
            ⟨(some 16), none, .load 1 false (.t 15), []⟩,
            ⟨(some 17), none, .mov (.t 1), []⟩,
            ⟨(some 18), none, .bin .eql (.t 16) (.t 17), []⟩] false)
        (.cond (.t 18) (.reg [⟨(some 19), none, .mov (.t 5), []⟩,
            ⟨(some 20), none, .load 32 true (.t 7), []⟩,
            ⟨(some 21), none, .lit 32 1 [.str ⟨#[]⟩, .str ⟨#[]⟩, .str ⟨#[]⟩, .int .i64 0, .int .i64 0, .int .i64 0, .int .i64 0, .bool false, .int .i64 0, .ns 2, .ns 5, .ns 1, .ns 2, .str ⟨#[]⟩, .int .i64 0, .int .i64 0, .int .i64 0, .ns 11, .ns 3, .ns 3, .ns 5, .ns 4, .ns 5, .int .i64 0, .bool false, .int .i64 0, .int .i64 0, .int .i64 0, .ns 7, .int .i64 0, .str ⟨#[]⟩, .str ⟨#[]⟩] [(0, .t 20)], []⟩,
            ⟨(some 22), none, .append 32 480 (.t 19) (.t 21), []⟩,
            ⟨(some 5), none, .mov (.t 22), []⟩] false)
          (.skip)))))
    (.reg [⟨(some 23), none, .bin .add (.t 10) (.c (.int .i64 1)), []⟩,
      ⟨(some 10), none, .mov (.t 23), []⟩] false)))
def quota_of_c : IR :=
  .seq (.reg [⟨(some 4), none, .mov (.c (.ns 32)), []⟩] false)
  (.seq (.reg [⟨(some 5), none, .mov (.c (.ns 32)), []⟩] false)
  (.seq (.seq (.reg [⟨(some 8), none, .mov (.t 0), []⟩,
        ⟨(some 9), none, .len false (.t 8), []⟩,
        ⟨(some 10), none, .mov (.c (.int .i64 0)), []⟩] false)
    (.block 0 (.loop quota_of_b0_live quota_of_b0)))
  (.seq (.reg [⟨(some 24), none, .mov (.t 5), []⟩,
      ⟨(some 4), none, .mov (.t 24), []⟩] false)
  (.ret))))
def quota_of : IFn := ⟨2, 25, [.tmp 4], false, quota_of_c⟩

/-- function 46: orchestrator/ orchestratorref22.Own -/
def ref22_Own_b0_live : List Nat := [100018, 0, 1, 5, 6]
def ref22_Own_b0 : IR :=
  .seq (.seq (.reg [⟨(some 7), none, .mov (.t 6), []⟩,
          ⟨(some 8), none, .mov (.t 1), []⟩,
          ⟨(some 9), none, .len false (.t 8), []⟩,
          ⟨(some 10), none, .bin .lss (.t 7) (.t 9), []⟩] false)
      (.cond (.t 10) (.skip)
        (.exit 0)))
    (.seq (.block 1 (.seq (.reg [⟨(some 13), none, .mov (.t 1), []⟩,
            ⟨(some 14), none, .mov (.t 6), []⟩,
            ⟨(some 15), none, .iaddr 32 (.t 13) (.t 14), []⟩,
            ⟨(some 16), none, .faddr 0 (.t 15), []⟩,
            ⟨(some 17), none, .faddr 1 (.t 16), []⟩,
            ⟨(some 18), none, .load 1 false (.t 17), []⟩,
            ⟨(some 19), none, .mov (.t 0), []⟩,
            ⟨(some 20), none, .bin .eql (.t 18) (.t 19), []⟩] false)
        (.cond (.t 20) (.reg [⟨(some 21), none, .mov (.t 5), []⟩,
            ⟨(some 22), none, .mov (.t 1), []⟩,
            ⟨(some 23), none, .mov (.t 6), []⟩,
            ⟨(some 24), none, .iaddr 32 (.t 22) (.t 23), []⟩,
            ⟨(some 25), none, .load 32 true (.t 24), []⟩,
            ⟨(some 26), none, .lit 32 1 [.str ⟨#[]⟩, .str ⟨#[]⟩, .str ⟨#[]⟩, .int .i64 0, .int .i64 0, .int .i64 0, .int .i64 0, .bool false, .int .i64 0, .ns 2, .ns 5, .ns 1, .ns 2, .str ⟨#[]⟩, .int .i64 0, .int .i64 0, .int .i64 0, .ns 11, .ns 3, .ns 3, .ns 5, .ns 4, .ns 5, .int .i64 0, .bool false, .int .i64 0, .int .i64 0, .int .i64 0, .ns 7, .int .i64 0, .str ⟨#[]⟩, .str ⟨#[]⟩] [(0, .t 25)], []⟩,
            ⟨(some 27), none, .append 32 480 (.t 21) (.t 26), []⟩,
            ⟨(some 5), none, .mov (.t 27), []⟩] false)
          (.skip))))
    (.reg [⟨(some 11), none, .mov (.t 6), []⟩,
      ⟨(some 12), none, .bin .add (.t 11) (.c (.int .i64 1)), []⟩,
      ⟨(some 6), none, .mov (.t 12), []⟩] false))
def ref22_Own_c : IR :=
  .seq (.reg [⟨(some 4), none, .mov (.c (.ns 32)), []⟩] false)
  (.seq (.reg [⟨(some 5), none, .mov (.c (.ns 32)), []⟩] false)
  (.seq (.seq (.reg [⟨(some 6), none, .mov (.c (.int .i64 0)), []⟩] false)
    (.block 0 (.loop ref22_Own_b0_live ref22_Own_b0)))
  (.seq (.reg [⟨(some 28), none, .mov (.t 5), []⟩,
      ⟨(some 4), none, .mov (.t 28), []⟩] false)
  (.ret))))
def ref22_Own : IFn := ⟨2, 29, [.tmp 4], false, ref22_Own_c⟩

/-- function 47: orchestrator/ quota.over -/
def quota_over_c : IR :=
  .seq (.reg [⟨(some 4), none, .mov (.c (.bool false)), []⟩] false)
  (.seq (.reg [⟨(some 5), none, .mov (.t 1), []⟩,
      ⟨(some 6), none, .bin .gtr (.t 5) (.c (.int .i64 0)), []⟩,
      ⟨(some 7), none, .mov (.t 6), []⟩,
      ⟨(some 8), (some (7, true)), .mov (.t 0), []⟩,
      ⟨(some 9), (some (7, true)), .mov (.t 1), []⟩,
      ⟨(some 10), (some (7, true)), .bin .gtr (.t 8) (.t 9), []⟩,
      ⟨(some 11), none, .pick (.t 7) (.t 10) (.c (.bool false)), []⟩,
      ⟨(some 4), none, .mov (.t 11), []⟩] false)
  (.ret))
def quota_over : IFn := ⟨2, 12, [.tmp 4], false, quota_over_c⟩

/-- function 48: orchestrator/ orchestratorref22.over -/
def ref22_over_c : IR :=
  .seq (.reg [⟨(some 4), none, .mov (.c (.bool false)), []⟩] false)
  (.seq (.reg [⟨(some 5), none, .mov (.t 1), []⟩,
      ⟨(some 6), none, .bin .gtr (.t 5) (.c (.int .i64 0)), []⟩,
      ⟨(some 7), none, .mov (.t 6), []⟩,
      ⟨(some 8), (some (7, true)), .mov (.t 0), []⟩,
      ⟨(some 9), (some (7, true)), .mov (.t 1), []⟩,
      ⟨(some 10), (some (7, true)), .bin .gtr (.t 8) (.t 9), []⟩,
      ⟨(some 11), none, .pick (.t 7) (.t 10) (.c (.bool false)), []⟩,
      ⟨(some 4), none, .mov (.t 11), []⟩] false)
  (.ret))
def ref22_over : IFn := ⟨2, 12, [.tmp 4], false, ref22_over_c⟩

/-- function 49: orchestrator/ orchestratorref03.Same -/
def ref03_Same_b0_live : List Nat := [100019, 0, 1, 5]
def ref03_Same_b0 : IR :=
  .seq (.seq (.reg [⟨(some 11), none, .mov (.t 5), []⟩,
          ⟨(some 12), none, .mov (.t 0), []⟩,
          ⟨(some 13), none, .len false (.t 12), []⟩,
          ⟨(some 14), none, .bin .lss (.t 11) (.t 13), []⟩] false)
      (.cond (.t 14) (.skip)
        (.exit 0)))
    (.seq (.block 1 (.seq (.reg [⟨(some 17), none, .mov (.t 0), []⟩,
            ⟨(some 18), none, .mov (.t 5), []⟩,
            ⟨(some 19), none, .iaddr 2 (.t 17) (.t 18), [0, 1]⟩,
            ⟨(some 20), none, .load 2 true (.t 19), [0, 1, 2]⟩,
            ⟨(some 21), none, .mov (.t 1), []⟩,
            ⟨(some 22), none, .mov (.t 5), []⟩,
            ⟨(some 23), none, .iaddr 2 (.t 21) (.t 22), [4, 5]⟩,
            ⟨(some 24), none, .load 2 true (.t 23), [4, 5, 6]⟩,
            ⟨(some 25), none, .eqs (.st [(0, 1, .str), (1, 1, .str)]) true (.t 20) (.t 24), [0, 1, 2, 3, 4, 5, 6, 7]⟩] true)
        (.cond (.t 25) (.seq (.reg [⟨(some 4), none, .mov (.c (.bool false)), []⟩] false)
          (.ret))
          (.skip))))
    (.reg [⟨(some 15), none, .mov (.t 5), []⟩,
      ⟨(some 16), none, .bin .add (.t 15) (.c (.int .i64 1)), []⟩,
      ⟨(some 5), none, .mov (.t 16), []⟩] false))
def ref03_Same_c : IR :=
  .seq (.reg [⟨(some 4), none, .mov (.c (.bool false)), []⟩] false)
  (.seq (.seq (.reg [⟨(some 6), none, .mov (.t 0), []⟩,
        ⟨(some 7), none, .len false (.t 6), []⟩,
        ⟨(some 8), none, .mov (.t 1), []⟩,
        ⟨(some 9), none, .len false (.t 8), []⟩,
        ⟨(some 10), none, .bin .neq (.t 7) (.t 9), []⟩] false)
    (.cond (.t 10) (.seq (.reg [⟨(some 4), none, .mov (.c (.bool false)), []⟩] false)
      (.ret))
      (.skip)))
  (.seq (.seq (.reg [⟨(some 5), none, .mov (.c (.int .i64 0)), []⟩] false)
    (.block 0 (.loop ref03_Same_b0_live ref03_Same_b0)))
  (.seq (.reg [⟨(some 4), none, .mov (.c (.bool true)), []⟩] false)
  (.ret))))
def ref03_Same : IFn := ⟨2, 26, [.tmp 4], false, ref03_Same_c⟩

/-- function 50: orchestrator/ orchestratorref03.SameStrings -/
def ref03_SameStrings_b0_live : List Nat := [100020, 0, 1, 5]
def ref03_SameStrings_b0 : IR :=
  .seq (.seq (.reg [⟨(some 11), none, .mov (.t 5), []⟩,
          ⟨(some 12), none, .mov (.t 0), []⟩,
          ⟨(some 13), none, .len false (.t 12), []⟩,
          ⟨(some 14), none, .bin .lss (.t 11) (.t 13), []⟩] false)
      (.cond (.t 14) (.skip)
        (.exit 0)))
    (.seq (.block 1 (.seq (.reg [⟨(some 17), none, .mov (.t 0), []⟩,
            ⟨(some 18), none, .mov (.t 5), []⟩,
            ⟨(some 19), none, .iaddr 1 (.t 17) (.t 18), [0, 1]⟩,
            ⟨(some 20), none, .load 1 false (.t 19), [0, 1, 2]⟩,
            ⟨(some 21), none, .mov (.t 1), []⟩,
            ⟨(some 22), none, .mov (.t 5), []⟩,
            ⟨(some 23), none, .iaddr 1 (.t 21) (.t 22), [4, 5]⟩,
            ⟨(some 24), none, .load 1 false (.t 23), [4, 5, 6]⟩,
            ⟨(some 25), none, .bin .neq (.t 20) (.t 24), [0, 1, 2, 3, 4, 5, 6, 7]⟩] true)
        (.cond (.t 25) (.seq (.reg [⟨(some 4), none, .mov (.c (.bool false)), []⟩] false)
          (.ret))
          (.skip))))
    (.reg [⟨(some 15), none, .mov (.t 5), []⟩,
      ⟨(some 16), none, .bin .add (.t 15) (.c (.int .i64 1)), []⟩,
      ⟨(some 5), none, .mov (.t 16), []⟩] false))
def ref03_SameStrings_c : IR :=
  .seq (.reg [⟨(some 4), none, .mov (.c (.bool false)), []⟩] false)
  (.seq (.seq (.reg [⟨(some 6), none, .mov (.t 0), []⟩,
        ⟨(some 7), none, .len false (.t 6), []⟩,
        ⟨(some 8), none, .mov (.t 1), []⟩,
        ⟨(some 9), none, .len false (.t 8), []⟩,
        ⟨(some 10), none, .bin .neq (.t 7) (.t 9), []⟩] false)
    (.cond (.t 10) (.seq (.reg [⟨(some 4), none, .mov (.c (.bool false)), []⟩] false)
      (.ret))
      (.skip)))
  (.seq (.seq (.reg [⟨(some 5), none, .mov (.c (.int .i64 0)), []⟩] false)
    (.block 0 (.loop ref03_SameStrings_b0_live ref03_SameStrings_b0)))
  (.seq (.reg [⟨(some 4), none, .mov (.c (.bool true)), []⟩] false)
  (.ret))))
def ref03_SameStrings : IFn := ⟨2, 26, [.tmp 4], false, ref03_SameStrings_c⟩

/-- function 51: orchestrator/ orchestratorref19.FromSpec -/
def ref19_FromSpec_c : IR :=
  .seq (.reg [⟨(some 1), none, .box 10 (.t 0), []⟩,
      ⟨(some 2), none, .zero [.int .i64 0, .int .i64 0, .str ⟨#[]⟩, .ns 5, .ns 6], []⟩] false)
  (.seq (.reg [⟨(some 3), none, .faddr 4 (.t 1), []⟩,
      ⟨(some 4), none, .load 1 false (.t 3), [0]⟩,
      ⟨(some 5), none, .call false (.f 56) [.t 4], [0, 1]⟩,
      ⟨(some 6), none, .call false (.f 55) [.c (.str ⟨#[99, 111, 110, 116, 97, 105, 110, 101, 114, 115]⟩), .t 5], [0, 1, 2]⟩,
      ⟨(some 7), none, .faddr 3 (.t 1), []⟩,
      ⟨(some 8), none, .load 1 false (.t 7), [4]⟩,
      ⟨(some 9), none, .call false (.f 57) [.t 8], [0, 1, 2, 3, 4, 5]⟩,
      ⟨(some 10), none, .call false (.f 55) [.c (.str ⟨#[103, 114, 97, 99, 101]⟩), .t 9], [0, 1, 2, 3, 4, 5, 6]⟩,
      ⟨(some 11), none, .faddr 0 (.t 1), []⟩,
      ⟨(some 12), none, .load 1 false (.t 11), [8]⟩,
      ⟨(some 13), none, .call false (.f 58) [.t 12], [0, 1, 2, 3, 4, 5, 6, 7, 8, 9]⟩,
      ⟨(some 14), none, .call false (.f 55) [.c (.str ⟨#[110, 111, 100, 101]⟩), .t 13], [0, 1, 2, 3, 4, 5, 6, 7, 8, 9, 10]⟩,
      ⟨(some 15), none, .faddr 5 (.t 1), []⟩,
      ⟨(some 16), none, .load 1 false (.t 15), [12]⟩,
      ⟨(some 17), none, .call false (.f 59) [.t 16], [0, 1, 2, 3, 4, 5, 6, 7, 8, 9, 10, 11, 12, 13]⟩,
      ⟨(some 18), none, .call false (.f 55) [.c (.str ⟨#[110, 111, 100, 101, 83, 101, 108, 101, 99, 116, 111, 114]⟩), .t 17], [0, 1, 2, 3, 4, 5, 6, 7, 8, 9, 10, 11, 12, 13, 14]⟩,
      ⟨(some 19), none, .faddr 6 (.t 1), []⟩,
      ⟨(some 20), none, .load 1 false (.t 19), [16]⟩,
      ⟨(some 21), none, .call false (.f 60) [.t 20], [0, 1, 2, 3, 4, 5, 6, 7, 8, 9, 10, 11, 12, 13, 14, 15, 16, 17]⟩,
      ⟨(some 22), none, .call false (.f 55) [.c (.str ⟨#[110, 111, 100, 101, 84, 101, 114, 109, 115]⟩), .t 21], [0, 1, 2, 3, 4, 5, 6, 7, 8, 9, 10, 11, 12, 13, 14, 15, 16, 17, 18]⟩,
      ⟨(some 23), none, .faddr 7 (.t 1), []⟩,
      ⟨(some 24), none, .load 1 false (.t 23), [20]⟩,
      ⟨(some 25), none, .call false (.f 61) [.t 24], [0, 1, 2, 3, 4, 5, 6, 7, 8, 9, 10, 11, 12, 13, 14, 15, 16, 17, 18, 19, 20, 21]⟩,
      ⟨(some 26), none, .call false (.f 55) [.c (.str ⟨#[112, 111, 100, 84, 101, 114, 109, 115]⟩), .t 25], [0, 1, 2, 3, 4, 5, 6, 7, 8, 9, 10, 11, 12, 13, 14, 15, 16, 17, 18, 19, 20, 21, 22]⟩,
      ⟨(some 27), none, .faddr 1 (.t 1), []⟩,
      ⟨(some 28), none, .load 1 false (.t 27), [24]⟩,
      ⟨(some 29), none, .call false (.f 57) [.t 28], [0, 1, 2, 3, 4, 5, 6, 7, 8, 9, 10, 11, 12, 13, 14, 15, 16, 17, 18, 19, 20, 21, 22, 23, 24, 25]⟩,
      ⟨(some 30), none, .call false (.f 55) [.c (.str ⟨#[112, 114, 105, 111, 114, 105, 116, 121]⟩), .t 29], [0, 1, 2, 3, 4, 5, 6, 7, 8, 9, 10, 11, 12, 13, 14, 15, 16, 17, 18, 19, 20, 21, 22, 23, 24, 25, 26]⟩,
      ⟨(some 31), none, .faddr 2 (.t 1), []⟩,
      ⟨(some 32), none, .load 1 false (.t 31), [28]⟩,
      ⟨(some 33), none, .call false (.f 57) [.t 32], [0, 1, 2, 3, 4, 5, 6, 7, 8, 9, 10, 11, 12, 13, 14, 15, 16, 17, 18, 19, 20, 21, 22, 23, 24, 25, 26, 27, 28, 29]⟩,
      ⟨(some 34), none, .call false (.f 55) [.c (.str ⟨#[114, 101, 115, 116, 97, 114, 116]⟩), .t 33], [0, 1, 2, 3, 4, 5, 6, 7, 8, 9, 10, 11, 12, 13, 14, 15, 16, 17, 18, 19, 20, 21, 22, 23, 24, 25, 26, 27, 28, 29, 30]⟩,
      ⟨(some 35), none, .faddr 8 (.t 1), []⟩,
      ⟨(some 36), none, .load 1 false (.t 35), [32]⟩,
      ⟨(some 37), none, .call false (.f 62) [.t 36], [0, 1, 2, 3, 4, 5, 6, 7, 8, 9, 10, 11, 12, 13, 14, 15, 16, 17, 18, 19, 20, 21, 22, 23, 24, 25, 26, 27, 28, 29, 30, 31, 32, 33]⟩,
      ⟨(some 38), none, .call false (.f 55) [.c (.str ⟨#[115, 112, 114, 101, 97, 100]⟩), .t 37], [0, 1, 2, 3, 4, 5, 6, 7, 8, 9, 10, 11, 12, 13, 14, 15, 16, 17, 18, 19, 20, 21, 22, 23, 24, 25, 26, 27, 28, 29, 30, 31, 32, 33, 34]⟩,
      ⟨(some 39), none, .faddr 9 (.t 1), []⟩,
      ⟨(some 40), none, .load 1 false (.t 39), [36]⟩,
      ⟨(some 41), none, .call false (.f 63) [.t 40], [0, 1, 2, 3, 4, 5, 6, 7, 8, 9, 10, 11, 12, 13, 14, 15, 16, 17, 18, 19, 20, 21, 22, 23, 24, 25, 26, 27, 28, 29, 30, 31, 32, 33, 34, 35, 36, 37]⟩,
      ⟨(some 42), none, .call false (.f 55) [.c (.str ⟨#[116, 111, 108, 101, 114, 97, 116, 105, 111, 110, 115]⟩), .t 41], [0, 1, 2, 3, 4, 5, 6, 7, 8, 9, 10, 11, 12, 13, 14, 15, 16, 17, 18, 19, 20, 21, 22, 23, 24, 25, 26, 27, 28, 29, 30, 31, 32, 33, 34, 35, 36, 37, 38]⟩,
      ⟨(some 43), none, .lit 6 10 [.str ⟨#[]⟩, .int .i64 0, .int .i64 0, .str ⟨#[]⟩, .ns 5, .ns 6] [(0, .t 6), (1, .t 10), (2, .t 14), (3, .t 18), (4, .t 22), (5, .t 26), (6, .t 30), (7, .t 34), (8, .t 38), (9, .t 42)], [0, 1, 2, 3, 4, 5, 6, 7, 8, 9, 10, 11, 12, 13, 14, 15, 16, 17, 18, 19, 20, 21, 22, 23, 24, 25, 26, 27, 28, 29, 30, 31, 32, 33, 34, 35, 36, 37, 38, 39]⟩,
      ⟨(some 44), none, .call false (.f 54) [.t 43], [0, 1, 2, 3, 4, 5, 6, 7, 8, 9, 10, 11, 12, 13, 14, 15, 16, 17, 18, 19, 20, 21, 22, 23, 24, 25, 26, 27, 28, 29, 30, 31, 32, 33, 34, 35, 36, 37, 38, 39, 40]⟩,
      ⟨none, none, .store 5 (.t 2) (.t 44), [0, 1, 2, 3, 4, 5, 6, 7, 8, 9, 10, 11, 12, 13, 14, 15, 16, 17, 18, 19, 20, 21, 22, 23, 24, 25, 26, 27, 28, 29, 30, 31, 32, 33, 34, 35, 36, 37, 38, 39, 40, 41]⟩] true)
  (.ret))
def ref19_FromSpec : IFn := ⟨1, 45, [.cell 2 5 true], false, ref19_FromSpec_c⟩

/-- function 52: orchestrator/ orchestratorref19.fromStatus -/
def ref19_fromStatus_c : IR :=
  .seq (.reg [⟨(some 1), none, .box 9 (.t 0), []⟩,
      ⟨(some 2), none, .zero [.int .i64 0, .int .i64 0, .str ⟨#[]⟩, .ns 5, .ns 6], []⟩] false)
  (.seq (.reg [⟨(some 3), none, .faddr 6 (.t 1), []⟩,
      ⟨(some 4), none, .load 1 false (.t 3), [0]⟩,
      ⟨(some 5), none, .call false (.f 57) [.t 4], [0, 1]⟩,
      ⟨(some 6), none, .call false (.f 55) [.c (.str ⟨#[97, 100, 100, 114, 101, 115, 115]⟩), .t 5], [0, 1, 2]⟩,
      ⟨(some 7), none, .faddr 5 (.t 1), []⟩,
      ⟨(some 8), none, .load 1 false (.t 7), [4]⟩,
      ⟨(some 9), none, .call false (.f 64) [.t 8], [0, 1, 2, 3, 4, 5]⟩,
      ⟨(some 10), none, .call false (.f 55) [.c (.str ⟨#[99, 111, 110, 116, 97, 105, 110, 101, 114, 115]⟩), .t 9], [0, 1, 2, 3, 4, 5, 6]⟩,
      ⟨(some 11), none, .faddr 4 (.t 1), []⟩,
      ⟨(some 12), none, .load 1 false (.t 11), [8]⟩,
      ⟨(some 13), none, .call false (.f 57) [.t 12], [0, 1, 2, 3, 4, 5, 6, 7, 8, 9]⟩,
      ⟨(some 14), none, .call false (.f 55) [.c (.str ⟨#[102, 105, 110, 105, 115, 104, 101, 100]⟩), .t 13], [0, 1, 2, 3, 4, 5, 6, 7, 8, 9, 10]⟩,
      ⟨(some 15), none, .faddr 7 (.t 1), []⟩,
      ⟨(some 16), none, .load 1 false (.t 15), [12]⟩,
      ⟨(some 17), none, .call false (.f 58) [.t 16], [0, 1, 2, 3, 4, 5, 6, 7, 8, 9, 10, 11, 12, 13]⟩,
      ⟨(some 18), none, .call false (.f 55) [.c (.str ⟨#[110, 111, 109, 105, 110, 97, 116, 101, 100]⟩), .t 17], [0, 1, 2, 3, 4, 5, 6, 7, 8, 9, 10, 11, 12, 13, 14]⟩,
      ⟨(some 19), none, .faddr 0 (.t 1), []⟩,
      ⟨(some 20), none, .load 1 false (.t 19), [16]⟩,
      ⟨(some 21), none, .call false (.f 57) [.t 20], [0, 1, 2, 3, 4, 5, 6, 7, 8, 9, 10, 11, 12, 13, 14, 15, 16, 17]⟩,
      ⟨(some 22), none, .call false (.f 55) [.c (.str ⟨#[112, 104, 97, 115, 101]⟩), .t 21], [0, 1, 2, 3, 4, 5, 6, 7, 8, 9, 10, 11, 12, 13, 14, 15, 16, 17, 18]⟩,
      ⟨(some 23), none, .faddr 1 (.t 1), []⟩,
      ⟨(some 24), none, .load 1 false (.t 23), [20]⟩,
      ⟨(some 25), none, .call false (.f 65) [.t 24], [0, 1, 2, 3, 4, 5, 6, 7, 8, 9, 10, 11, 12, 13, 14, 15, 16, 17, 18, 19, 20, 21]⟩,
      ⟨(some 26), none, .call false (.f 55) [.c (.str ⟨#[114, 101, 97, 100, 121]⟩), .t 25], [0, 1, 2, 3, 4, 5, 6, 7, 8, 9, 10, 11, 12, 13, 14, 15, 16, 17, 18, 19, 20, 21, 22]⟩,
      ⟨(some 27), none, .faddr 2 (.t 1), []⟩,
      ⟨(some 28), none, .load 1 false (.t 27), [24]⟩,
      ⟨(some 29), none, .call false (.f 57) [.t 28], [0, 1, 2, 3, 4, 5, 6, 7, 8, 9, 10, 11, 12, 13, 14, 15, 16, 17, 18, 19, 20, 21, 22, 23, 24, 25]⟩,
      ⟨(some 30), none, .call false (.f 55) [.c (.str ⟨#[114, 101, 97, 100, 121, 83, 105, 110, 99, 101]⟩), .t 29], [0, 1, 2, 3, 4, 5, 6, 7, 8, 9, 10, 11, 12, 13, 14, 15, 16, 17, 18, 19, 20, 21, 22, 23, 24, 25, 26]⟩,
      ⟨(some 31), none, .faddr 8 (.t 1), []⟩,
      ⟨(some 32), none, .load 1 false (.t 31), [28]⟩,
      ⟨(some 33), none, .call false (.f 58) [.t 32], [0, 1, 2, 3, 4, 5, 6, 7, 8, 9, 10, 11, 12, 13, 14, 15, 16, 17, 18, 19, 20, 21, 22, 23, 24, 25, 26, 27, 28, 29]⟩,
      ⟨(some 34), none, .call false (.f 55) [.c (.str ⟨#[114, 101, 97, 115, 111, 110]⟩), .t 33], [0, 1, 2, 3, 4, 5, 6, 7, 8, 9, 10, 11, 12, 13, 14, 15, 16, 17, 18, 19, 20, 21, 22, 23, 24, 25, 26, 27, 28, 29, 30]⟩,
      ⟨(some 35), none, .faddr 3 (.t 1), []⟩,
      ⟨(some 36), none, .load 1 false (.t 35), [32]⟩,
      ⟨(some 37), none, .call false (.f 57) [.t 36], [0, 1, 2, 3, 4, 5, 6, 7, 8, 9, 10, 11, 12, 13, 14, 15, 16, 17, 18, 19, 20, 21, 22, 23, 24, 25, 26, 27, 28, 29, 30, 31, 32, 33]⟩,
      ⟨(some 38), none, .call false (.f 55) [.c (.str ⟨#[115, 116, 97, 114, 116, 101, 100]⟩), .t 37], [0, 1, 2, 3, 4, 5, 6, 7, 8, 9, 10, 11, 12, 13, 14, 15, 16, 17, 18, 19, 20, 21, 22, 23, 24, 25, 26, 27, 28, 29, 30, 31, 32, 33, 34]⟩,
      ⟨(some 39), none, .lit 6 9 [.str ⟨#[]⟩, .int .i64 0, .int .i64 0, .str ⟨#[]⟩, .ns 5, .ns 6] [(0, .t 6), (1, .t 10), (2, .t 14), (3, .t 18), (4, .t 22), (5, .t 26), (6, .t 30), (7, .t 34), (8, .t 38)], [0, 1, 2, 3, 4, 5, 6, 7, 8, 9, 10, 11, 12, 13, 14, 15, 16, 17, 18, 19, 20, 21, 22, 23, 24, 25, 26, 27, 28, 29, 30, 31, 32, 33, 34, 35]⟩,
      ⟨(some 40), none, .call false (.f 54) [.t 39], [0, 1, 2, 3, 4, 5, 6, 7, 8, 9, 10, 11, 12, 13, 14, 15, 16, 17, 18, 19, 20, 21, 22, 23, 24, 25, 26, 27, 28, 29, 30, 31, 32, 33, 34, 35, 36]⟩,
      ⟨none, none, .store 5 (.t 2) (.t 40), [0, 1, 2, 3, 4, 5, 6, 7, 8, 9, 10, 11, 12, 13, 14, 15, 16, 17, 18, 19, 20, 21, 22, 23, 24, 25, 26, 27, 28, 29, 30, 31, 32, 33, 34, 35, 36, 37]⟩] true)
  (.ret))
def ref19_fromStatus : IFn := ⟨1, 41, [.cell 2 5 true], false, ref19_fromStatus_c⟩

/-- function 53: orchestrator/ orchestratorref06.left -/
def ref06_left_b1_live : List Nat := [100022, 1, 2, 6]
def ref06_left_b1 : IR :=
  .seq (.seq (.reg [⟨(some 31), none, .mov (.t 6), []⟩,
          ⟨(some 32), none, .faddr 4 (.t 2), []⟩,
          ⟨(some 33), none, .load 1 false (.t 32), []⟩,
          ⟨(some 34), none, .len false (.t 33), []⟩,
          ⟨(some 35), none, .bin .lss (.t 31) (.t 34), []⟩,
          ⟨(some 36), none, .mov (.t 35), []⟩,
          ⟨(some 37), (some (36, true)), .mov (.t 1), []⟩,
          ⟨(some 38), (some (36, true)), .bin .geq (.t 37) (.c (.int .i64 0)), []⟩,
          ⟨(some 39), none, .pick (.t 36) (.t 38) (.c (.bool false)), []⟩] false)
      (.cond (.t 39) (.skip)
        (.exit 2)))
    (.seq (.block 3 (.reg [⟨(some 42), none, .faddr 4 (.t 2), []⟩,
          ⟨(some 43), none, .load 1 false (.t 42), [0]⟩,
          ⟨(some 44), none, .mov (.t 6), []⟩,
          ⟨(some 45), none, .iaddr 6 (.t 43) (.t 44), [0, 1, 2]⟩,
          ⟨(some 46), none, .faddr 1 (.t 45), [0, 1, 2, 3]⟩,
          ⟨(some 47), none, .load 5 true (.t 46), [0, 1, 2, 3, 4]⟩,
          ⟨(some 48), none, .mov (.t 1), []⟩,
          ⟨(some 49), none, .faddr 4 (.t 2), []⟩,
          ⟨(some 50), none, .load 1 false (.t 49), [7]⟩,
          ⟨(some 51), none, .mov (.t 6), []⟩,
          ⟨(some 52), none, .iaddr 6 (.t 50) (.t 51), [7, 8, 9]⟩,
          ⟨(some 53), none, .faddr 0 (.t 52), [7, 8, 9, 10]⟩,
          ⟨(some 54), none, .load 1 false (.t 53), [7, 8, 9, 10, 11]⟩,
          ⟨(some 55), none, .len true (.t 54), [7, 8, 9, 10, 11, 12]⟩,
          ⟨(some 56), none, .bin .sub (.t 48) (.t 55), [6, 7, 8, 9, 10, 11, 12, 13]⟩,
          ⟨(some 57), none, .call false (.f 53) [.t 47, .t 56], [0, 1, 2, 3, 4, 5, 6, 7, 8, 9, 10, 11, 12, 13, 14]⟩,
          ⟨(some 1), none, .mov (.t 57), [0, 1, 2, 3, 4, 5, 6, 7, 8, 9, 10, 11, 12, 13, 14, 15]⟩] true))
    (.reg [⟨(some 40), none, .mov (.t 6), []⟩,
      ⟨(some 41), none, .bin .add (.t 40) (.c (.int .i64 1)), []⟩,
      ⟨(some 6), none, .mov (.t 41), []⟩] false))
def ref06_left_b0_live : List Nat := [100021, 1, 2, 5]
def ref06_left_b0 : IR :=
  .seq (.seq (.reg [⟨(some 13), none, .mov (.t 5), []⟩,
          ⟨(some 14), none, .faddr 3 (.t 2), []⟩,
          ⟨(some 15), none, .load 1 false (.t 14), []⟩,
          ⟨(some 16), none, .len false (.t 15), []⟩,
          ⟨(some 17), none, .bin .lss (.t 13) (.t 16), []⟩,
          ⟨(some 18), none, .mov (.t 17), []⟩,
          ⟨(some 19), (some (18, true)), .mov (.t 1), []⟩,
          ⟨(some 20), (some (18, true)), .bin .geq (.t 19) (.c (.int .i64 0)), []⟩,
          ⟨(some 21), none, .pick (.t 18) (.t 20) (.c (.bool false)), []⟩] false)
      (.cond (.t 21) (.skip)
        (.exit 0)))
    (.seq (.block 1 (.reg [⟨(some 24), none, .faddr 3 (.t 2), []⟩,
          ⟨(some 25), none, .load 1 false (.t 24), []⟩,
          ⟨(some 26), none, .mov (.t 5), []⟩,
          ⟨(some 27), none, .iaddr 5 (.t 25) (.t 26), []⟩,
          ⟨(some 28), none, .load 5 true (.t 27), []⟩,
          ⟨(some 29), none, .mov (.t 1), []⟩,
          ⟨(some 30), none, .call false (.f 53) [.t 28, .t 29], []⟩,
          ⟨(some 1), none, .mov (.t 30), []⟩] false))
    (.reg [⟨(some 22), none, .mov (.t 5), []⟩,
      ⟨(some 23), none, .bin .add (.t 22) (.c (.int .i64 1)), []⟩,
      ⟨(some 5), none, .mov (.t 23), []⟩] false))
def ref06_left_c : IR :=
  .seq (.reg [⟨(some 2), none, .box 5 (.t 0), []⟩,
      ⟨(some 4), none, .mov (.c (.int .i64 0)), []⟩] false)
  (.seq (.reg [⟨(some 7), none, .mov (.t 1), []⟩,
      ⟨(some 8), none, .bin .sub (.t 7) (.c (.int .i64 1)), []⟩,
      ⟨(some 9), none, .faddr 2 (.t 2), []⟩,
      ⟨(some 10), none, .load 1 false (.t 9), []⟩,
      ⟨(some 11), none, .len true (.t 10), []⟩,
      ⟨(some 12), none, .bin .sub (.t 8) (.t 11), []⟩,
      ⟨(some 1), none, .mov (.t 12), []⟩] false)
  (.seq (.seq (.reg [⟨(some 5), none, .mov (.c (.int .i64 0)), []⟩] false)
    (.block 0 (.loop ref06_left_b0_live ref06_left_b0)))
  (.seq (.seq (.reg [⟨(some 6), none, .mov (.c (.int .i64 0)), []⟩] false)
    (.block 2 (.loop ref06_left_b1_live ref06_left_b1)))
  (.seq (.reg [⟨(some 58), none, .mov (.t 1), []⟩,
      ⟨(some 4), none, .mov (.t 58), []⟩] false)
  (.ret)))))
def ref06_left : IFn := ⟨2, 59, [.tmp 4], false, ref06_left_c⟩

/-- function 54: orchestrator/ orchestratorref19.object -/
def ref19_object_c : IR :=
  .seq (.reg [⟨(some 2), none, .zero [.int .i64 0, .int .i64 0, .str ⟨#[]⟩, .ns 5, .ns 6], []⟩] false)
  (.seq (.reg [⟨(some 3), none, .mov (.t 0), []⟩,
      ⟨(some 4), none, .build [.int .i64 0, .int .i64 0, .str ⟨#[]⟩, .ns 5, .ns 6] [(0, 1, .c (.int .i64 5)), (4, 1, .t 3)], []⟩,
      ⟨none, none, .store 5 (.t 2) (.t 4), []⟩] false)
  (.ret))
def ref19_object : IFn := ⟨1, 5, [.cell 2 5 true], false, ref19_object_c⟩

/-- function 55: orchestrator/ orchestratorref19.at -/
def ref19_at_c : IR :=
  .seq (.reg [⟨(some 3), none, .box 5 (.t 1), []⟩,
      ⟨(some 4), none, .zero [.str ⟨#[]⟩, .int .i64 0, .int .i64 0, .str ⟨#[]⟩, .ns 5, .ns 6], []⟩] false)
  (.seq (.reg [⟨(some 5), none, .mov (.t 0), []⟩,
      ⟨(some 6), none, .load 5 true (.t 3), []⟩,
      ⟨(some 7), none, .build [.str ⟨#[]⟩, .int .i64 0, .int .i64 0, .str ⟨#[]⟩, .ns 5, .ns 6] [(0, 1, .t 5), (1, 5, .t 6)], []⟩,
      ⟨none, none, .store 6 (.t 4) (.t 7), []⟩] false)
  (.ret))
def ref19_at : IFn := ⟨2, 8, [.cell 4 6 true], false, ref19_at_c⟩

/-- function 56: orchestrator/ orchestratorref19.fromContainers -/
def ref19_fromContainers_b0_live : List Nat := [100023, 0, 2, 3, 4]
def ref19_fromContainers_b0 : IR :=
  .seq (.seq (.reg [⟨(some 6), none, .mov (.t 4), []⟩,
          ⟨(some 7), none, .mov (.t 0), []⟩,
          ⟨(some 8), none, .len false (.t 7), []⟩,
          ⟨(some 9), none, .bin .lss (.t 6) (.t 8), []⟩] false)
      (.cond (.t 9) (.skip)
        (.exit 0)))
    (.seq (.block 1 (.seq (.reg [⟨(some 12), none, .mov (.t 0), []⟩,
            ⟨(some 13), none, .mov (.t 4), []⟩,
            ⟨(some 14), none, .iaddr 11 (.t 12) (.t 13), []⟩,
            ⟨(some 15), none, .load 11 true (.t 14), []⟩,
            ⟨(some 5), none, .zero [.str ⟨#[]⟩, .str ⟨#[]⟩, .int .i64 0, .int .i64 0, .int .i64 0, .int .i64 0, .int .i64 0, .int .i64 0, .ns 4, .ns 4, .ns 4], []⟩,
            ⟨none, none, .store 11 (.t 5) (.t 15), []⟩] false)
        (.reg [⟨(some 16), none, .mov (.t 3), []⟩,
          ⟨(some 17), none, .faddr 1 (.t 5), []⟩,
          ⟨(some 18), none, .load 1 false (.t 17), [1]⟩,
          ⟨(some 19), none, .call false (.f 58) [.t 18], [1, 2]⟩,
          ⟨(some 20), none, .call false (.f 55) [.c (.str ⟨#[105, 109, 97, 103, 101]⟩), .t 19], [1, 2, 3]⟩,
          ⟨(some 21), none, .faddr 5 (.t 5), []⟩,
          ⟨(some 22), none, .load 3 true (.t 21), [5]⟩,
          ⟨(some 23), none, .call false (.f 66) [.t 22], [1, 2, 3, 4, 5, 6]⟩,
          ⟨(some 24), none, .call false (.f 55) [.c (.str ⟨#[108, 105, 109, 105, 116]⟩), .t 23], [1, 2, 3, 4, 5, 6, 7]⟩,
          ⟨(some 25), none, .faddr 8 (.t 5), []⟩,
          ⟨(some 26), none, .load 1 false (.t 25), [9]⟩,
          ⟨(some 27), none, .call false (.f 67) [.t 26], [1, 2, 3, 4, 5, 6, 7, 8, 9, 10]⟩,
          ⟨(some 28), none, .call false (.f 55) [.c (.str ⟨#[108, 105, 118, 101]⟩), .t 27], [1, 2, 3, 4, 5, 6, 7, 8, 9, 10, 11]⟩,
          ⟨(some 29), none, .faddr 0 (.t 5), []⟩,
          ⟨(some 30), none, .load 1 false (.t 29), [13]⟩,
          ⟨(some 31), none, .call false (.f 58) [.t 30], [1, 2, 3, 4, 5, 6, 7, 8, 9, 10, 11, 12, 13, 14]⟩,
          ⟨(some 32), none, .call false (.f 55) [.c (.str ⟨#[110, 97, 109, 101]⟩), .t 31], [1, 2, 3, 4, 5, 6, 7, 8, 9, 10, 11, 12, 13, 14, 15]⟩,
          ⟨(some 33), none, .faddr 9 (.t 5), []⟩,
          ⟨(some 34), none, .load 1 false (.t 33), [17]⟩,
          ⟨(some 35), none, .call false (.f 67) [.t 34], [1, 2, 3, 4, 5, 6, 7, 8, 9, 10, 11, 12, 13, 14, 15, 16, 17, 18]⟩,
          ⟨(some 36), none, .call false (.f 55) [.c (.str ⟨#[114, 101, 97, 100, 121]⟩), .t 35], [1, 2, 3, 4, 5, 6, 7, 8, 9, 10, 11, 12, 13, 14, 15, 16, 17, 18, 19]⟩,
          ⟨(some 37), none, .faddr 2 (.t 5), []⟩,
          ⟨(some 38), none, .load 3 true (.t 37), [21]⟩,
          ⟨(some 39), none, .call false (.f 66) [.t 38], [1, 2, 3, 4, 5, 6, 7, 8, 9, 10, 11, 12, 13, 14, 15, 16, 17, 18, 19, 20, 21, 22]⟩,
          ⟨(some 40), none, .call false (.f 55) [.c (.str ⟨#[114, 101, 113, 117, 101, 115, 116]⟩), .t 39], [1, 2, 3, 4, 5, 6, 7, 8, 9, 10, 11, 12, 13, 14, 15, 16, 17, 18, 19, 20, 21, 22, 23]⟩,
          ⟨(some 41), none, .faddr 10 (.t 5), []⟩,
          ⟨(some 42), none, .load 1 false (.t 41), [25]⟩,
          ⟨(some 43), none, .call false (.f 67) [.t 42], [1, 2, 3, 4, 5, 6, 7, 8, 9, 10, 11, 12, 13, 14, 15, 16, 17, 18, 19, 20, 21, 22, 23, 24, 25, 26]⟩,
          ⟨(some 44), none, .call false (.f 55) [.c (.str ⟨#[115, 116, 97, 114, 116, 117, 112]⟩), .t 43], [1, 2, 3, 4, 5, 6, 7, 8, 9, 10, 11, 12, 13, 14, 15, 16, 17, 18, 19, 20, 21, 22, 23, 24, 25, 26, 27]⟩,
          ⟨(some 45), none, .lit 6 7 [.str ⟨#[]⟩, .int .i64 0, .int .i64 0, .str ⟨#[]⟩, .ns 5, .ns 6] [(0, .t 20), (1, .t 24), (2, .t 28), (3, .t 32), (4, .t 36), (5, .t 40), (6, .t 44)], [1, 2, 3, 4, 5, 6, 7, 8, 9, 10, 11, 12, 13, 14, 15, 16, 17, 18, 19, 20, 21, 22, 23, 24, 25, 26, 27, 28]⟩,
          ⟨(some 46), none, .call false (.f 54) [.t 45], [1, 2, 3, 4, 5, 6, 7, 8, 9, 10, 11, 12, 13, 14, 15, 16, 17, 18, 19, 20, 21, 22, 23, 24, 25, 26, 27, 28, 29]⟩,
          ⟨(some 47), none, .lit 5 1 [.int .i64 0, .int .i64 0, .str ⟨#[]⟩, .ns 5, .ns 6] [(0, .t 46)], [1, 2, 3, 4, 5, 6, 7, 8, 9, 10, 11, 12, 13, 14, 15, 16, 17, 18, 19, 20, 21, 22, 23, 24, 25, 26, 27, 28, 29, 30]⟩,
          ⟨(some 48), none, .append 5 80 (.t 16) (.t 47), [0, 1, 2, 3, 4, 5, 6, 7, 8, 9, 10, 11, 12, 13, 14, 15, 16, 17, 18, 19, 20, 21, 22, 23, 24, 25, 26, 27, 28, 29, 30, 31]⟩,
          ⟨(some 3), none, .mov (.t 48), [0, 1, 2, 3, 4, 5, 6, 7, 8, 9, 10, 11, 12, 13, 14, 15, 16, 17, 18, 19, 20, 21, 22, 23, 24, 25, 26, 27, 28, 29, 30, 31, 32]⟩] true)))
    (.reg [⟨(some 10), none, .mov (.t 4), []⟩,
      ⟨(some 11), none, .bin .add (.t 10) (.c (.int .i64 1)), []⟩,
      ⟨(some 4), none, .mov (.t 11), []⟩] false))
def ref19_fromContainers_c : IR :=
  .seq (.reg [⟨(some 2), none, .zero [.int .i64 0, .int .i64 0, .str ⟨#[]⟩, .ns 5, .ns 6], []⟩] false)
  (.seq (.reg [⟨(some 3), none, .mov (.c (.ns 5)), []⟩] false)
  (.seq (.seq (.reg [⟨(some 4), none, .mov (.c (.int .i64 0)), []⟩] false)
    (.block 0 (.loop ref19_fromContainers_b0_live ref19_fromContainers_b0)))
  (.seq (.reg [⟨(some 49), none, .mov (.t 3), []⟩,
      ⟨(some 50), none, .call false (.f 68) [.t 49], []⟩,
      ⟨none, none, .store 5 (.t 2) (.t 50), []⟩] false)
  (.ret))))
def ref19_fromContainers : IFn := ⟨1, 51, [.cell 2 5 true], false, ref19_fromContainers_c⟩

/-- function 57: orchestrator/ orchestratorref19.num -/
def ref19_num_c : IR :=
  .seq (.reg [⟨(some 2), none, .zero [.int .i64 0, .int .i64 0, .str ⟨#[]⟩, .ns 5, .ns 6], []⟩] false)
  (.seq (.reg [⟨(some 3), none, .mov (.t 0), []⟩,
      ⟨(some 4), none, .build [.int .i64 0, .int .i64 0, .str ⟨#[]⟩, .ns 5, .ns 6] [(0, 1, .c (.int .i64 2)), (1, 1, .t 3)], []⟩,
      ⟨none, none, .store 5 (.t 2) (.t 4), []⟩] false)
  (.ret))
def ref19_num : IFn := ⟨1, 5, [.cell 2 5 true], false, ref19_num_c⟩

/-- function 58: orchestrator/ orchestratorref19.str -/
def ref19_str_c : IR :=
  .seq (.reg [⟨(some 2), none, .zero [.int .i64 0, .int .i64 0, .str ⟨#[]⟩, .ns 5, .ns 6], []⟩] false)
  (.seq (.reg [⟨(some 3), none, .mov (.t 0), []⟩,
      ⟨(some 4), none, .build [.int .i64 0, .int .i64 0, .str ⟨#[]⟩, .ns 5, .ns 6] [(0, 1, .c (.int .i64 3)), (2, 1, .t 3)], []⟩,
      ⟨none, none, .store 5 (.t 2) (.t 4), []⟩] false)
  (.ret))
def ref19_str : IFn := ⟨1, 5, [.cell 2 5 true], false, ref19_str_c⟩

/-- function 59: orchestrator/ orchestratorref19.FromSelector -/
def ref19_FromSelector_b0_live : List Nat := [100024, 0, 2, 3, 4]
def ref19_FromSelector_b0 : IR :=
  .seq (.seq (.reg [⟨(some 5), none, .mov (.t 4), []⟩,
          ⟨(some 6), none, .mov (.t 0), []⟩,
          ⟨(some 7), none, .len false (.t 6), []⟩,
          ⟨(some 8), none, .bin .lss (.t 5) (.t 7), []⟩] false)
      (.cond (.t 8) (.skip)
        (.exit 0)))
    (.seq (.block 1 (.reg [⟨(some 11), none, .mov (.t 3), []⟩,
          ⟨(some 12), none, .mov (.t 0), []⟩,
          ⟨(some 13), none, .mov (.t 4), []⟩,
          ⟨(some 14), none, .iaddr 3 (.t 12) (.t 13), [1, 2]⟩,
          ⟨(some 15), none, .faddr 0 (.t 14), [1, 2, 3]⟩,
          ⟨(some 16), none, .load 1 false (.t 15), [1, 2, 3, 4]⟩,
          ⟨(some 17), none, .call false (.f 58) [.t 16], [1, 2, 3, 4, 5]⟩,
          ⟨(some 18), none, .call false (.f 55) [.c (.str ⟨#[107, 101, 121]⟩), .t 17], [1, 2, 3, 4, 5, 6]⟩,
          ⟨(some 19), none, .mov (.t 0), []⟩,
          ⟨(some 20), none, .mov (.t 4), []⟩,
          ⟨(some 21), none, .iaddr 3 (.t 19) (.t 20), [8, 9]⟩,
          ⟨(some 22), none, .faddr 1 (.t 21), [8, 9, 10]⟩,
          ⟨(some 23), none, .load 1 false (.t 22), [8, 9, 10, 11]⟩,
          ⟨(some 24), none, .call false (.f 57) [.t 23], [1, 2, 3, 4, 5, 6, 7, 8, 9, 10, 11, 12]⟩,
          ⟨(some 25), none, .call false (.f 55) [.c (.str ⟨#[111, 112]⟩), .t 24], [1, 2, 3, 4, 5, 6, 7, 8, 9, 10, 11, 12, 13]⟩,
          ⟨(some 26), none, .mov (.t 0), []⟩,
          ⟨(some 27), none, .mov (.t 4), []⟩,
          ⟨(some 28), none, .iaddr 3 (.t 26) (.t 27), [15, 16]⟩,
          ⟨(some 29), none, .faddr 2 (.t 28), [15, 16, 17]⟩,
          ⟨(some 30), none, .load 1 false (.t 29), [15, 16, 17, 18]⟩,
          ⟨(some 31), none, .call false (.f 69) [.t 30], [1, 2, 3, 4, 5, 6, 7, 8, 9, 10, 11, 12, 13, 14, 15, 16, 17, 18, 19]⟩,
          ⟨(some 32), none, .call false (.f 55) [.c (.str ⟨#[118, 97, 108, 117, 101, 115]⟩), .t 31], [1, 2, 3, 4, 5, 6, 7, 8, 9, 10, 11, 12, 13, 14, 15, 16, 17, 18, 19, 20]⟩,
          ⟨(some 33), none, .lit 6 3 [.str ⟨#[]⟩, .int .i64 0, .int .i64 0, .str ⟨#[]⟩, .ns 5, .ns 6] [(0, .t 18), (1, .t 25), (2, .t 32)], [1, 2, 3, 4, 5, 6, 7, 8, 9, 10, 11, 12, 13, 14, 15, 16, 17, 18, 19, 20, 21]⟩,
          ⟨(some 34), none, .call false (.f 54) [.t 33], [1, 2, 3, 4, 5, 6, 7, 8, 9, 10, 11, 12, 13, 14, 15, 16, 17, 18, 19, 20, 21, 22]⟩,
          ⟨(some 35), none, .lit 5 1 [.int .i64 0, .int .i64 0, .str ⟨#[]⟩, .ns 5, .ns 6] [(0, .t 34)], [1, 2, 3, 4, 5, 6, 7, 8, 9, 10, 11, 12, 13, 14, 15, 16, 17, 18, 19, 20, 21, 22, 23]⟩,
          ⟨(some 36), none, .append 5 80 (.t 11) (.t 35), [0, 1, 2, 3, 4, 5, 6, 7, 8, 9, 10, 11, 12, 13, 14, 15, 16, 17, 18, 19, 20, 21, 22, 23, 24]⟩,
          ⟨(some 3), none, .mov (.t 36), [0, 1, 2, 3, 4, 5, 6, 7, 8, 9, 10, 11, 12, 13, 14, 15, 16, 17, 18, 19, 20, 21, 22, 23, 24, 25]⟩] true))
    (.reg [⟨(some 9), none, .mov (.t 4), []⟩,
      ⟨(some 10), none, .bin .add (.t 9) (.c (.int .i64 1)), []⟩,
      ⟨(some 4), none, .mov (.t 10), []⟩] false))
def ref19_FromSelector_c : IR :=
  .seq (.reg [⟨(some 2), none, .zero [.int .i64 0, .int .i64 0, .str ⟨#[]⟩, .ns 5, .ns 6], []⟩] false)
  (.seq (.reg [⟨(some 3), none, .mov (.c (.ns 5)), []⟩] false)
  (.seq (.seq (.reg [⟨(some 4), none, .mov (.c (.int .i64 0)), []⟩] false)
    (.block 0 (.loop ref19_FromSelector_b0_live ref19_FromSelector_b0)))
  (.seq (.reg [⟨(some 37), none, .mov (.t 3), []⟩,
      ⟨(some 38), none, .call false (.f 68) [.t 37], []⟩,
      ⟨none, none, .store 5 (.t 2) (.t 38), []⟩] false)
  (.ret))))
def ref19_FromSelector : IFn := ⟨1, 39, [.cell 2 5 true], false, ref19_FromSelector_c⟩

/-- function 60: orchestrator/ orchestratorref19.fromNodeTerms -/
def ref19_fromNodeTerms_b0_live : List Nat := [100025, 0, 2, 3, 4]
def ref19_fromNodeTerms_b0 : IR :=
  .seq (.seq (.reg [⟨(some 5), none, .mov (.t 4), []⟩,
          ⟨(some 6), none, .mov (.t 0), []⟩,
          ⟨(some 7), none, .len false (.t 6), []⟩,
          ⟨(some 8), none, .bin .lss (.t 5) (.t 7), []⟩] false)
      (.cond (.t 8) (.skip)
        (.exit 0)))
    (.seq (.block 1 (.reg [⟨(some 11), none, .mov (.t 3), []⟩,
          ⟨(some 12), none, .mov (.t 0), []⟩,
          ⟨(some 13), none, .mov (.t 4), []⟩,
          ⟨(some 14), none, .iaddr 3 (.t 12) (.t 13), [1, 2]⟩,
          ⟨(some 15), none, .faddr 0 (.t 14), [1, 2, 3]⟩,
          ⟨(some 16), none, .load 1 false (.t 15), [1, 2, 3, 4]⟩,
          ⟨(some 17), none, .call false (.f 65) [.t 16], [1, 2, 3, 4, 5]⟩,
          ⟨(some 18), none, .call false (.f 55) [.c (.str ⟨#[114, 101, 113, 117, 105, 114, 101, 100]⟩), .t 17], [1, 2, 3, 4, 5, 6]⟩,
          ⟨(some 19), none, .mov (.t 0), []⟩,
          ⟨(some 20), none, .mov (.t 4), []⟩,
          ⟨(some 21), none, .iaddr 3 (.t 19) (.t 20), [8, 9]⟩,
          ⟨(some 22), none, .faddr 1 (.t 21), [8, 9, 10]⟩,
          ⟨(some 23), none, .load 1 false (.t 22), [8, 9, 10, 11]⟩,
          ⟨(some 24), none, .call false (.f 59) [.t 23], [1, 2, 3, 4, 5, 6, 7, 8, 9, 10, 11, 12]⟩,
          ⟨(some 25), none, .call false (.f 55) [.c (.str ⟨#[115, 101, 108, 101, 99, 116, 111, 114]⟩), .t 24], [1, 2, 3, 4, 5, 6, 7, 8, 9, 10, 11, 12, 13]⟩,
          ⟨(some 26), none, .mov (.t 0), []⟩,
          ⟨(some 27), none, .mov (.t 4), []⟩,
          ⟨(some 28), none, .iaddr 3 (.t 26) (.t 27), [15, 16]⟩,
          ⟨(some 29), none, .faddr 2 (.t 28), [15, 16, 17]⟩,
          ⟨(some 30), none, .load 1 false (.t 29), [15, 16, 17, 18]⟩,
          ⟨(some 31), none, .call false (.f 57) [.t 30], [1, 2, 3, 4, 5, 6, 7, 8, 9, 10, 11, 12, 13, 14, 15, 16, 17, 18, 19]⟩,
          ⟨(some 32), none, .call false (.f 55) [.c (.str ⟨#[119, 101, 105, 103, 104, 116]⟩), .t 31], [1, 2, 3, 4, 5, 6, 7, 8, 9, 10, 11, 12, 13, 14, 15, 16, 17, 18, 19, 20]⟩,
          ⟨(some 33), none, .lit 6 3 [.str ⟨#[]⟩, .int .i64 0, .int .i64 0, .str ⟨#[]⟩, .ns 5, .ns 6] [(0, .t 18), (1, .t 25), (2, .t 32)], [1, 2, 3, 4, 5, 6, 7, 8, 9, 10, 11, 12, 13, 14, 15, 16, 17, 18, 19, 20, 21]⟩,
          ⟨(some 34), none, .call false (.f 54) [.t 33], [1, 2, 3, 4, 5, 6, 7, 8, 9, 10, 11, 12, 13, 14, 15, 16, 17, 18, 19, 20, 21, 22]⟩,
          ⟨(some 35), none, .lit 5 1 [.int .i64 0, .int .i64 0, .str ⟨#[]⟩, .ns 5, .ns 6] [(0, .t 34)], [1, 2, 3, 4, 5, 6, 7, 8, 9, 10, 11, 12, 13, 14, 15, 16, 17, 18, 19, 20, 21, 22, 23]⟩,
          ⟨(some 36), none, .append 5 80 (.t 11) (.t 35), [0, 1, 2, 3, 4, 5, 6, 7, 8, 9, 10, 11, 12, 13, 14, 15, 16, 17, 18, 19, 20, 21, 22, 23, 24]⟩,
          ⟨(some 3), none, .mov (.t 36), [0, 1, 2, 3, 4, 5, 6, 7, 8, 9, 10, 11, 12, 13, 14, 15, 16, 17, 18, 19, 20, 21, 22, 23, 24, 25]⟩] true))
    (.reg [⟨(some 9), none, .mov (.t 4), []⟩,
      ⟨(some 10), none, .bin .add (.t 9) (.c (.int .i64 1)), []⟩,
      ⟨(some 4), none, .mov (.t 10), []⟩] false))
def ref19_fromNodeTerms_c : IR :=
  .seq (.reg [⟨(some 2), none, .zero [.int .i64 0, .int .i64 0, .str ⟨#[]⟩, .ns 5, .ns 6], []⟩] false)
  (.seq (.reg [⟨(some 3), none, .mov (.c (.ns 5)), []⟩] false)
  (.seq (.seq (.reg [⟨(some 4), none, .mov (.c (.int .i64 0)), []⟩] false)
    (.block 0 (.loop ref19_fromNodeTerms_b0_live ref19_fromNodeTerms_b0)))
  (.seq (.reg [⟨(some 37), none, .mov (.t 3), []⟩,
      ⟨(some 38), none, .call false (.f 68) [.t 37], []⟩,
      ⟨none, none, .store 5 (.t 2) (.t 38), []⟩] false)
  (.ret))))
def ref19_fromNodeTerms : IFn := ⟨1, 39, [.cell 2 5 true], false, ref19_fromNodeTerms_c⟩

/-- function 61: orchestrator/ orchestratorref19.fromPodTerms -/
def ref19_fromPodTerms_b0_live : List Nat := [100026, 0, 2, 3, 4]
def ref19_fromPodTerms_b0 : IR :=
  .seq (.seq (.reg [⟨(some 5), none, .mov (.t 4), []⟩,
          ⟨(some 6), none, .mov (.t 0), []⟩,
          ⟨(some 7), none, .len false (.t 6), []⟩,
          ⟨(some 8), none, .bin .lss (.t 5) (.t 7), []⟩] false)
      (.cond (.t 8) (.skip)
        (.exit 0)))
    (.seq (.block 1 (.reg [⟨(some 11), none, .mov (.t 3), []⟩,
          ⟨(some 12), none, .mov (.t 0), []⟩,
          ⟨(some 13), none, .mov (.t 4), []⟩,
          ⟨(some 14), none, .iaddr 5 (.t 12) (.t 13), [1, 2]⟩,
          ⟨(some 15), none, .faddr 1 (.t 14), [1, 2, 3]⟩,
          ⟨(some 16), none, .load 1 false (.t 15), [1, 2, 3, 4]⟩,
          ⟨(some 17), none, .call false (.f 65) [.t 16], [1, 2, 3, 4, 5]⟩,
          ⟨(some 18), none, .call false (.f 55) [.c (.str ⟨#[97, 110, 116, 105]⟩), .t 17], [1, 2, 3, 4, 5, 6]⟩,
          ⟨(some 19), none, .mov (.t 0), []⟩,
          ⟨(some 20), none, .mov (.t 4), []⟩,
          ⟨(some 21), none, .iaddr 5 (.t 19) (.t 20), [8, 9]⟩,
          ⟨(some 22), none, .faddr 0 (.t 21), [8, 9, 10]⟩,
          ⟨(some 23), none, .load 1 false (.t 22), [8, 9, 10, 11]⟩,
          ⟨(some 24), none, .call false (.f 65) [.t 23], [1, 2, 3, 4, 5, 6, 7, 8, 9, 10, 11, 12]⟩,
          ⟨(some 25), none, .call false (.f 55) [.c (.str ⟨#[114, 101, 113, 117, 105, 114, 101, 100]⟩), .t 24], [1, 2, 3, 4, 5, 6, 7, 8, 9, 10, 11, 12, 13]⟩,
          ⟨(some 26), none, .mov (.t 0), []⟩,
          ⟨(some 27), none, .mov (.t 4), []⟩,
          ⟨(some 28), none, .iaddr 5 (.t 26) (.t 27), [15, 16]⟩,
          ⟨(some 29), none, .faddr 2 (.t 28), [15, 16, 17]⟩,
          ⟨(some 30), none, .load 1 false (.t 29), [15, 16, 17, 18]⟩,
          ⟨(some 31), none, .call false (.f 59) [.t 30], [1, 2, 3, 4, 5, 6, 7, 8, 9, 10, 11, 12, 13, 14, 15, 16, 17, 18, 19]⟩,
          ⟨(some 32), none, .call false (.f 55) [.c (.str ⟨#[115, 101, 108, 101, 99, 116, 111, 114]⟩), .t 31], [1, 2, 3, 4, 5, 6, 7, 8, 9, 10, 11, 12, 13, 14, 15, 16, 17, 18, 19, 20]⟩,
          ⟨(some 33), none, .mov (.t 0), []⟩,
          ⟨(some 34), none, .mov (.t 4), []⟩,
          ⟨(some 35), none, .iaddr 5 (.t 33) (.t 34), [22, 23]⟩,
          ⟨(some 36), none, .faddr 3 (.t 35), [22, 23, 24]⟩,
          ⟨(some 37), none, .load 1 false (.t 36), [22, 23, 24, 25]⟩,
          ⟨(some 38), none, .call false (.f 58) [.t 37], [1, 2, 3, 4, 5, 6, 7, 8, 9, 10, 11, 12, 13, 14, 15, 16, 17, 18, 19, 20, 21, 22, 23, 24, 25, 26]⟩,
          ⟨(some 39), none, .call false (.f 55) [.c (.str ⟨#[116, 111, 112, 111, 108, 111, 103, 121]⟩), .t 38], [1, 2, 3, 4, 5, 6, 7, 8, 9, 10, 11, 12, 13, 14, 15, 16, 17, 18, 19, 20, 21, 22, 23, 24, 25, 26, 27]⟩,
          ⟨(some 40), none, .mov (.t 0), []⟩,
          ⟨(some 41), none, .mov (.t 4), []⟩,
          ⟨(some 42), none, .iaddr 5 (.t 40) (.t 41), [29, 30]⟩,
          ⟨(some 43), none, .faddr 4 (.t 42), [29, 30, 31]⟩,
          ⟨(some 44), none, .load 1 false (.t 43), [29, 30, 31, 32]⟩,
          ⟨(some 45), none, .call false (.f 57) [.t 44], [1, 2, 3, 4, 5, 6, 7, 8, 9, 10, 11, 12, 13, 14, 15, 16, 17, 18, 19, 20, 21, 22, 23, 24, 25, 26, 27, 28, 29, 30, 31, 32, 33]⟩,
          ⟨(some 46), none, .call false (.f 55) [.c (.str ⟨#[119, 101, 105, 103, 104, 116]⟩), .t 45], [1, 2, 3, 4, 5, 6, 7, 8, 9, 10, 11, 12, 13, 14, 15, 16, 17, 18, 19, 20, 21, 22, 23, 24, 25, 26, 27, 28, 29, 30, 31, 32, 33, 34]⟩,
          ⟨(some 47), none, .lit 6 5 [.str ⟨#[]⟩, .int .i64 0, .int .i64 0, .str ⟨#[]⟩, .ns 5, .ns 6] [(0, .t 18), (1, .t 25), (2, .t 32), (3, .t 39), (4, .t 46)], [1, 2, 3, 4, 5, 6, 7, 8, 9, 10, 11, 12, 13, 14, 15, 16, 17, 18, 19, 20, 21, 22, 23, 24, 25, 26, 27, 28, 29, 30, 31, 32, 33, 34, 35]⟩,
          ⟨(some 48), none, .call false (.f 54) [.t 47], [1, 2, 3, 4, 5, 6, 7, 8, 9, 10, 11, 12, 13, 14, 15, 16, 17, 18, 19, 20, 21, 22, 23, 24, 25, 26, 27, 28, 29, 30, 31, 32, 33, 34, 35, 36]⟩,
          ⟨(some 49), none, .lit 5 1 [.int .i64 0, .int .i64 0, .str ⟨#[]⟩, .ns 5, .ns 6] [(0, .t 48)], [1, 2, 3, 4, 5, 6, 7, 8, 9, 10, 11, 12, 13, 14, 15, 16, 17, 18, 19, 20, 21, 22, 23, 24, 25, 26, 27, 28, 29, 30, 31, 32, 33, 34, 35, 36, 37]⟩,
          ⟨(some 50), none, .append 5 80 (.t 11) (.t 49), [0, 1, 2, 3, 4, 5, 6, 7, 8, 9, 10, 11, 12, 13, 14, 15, 16, 17, 18, 19, 20, 21, 22, 23, 24, 25, 26, 27, 28, 29, 30, 31, 32, 33, 34, 35, 36, 37, 38]⟩,
          ⟨(some 3), none, .mov (.t 50), [0, 1, 2, 3, 4, 5, 6, 7, 8, 9, 10, 11, 12, 13, 14, 15, 16, 17, 18, 19, 20, 21, 22, 23, 24, 25, 26, 27, 28, 29, 30, 31, 32, 33, 34, 35, 36, 37, 38, 39]⟩] true))
    (.reg [⟨(some 9), none, .mov (.t 4), []⟩,
      ⟨(some 10), none, .bin .add (.t 9) (.c (.int .i64 1)), []⟩,
      ⟨(some 4), none, .mov (.t 10), []⟩] false))
def ref19_fromPodTerms_c : IR :=
  .seq (.reg [⟨(some 2), none, .zero [.int .i64 0, .int .i64 0, .str ⟨#[]⟩, .ns 5, .ns 6], []⟩] false)
  (.seq (.reg [⟨(some 3), none, .mov (.c (.ns 5)), []⟩] false)
  (.seq (.seq (.reg [⟨(some 4), none, .mov (.c (.int .i64 0)), []⟩] false)
    (.block 0 (.loop ref19_fromPodTerms_b0_live ref19_fromPodTerms_b0)))
  (.seq (.reg [⟨(some 51), none, .mov (.t 3), []⟩,
      ⟨(some 52), none, .call false (.f 68) [.t 51], []⟩,
      ⟨none, none, .store 5 (.t 2) (.t 52), []⟩] false)
  (.ret))))
def ref19_fromPodTerms : IFn := ⟨1, 53, [.cell 2 5 true], false, ref19_fromPodTerms_c⟩

/-- function 62: orchestrator/ orchestratorref19.fromSpread -/
def ref19_fromSpread_b0_live : List Nat := [100027, 0, 2, 3, 4]
def ref19_fromSpread_b0 : IR :=
  .seq (.seq (.reg [⟨(some 5), none, .mov (.t 4), []⟩,
          ⟨(some 6), none, .mov (.t 0), []⟩,
          ⟨(some 7), none, .len false (.t 6), []⟩,
          ⟨(some 8), none, .bin .lss (.t 5) (.t 7), []⟩] false)
      (.cond (.t 8) (.skip)
        (.exit 0)))
    (.seq (.block 1 (.reg [⟨(some 11), none, .mov (.t 3), []⟩,
          ⟨(some 12), none, .mov (.t 0), []⟩,
          ⟨(some 13), none, .mov (.t 4), []⟩,
          ⟨(some 14), none, .iaddr 4 (.t 12) (.t 13), [1, 2]⟩,
          ⟨(some 15), none, .faddr 0 (.t 14), [1, 2, 3]⟩,
          ⟨(some 16), none, .load 1 false (.t 15), [1, 2, 3, 4]⟩,
          ⟨(some 17), none, .call false (.f 57) [.t 16], [1, 2, 3, 4, 5]⟩,
          ⟨(some 18), none, .call false (.f 55) [.c (.str ⟨#[109, 97, 120, 83, 107, 101, 119]⟩), .t 17], [1, 2, 3, 4, 5, 6]⟩,
          ⟨(some 19), none, .mov (.t 0), []⟩,
          ⟨(some 20), none, .mov (.t 4), []⟩,
          ⟨(some 21), none, .iaddr 4 (.t 19) (.t 20), [8, 9]⟩,
          ⟨(some 22), none, .faddr 3 (.t 21), [8, 9, 10]⟩,
          ⟨(some 23), none, .load 1 false (.t 22), [8, 9, 10, 11]⟩,
          ⟨(some 24), none, .call false (.f 65) [.t 23], [1, 2, 3, 4, 5, 6, 7, 8, 9, 10, 11, 12]⟩,
          ⟨(some 25), none, .call false (.f 55) [.c (.str ⟨#[114, 101, 113, 117, 105, 114, 101, 100]⟩), .t 24], [1, 2, 3, 4, 5, 6, 7, 8, 9, 10, 11, 12, 13]⟩,
          ⟨(some 26), none, .mov (.t 0), []⟩,
          ⟨(some 27), none, .mov (.t 4), []⟩,
          ⟨(some 28), none, .iaddr 4 (.t 26) (.t 27), [15, 16]⟩,
          ⟨(some 29), none, .faddr 2 (.t 28), [15, 16, 17]⟩,
          ⟨(some 30), none, .load 1 false (.t 29), [15, 16, 17, 18]⟩,
          ⟨(some 31), none, .call false (.f 59) [.t 30], [1, 2, 3, 4, 5, 6, 7, 8, 9, 10, 11, 12, 13, 14, 15, 16, 17, 18, 19]⟩,
          ⟨(some 32), none, .call false (.f 55) [.c (.str ⟨#[115, 101, 108, 101, 99, 116, 111, 114]⟩), .t 31], [1, 2, 3, 4, 5, 6, 7, 8, 9, 10, 11, 12, 13, 14, 15, 16, 17, 18, 19, 20]⟩,
          ⟨(some 33), none, .mov (.t 0), []⟩,
          ⟨(some 34), none, .mov (.t 4), []⟩,
          ⟨(some 35), none, .iaddr 4 (.t 33) (.t 34), [22, 23]⟩,
          ⟨(some 36), none, .faddr 1 (.t 35), [22, 23, 24]⟩,
          ⟨(some 37), none, .load 1 false (.t 36), [22, 23, 24, 25]⟩,
          ⟨(some 38), none, .call false (.f 58) [.t 37], [1, 2, 3, 4, 5, 6, 7, 8, 9, 10, 11, 12, 13, 14, 15, 16, 17, 18, 19, 20, 21, 22, 23, 24, 25, 26]⟩,
          ⟨(some 39), none, .call false (.f 55) [.c (.str ⟨#[116, 111, 112, 111, 108, 111, 103, 121]⟩), .t 38], [1, 2, 3, 4, 5, 6, 7, 8, 9, 10, 11, 12, 13, 14, 15, 16, 17, 18, 19, 20, 21, 22, 23, 24, 25, 26, 27]⟩,
          ⟨(some 40), none, .lit 6 4 [.str ⟨#[]⟩, .int .i64 0, .int .i64 0, .str ⟨#[]⟩, .ns 5, .ns 6] [(0, .t 18), (1, .t 25), (2, .t 32), (3, .t 39)], [1, 2, 3, 4, 5, 6, 7, 8, 9, 10, 11, 12, 13, 14, 15, 16, 17, 18, 19, 20, 21, 22, 23, 24, 25, 26, 27, 28]⟩,
          ⟨(some 41), none, .call false (.f 54) [.t 40], [1, 2, 3, 4, 5, 6, 7, 8, 9, 10, 11, 12, 13, 14, 15, 16, 17, 18, 19, 20, 21, 22, 23, 24, 25, 26, 27, 28, 29]⟩,
          ⟨(some 42), none, .lit 5 1 [.int .i64 0, .int .i64 0, .str ⟨#[]⟩, .ns 5, .ns 6] [(0, .t 41)], [1, 2, 3, 4, 5, 6, 7, 8, 9, 10, 11, 12, 13, 14, 15, 16, 17, 18, 19, 20, 21, 22, 23, 24, 25, 26, 27, 28, 29, 30]⟩,
          ⟨(some 43), none, .append 5 80 (.t 11) (.t 42), [0, 1, 2, 3, 4, 5, 6, 7, 8, 9, 10, 11, 12, 13, 14, 15, 16, 17, 18, 19, 20, 21, 22, 23, 24, 25, 26, 27, 28, 29, 30, 31]⟩,
          ⟨(some 3), none, .mov (.t 43), [0, 1, 2, 3, 4, 5, 6, 7, 8, 9, 10, 11, 12, 13, 14, 15, 16, 17, 18, 19, 20, 21, 22, 23, 24, 25, 26, 27, 28, 29, 30, 31, 32]⟩] true))
    (.reg [⟨(some 9), none, .mov (.t 4), []⟩,
      ⟨(some 10), none, .bin .add (.t 9) (.c (.int .i64 1)), []⟩,
      ⟨(some 4), none, .mov (.t 10), []⟩] false))
def ref19_fromSpread_c : IR :=
  .seq (.reg [⟨(some 2), none, .zero [.int .i64 0, .int .i64 0, .str ⟨#[]⟩, .ns 5, .ns 6], []⟩] false)
  (.seq (.reg [⟨(some 3), none, .mov (.c (.ns 5)), []⟩] false)
  (.seq (.seq (.reg [⟨(some 4), none, .mov (.c (.int .i64 0)), []⟩] false)
    (.block 0 (.loop ref19_fromSpread_b0_live ref19_fromSpread_b0)))
  (.seq (.reg [⟨(some 44), none, .mov (.t 3), []⟩,
      ⟨(some 45), none, .call false (.f 68) [.t 44], []⟩,
      ⟨none, none, .store 5 (.t 2) (.t 45), []⟩] false)
  (.ret))))
def ref19_fromSpread : IFn := ⟨1, 46, [.cell 2 5 true], false, ref19_fromSpread_c⟩

/-- function 63: orchestrator/ orchestratorref19.fromTolerations -/
def ref19_fromTolerations_b0_live : List Nat := [100028, 0, 2, 3, 4]
def ref19_fromTolerations_b0 : IR :=
  .seq (.seq (.reg [⟨(some 5), none, .mov (.t 4), []⟩,
          ⟨(some 6), none, .mov (.t 0), []⟩,
          ⟨(some 7), none, .len false (.t 6), []⟩,
          ⟨(some 8), none, .bin .lss (.t 5) (.t 7), []⟩] false)
      (.cond (.t 8) (.skip)
        (.exit 0)))
    (.seq (.block 1 (.reg [⟨(some 11), none, .mov (.t 3), []⟩,
          ⟨(some 12), none, .mov (.t 0), []⟩,
          ⟨(some 13), none, .mov (.t 4), []⟩,
          ⟨(some 14), none, .iaddr 5 (.t 12) (.t 13), [1, 2]⟩,
          ⟨(some 15), none, .faddr 3 (.t 14), [1, 2, 3]⟩,
          ⟨(some 16), none, .load 1 false (.t 15), [1, 2, 3, 4]⟩,
          ⟨(some 17), none, .call false (.f 57) [.t 16], [1, 2, 3, 4, 5]⟩,
          ⟨(some 18), none, .call false (.f 55) [.c (.str ⟨#[101, 102, 102, 101, 99, 116]⟩), .t 17], [1, 2, 3, 4, 5, 6]⟩,
          ⟨(some 19), none, .mov (.t 0), []⟩,
          ⟨(some 20), none, .mov (.t 4), []⟩,
          ⟨(some 21), none, .iaddr 5 (.t 19) (.t 20), [8, 9]⟩,
          ⟨(some 22), none, .faddr 2 (.t 21), [8, 9, 10]⟩,
          ⟨(some 23), none, .load 1 false (.t 22), [8, 9, 10, 11]⟩,
          ⟨(some 24), none, .call false (.f 65) [.t 23], [1, 2, 3, 4, 5, 6, 7, 8, 9, 10, 11, 12]⟩,
          ⟨(some 25), none, .call false (.f 55) [.c (.str ⟨#[101, 120, 105, 115, 116, 115]⟩), .t 24], [1, 2, 3, 4, 5, 6, 7, 8, 9, 10, 11, 12, 13]⟩,
          ⟨(some 26), none, .mov (.t 0), []⟩,
          ⟨(some 27), none, .mov (.t 4), []⟩,
          ⟨(some 28), none, .iaddr 5 (.t 26) (.t 27), [15, 16]⟩,
          ⟨(some 29), none, .faddr 0 (.t 28), [15, 16, 17]⟩,
          ⟨(some 30), none, .load 1 false (.t 29), [15, 16, 17, 18]⟩,
          ⟨(some 31), none, .call false (.f 58) [.t 30], [1, 2, 3, 4, 5, 6, 7, 8, 9, 10, 11, 12, 13, 14, 15, 16, 17, 18, 19]⟩,
          ⟨(some 32), none, .call false (.f 55) [.c (.str ⟨#[107, 101, 121]⟩), .t 31], [1, 2, 3, 4, 5, 6, 7, 8, 9, 10, 11, 12, 13, 14, 15, 16, 17, 18, 19, 20]⟩,
          ⟨(some 33), none, .mov (.t 0), []⟩,
          ⟨(some 34), none, .mov (.t 4), []⟩,
          ⟨(some 35), none, .iaddr 5 (.t 33) (.t 34), [22, 23]⟩,
          ⟨(some 36), none, .faddr 4 (.t 35), [22, 23, 24]⟩,
          ⟨(some 37), none, .load 1 false (.t 36), [22, 23, 24, 25]⟩,
          ⟨(some 38), none, .call false (.f 57) [.t 37], [1, 2, 3, 4, 5, 6, 7, 8, 9, 10, 11, 12, 13, 14, 15, 16, 17, 18, 19, 20, 21, 22, 23, 24, 25, 26]⟩,
          ⟨(some 39), none, .call false (.f 55) [.c (.str ⟨#[115, 101, 99, 111, 110, 100, 115]⟩), .t 38], [1, 2, 3, 4, 5, 6, 7, 8, 9, 10, 11, 12, 13, 14, 15, 16, 17, 18, 19, 20, 21, 22, 23, 24, 25, 26, 27]⟩,
          ⟨(some 40), none, .mov (.t 0), []⟩,
          ⟨(some 41), none, .mov (.t 4), []⟩,
          ⟨(some 42), none, .iaddr 5 (.t 40) (.t 41), [29, 30]⟩,
          ⟨(some 43), none, .faddr 1 (.t 42), [29, 30, 31]⟩,
          ⟨(some 44), none, .load 1 false (.t 43), [29, 30, 31, 32]⟩,
          ⟨(some 45), none, .call false (.f 58) [.t 44], [1, 2, 3, 4, 5, 6, 7, 8, 9, 10, 11, 12, 13, 14, 15, 16, 17, 18, 19, 20, 21, 22, 23, 24, 25, 26, 27, 28, 29, 30, 31, 32, 33]⟩,
          ⟨(some 46), none, .call false (.f 55) [.c (.str ⟨#[118, 97, 108, 117, 101]⟩), .t 45], [1, 2, 3, 4, 5, 6, 7, 8, 9, 10, 11, 12, 13, 14, 15, 16, 17, 18, 19, 20, 21, 22, 23, 24, 25, 26, 27, 28, 29, 30, 31, 32, 33, 34]⟩,
          ⟨(some 47), none, .lit 6 5 [.str ⟨#[]⟩, .int .i64 0, .int .i64 0, .str ⟨#[]⟩, .ns 5, .ns 6] [(0, .t 18), (1, .t 25), (2, .t 32), (3, .t 39), (4, .t 46)], [1, 2, 3, 4, 5, 6, 7, 8, 9, 10, 11, 12, 13, 14, 15, 16, 17, 18, 19, 20, 21, 22, 23, 24, 25, 26, 27, 28, 29, 30, 31, 32, 33, 34, 35]⟩,
          ⟨(some 48), none, .call false (.f 54) [.t 47], [1, 2, 3, 4, 5, 6, 7, 8, 9, 10, 11, 12, 13, 14, 15, 16, 17, 18, 19, 20, 21, 22, 23, 24, 25, 26, 27, 28, 29, 30, 31, 32, 33, 34, 35, 36]⟩,
          ⟨(some 49), none, .lit 5 1 [.int .i64 0, .int .i64 0, .str ⟨#[]⟩, .ns 5, .ns 6] [(0, .t 48)], [1, 2, 3, 4, 5, 6, 7, 8, 9, 10, 11, 12, 13, 14, 15, 16, 17, 18, 19, 20, 21, 22, 23, 24, 25, 26, 27, 28, 29, 30, 31, 32, 33, 34, 35, 36, 37]⟩,
          ⟨(some 50), none, .append 5 80 (.t 11) (.t 49), [0, 1, 2, 3, 4, 5, 6, 7, 8, 9, 10, 11, 12, 13, 14, 15, 16, 17, 18, 19, 20, 21, 22, 23, 24, 25, 26, 27, 28, 29, 30, 31, 32, 33, 34, 35, 36, 37, 38]⟩,
          ⟨(some 3), none, .mov (.t 50), [0, 1, 2, 3, 4, 5, 6, 7, 8, 9, 10, 11, 12, 13, 14, 15, 16, 17, 18, 19, 20, 21, 22, 23, 24, 25, 26, 27, 28, 29, 30, 31, 32, 33, 34, 35, 36, 37, 38, 39]⟩] true))
    (.reg [⟨(some 9), none, .mov (.t 4), []⟩,
      ⟨(some 10), none, .bin .add (.t 9) (.c (.int .i64 1)), []⟩,
      ⟨(some 4), none, .mov (.t 10), []⟩] false))
def ref19_fromTolerations_c : IR :=
  .seq (.reg [⟨(some 2), none, .zero [.int .i64 0, .int .i64 0, .str ⟨#[]⟩, .ns 5, .ns 6], []⟩] false)
  (.seq (.reg [⟨(some 3), none, .mov (.c (.ns 5)), []⟩] false)
  (.seq (.seq (.reg [⟨(some 4), none, .mov (.c (.int .i64 0)), []⟩] false)
    (.block 0 (.loop ref19_fromTolerations_b0_live ref19_fromTolerations_b0)))
  (.seq (.reg [⟨(some 51), none, .mov (.t 3), []⟩,
      ⟨(some 52), none, .call false (.f 68) [.t 51], []⟩,
      ⟨none, none, .store 5 (.t 2) (.t 52), []⟩] false)
  (.ret))))
def ref19_fromTolerations : IFn := ⟨1, 53, [.cell 2 5 true], false, ref19_fromTolerations_c⟩

/-- function 64: orchestrator/ orchestratorref19.fromStatuses -/
def ref19_fromStatuses_b0_live : List Nat := [100029, 0, 2, 3, 4]
def ref19_fromStatuses_b0 : IR :=
  .seq (.seq (.reg [⟨(some 6), none, .mov (.t 4), []⟩,
          ⟨(some 7), none, .mov (.t 0), []⟩,
          ⟨(some 8), none, .len false (.t 7), []⟩,
          ⟨(some 9), none, .bin .lss (.t 6) (.t 8), []⟩] false)
      (.cond (.t 9) (.skip)
        (.exit 0)))
    (.seq (.block 1 (.seq (.reg [⟨(some 12), none, .mov (.t 0), []⟩,
            ⟨(some 13), none, .mov (.t 4), []⟩,
            ⟨(some 14), none, .iaddr 7 (.t 12) (.t 13), []⟩,
            ⟨(some 15), none, .load 7 true (.t 14), []⟩,
            ⟨(some 5), none, .zero [.str ⟨#[]⟩, .int .i64 0, .int .i64 0, .int .i64 0, .int .i64 0, .bool false, .bool false], []⟩,
            ⟨none, none, .store 7 (.t 5) (.t 15), []⟩] false)
        (.reg [⟨(some 16), none, .mov (.t 3), []⟩,
          ⟨(some 17), none, .faddr 3 (.t 5), []⟩,
          ⟨(some 18), none, .load 1 false (.t 17), [1]⟩,
          ⟨(some 19), none, .call false (.f 57) [.t 18], [1, 2]⟩,
          ⟨(some 20), none, .call false (.f 55) [.c (.str ⟨#[101, 120, 105, 116, 67, 111, 100, 101]⟩), .t 19], [1, 2, 3]⟩,
          ⟨(some 21), none, .faddr 0 (.t 5), []⟩,
          ⟨(some 22), none, .load 1 false (.t 21), [5]⟩,
          ⟨(some 23), none, .call false (.f 58) [.t 22], [1, 2, 3, 4, 5, 6]⟩,
          ⟨(some 24), none, .call false (.f 55) [.c (.str ⟨#[110, 97, 109, 101]⟩), .t 23], [1, 2, 3, 4, 5, 6, 7]⟩,
          ⟨(some 25), none, .faddr 5 (.t 5), []⟩,
          ⟨(some 26), none, .load 1 false (.t 25), [9]⟩,
          ⟨(some 27), none, .call false (.f 65) [.t 26], [1, 2, 3, 4, 5, 6, 7, 8, 9, 10]⟩,
          ⟨(some 28), none, .call false (.f 55) [.c (.str ⟨#[114, 101, 97, 100, 121]⟩), .t 27], [1, 2, 3, 4, 5, 6, 7, 8, 9, 10, 11]⟩,
          ⟨(some 29), none, .faddr 2 (.t 5), []⟩,
          ⟨(some 30), none, .load 1 false (.t 29), [13]⟩,
          ⟨(some 31), none, .call false (.f 57) [.t 30], [1, 2, 3, 4, 5, 6, 7, 8, 9, 10, 11, 12, 13, 14]⟩,
          ⟨(some 32), none, .call false (.f 55) [.c (.str ⟨#[114, 101, 115, 116, 97, 114, 116, 115]⟩), .t 31], [1, 2, 3, 4, 5, 6, 7, 8, 9, 10, 11, 12, 13, 14, 15]⟩,
          ⟨(some 33), none, .faddr 4 (.t 5), []⟩,
          ⟨(some 34), none, .load 1 false (.t 33), [17]⟩,
          ⟨(some 35), none, .call false (.f 57) [.t 34], [1, 2, 3, 4, 5, 6, 7, 8, 9, 10, 11, 12, 13, 14, 15, 16, 17, 18]⟩,
          ⟨(some 36), none, .call false (.f 55) [.c (.str ⟨#[115, 105, 110, 99, 101]⟩), .t 35], [1, 2, 3, 4, 5, 6, 7, 8, 9, 10, 11, 12, 13, 14, 15, 16, 17, 18, 19]⟩,
          ⟨(some 37), none, .faddr 6 (.t 5), []⟩,
          ⟨(some 38), none, .load 1 false (.t 37), [21]⟩,
          ⟨(some 39), none, .call false (.f 65) [.t 38], [1, 2, 3, 4, 5, 6, 7, 8, 9, 10, 11, 12, 13, 14, 15, 16, 17, 18, 19, 20, 21, 22]⟩,
          ⟨(some 40), none, .call false (.f 55) [.c (.str ⟨#[115, 116, 97, 114, 116, 101, 100]⟩), .t 39], [1, 2, 3, 4, 5, 6, 7, 8, 9, 10, 11, 12, 13, 14, 15, 16, 17, 18, 19, 20, 21, 22, 23]⟩,
          ⟨(some 41), none, .faddr 1 (.t 5), []⟩,
          ⟨(some 42), none, .load 1 false (.t 41), [25]⟩,
          ⟨(some 43), none, .call false (.f 57) [.t 42], [1, 2, 3, 4, 5, 6, 7, 8, 9, 10, 11, 12, 13, 14, 15, 16, 17, 18, 19, 20, 21, 22, 23, 24, 25, 26]⟩,
          ⟨(some 44), none, .call false (.f 55) [.c (.str ⟨#[115, 116, 97, 116, 101]⟩), .t 43], [1, 2, 3, 4, 5, 6, 7, 8, 9, 10, 11, 12, 13, 14, 15, 16, 17, 18, 19, 20, 21, 22, 23, 24, 25, 26, 27]⟩,
          ⟨(some 45), none, .lit 6 7 [.str ⟨#[]⟩, .int .i64 0, .int .i64 0, .str ⟨#[]⟩, .ns 5, .ns 6] [(0, .t 20), (1, .t 24), (2, .t 28), (3, .t 32), (4, .t 36), (5, .t 40), (6, .t 44)], [1, 2, 3, 4, 5, 6, 7, 8, 9, 10, 11, 12, 13, 14, 15, 16, 17, 18, 19, 20, 21, 22, 23, 24, 25, 26, 27, 28]⟩,
          ⟨(some 46), none, .call false (.f 54) [.t 45], [1, 2, 3, 4, 5, 6, 7, 8, 9, 10, 11, 12, 13, 14, 15, 16, 17, 18, 19, 20, 21, 22, 23, 24, 25, 26, 27, 28, 29]⟩,
          ⟨(some 47), none, .lit 5 1 [.int .i64 0, .int .i64 0, .str ⟨#[]⟩, .ns 5, .ns 6] [(0, .t 46)], [1, 2, 3, 4, 5, 6, 7, 8, 9, 10, 11, 12, 13, 14, 15, 16, 17, 18, 19, 20, 21, 22, 23, 24, 25, 26, 27, 28, 29, 30]⟩,
          ⟨(some 48), none, .append 5 80 (.t 16) (.t 47), [0, 1, 2, 3, 4, 5, 6, 7, 8, 9, 10, 11, 12, 13, 14, 15, 16, 17, 18, 19, 20, 21, 22, 23, 24, 25, 26, 27, 28, 29, 30, 31]⟩,
          ⟨(some 3), none, .mov (.t 48), [0, 1, 2, 3, 4, 5, 6, 7, 8, 9, 10, 11, 12, 13, 14, 15, 16, 17, 18, 19, 20, 21, 22, 23, 24, 25, 26, 27, 28, 29, 30, 31, 32]⟩] true)))
    (.reg [⟨(some 10), none, .mov (.t 4), []⟩,
      ⟨(some 11), none, .bin .add (.t 10) (.c (.int .i64 1)), []⟩,
      ⟨(some 4), none, .mov (.t 11), []⟩] false))
def ref19_fromStatuses_c : IR :=
  .seq (.reg [⟨(some 2), none, .zero [.int .i64 0, .int .i64 0, .str ⟨#[]⟩, .ns 5, .ns 6], []⟩] false)
  (.seq (.reg [⟨(some 3), none, .mov (.c (.ns 5)), []⟩] false)
  (.seq (.seq (.reg [⟨(some 4), none, .mov (.c (.int .i64 0)), []⟩] false)
    (.block 0 (.loop ref19_fromStatuses_b0_live ref19_fromStatuses_b0)))
  (.seq (.reg [⟨(some 49), none, .mov (.t 3), []⟩,
      ⟨(some 50), none, .call false (.f 68) [.t 49], []⟩,
      ⟨none, none, .store 5 (.t 2) (.t 50), []⟩] false)
  (.ret))))
def ref19_fromStatuses : IFn := ⟨1, 51, [.cell 2 5 true], false, ref19_fromStatuses_c⟩

/-- function 65: orchestrator/ orchestratorref19.truth -/
def ref19_truth_c : IR :=
  .seq (.reg [⟨(some 2), none, .zero [.int .i64 0, .int .i64 0, .str ⟨#[]⟩, .ns 5, .ns 6], []⟩] false)
  (.seq (.seq (.reg [⟨(some 3), none, .mov (.t 0), []⟩] false)
    (.cond (.t 3) (.seq (.reg [⟨(some 4), none, .build [.int .i64 0, .int .i64 0, .str ⟨#[]⟩, .ns 5, .ns 6] [(0, 1, .c (.int .i64 1)), (1, 1, .c (.int .i64 1))], []⟩,
          ⟨none, none, .store 5 (.t 2) (.t 4), []⟩] false)
      (.ret))
      (.skip)))
  (.seq (.reg [⟨(some 5), none, .build [.int .i64 0, .int .i64 0, .str ⟨#[]⟩, .ns 5, .ns 6] [(0, 1, .c (.int .i64 1))], []⟩,
      ⟨none, none, .store 5 (.t 2) (.t 5), []⟩] false)
  (.ret)))
def ref19_truth : IFn := ⟨1, 6, [.cell 2 5 true], false, ref19_truth_c⟩

/-- function 66: orchestrator/ orchestratorref19.fromResources -/
def ref19_fromResources_c : IR :=
  .seq (.reg [⟨(some 1), none, .box 3 (.t 0), []⟩,
      ⟨(some 2), none, .zero [.int .i64 0, .int .i64 0, .str ⟨#[]⟩, .ns 5, .ns 6], []⟩] false)
  (.seq (.reg [⟨(some 3), none, .faddr 0 (.t 1), []⟩,
      ⟨(some 4), none, .load 1 false (.t 3), [0]⟩,
      ⟨(some 5), none, .call false (.f 57) [.t 4], [0, 1]⟩,
      ⟨(some 6), none, .call false (.f 55) [.c (.str ⟨#[99, 112, 117]⟩), .t 5], [0, 1, 2]⟩,
      ⟨(some 7), none, .faddr 2 (.t 1), []⟩,
      ⟨(some 8), none, .load 1 false (.t 7), [4]⟩,
      ⟨(some 9), none, .call false (.f 57) [.t 8], [0, 1, 2, 3, 4, 5]⟩,
      ⟨(some 10), none, .call false (.f 55) [.c (.str ⟨#[100, 105, 115, 107]⟩), .t 9], [0, 1, 2, 3, 4, 5, 6]⟩,
      ⟨(some 11), none, .faddr 1 (.t 1), []⟩,
      ⟨(some 12), none, .load 1 false (.t 11), [8]⟩,
      ⟨(some 13), none, .call false (.f 57) [.t 12], [0, 1, 2, 3, 4, 5, 6, 7, 8, 9]⟩,
      ⟨(some 14), none, .call false (.f 55) [.c (.str ⟨#[109, 101, 109, 111, 114, 121]⟩), .t 13], [0, 1, 2, 3, 4, 5, 6, 7, 8, 9, 10]⟩,
      ⟨(some 15), none, .lit 6 3 [.str ⟨#[]⟩, .int .i64 0, .int .i64 0, .str ⟨#[]⟩, .ns 5, .ns 6] [(0, .t 6), (1, .t 10), (2, .t 14)], [0, 1, 2, 3, 4, 5, 6, 7, 8, 9, 10, 11]⟩,
      ⟨(some 16), none, .call false (.f 54) [.t 15], [0, 1, 2, 3, 4, 5, 6, 7, 8, 9, 10, 11, 12]⟩,
      ⟨none, none, .store 5 (.t 2) (.t 16), [0, 1, 2, 3, 4, 5, 6, 7, 8, 9, 10, 11, 12, 13]⟩] true)
  (.ret))
def ref19_fromResources : IFn := ⟨1, 17, [.cell 2 5 true], false, ref19_fromResources_c⟩

/-- function 67: orchestrator/ orchestratorref19.fromProbes -/
def ref19_fromProbes_b0_live : List Nat := [100030, 0, 2, 3, 4]
def ref19_fromProbes_b0 : IR :=
  .seq (.seq (.reg [⟨(some 5), none, .mov (.t 4), []⟩,
          ⟨(some 6), none, .mov (.t 0), []⟩,
          ⟨(some 7), none, .len false (.t 6), []⟩,
          ⟨(some 8), none, .bin .lss (.t 5) (.t 7), []⟩] false)
      (.cond (.t 8) (.skip)
        (.exit 0)))
    (.seq (.block 1 (.reg [⟨(some 11), none, .mov (.t 3), []⟩,
          ⟨(some 12), none, .mov (.t 0), []⟩,
          ⟨(some 13), none, .mov (.t 4), []⟩,
          ⟨(some 14), none, .iaddr 4 (.t 12) (.t 13), [1, 2]⟩,
          ⟨(some 15), none, .faddr 0 (.t 14), [1, 2, 3]⟩,
          ⟨(some 16), none, .load 1 false (.t 15), [1, 2, 3, 4]⟩,
          ⟨(some 17), none, .call false (.f 57) [.t 16], [1, 2, 3, 4, 5]⟩,
          ⟨(some 18), none, .call false (.f 55) [.c (.str ⟨#[100, 101, 108, 97, 121]⟩), .t 17], [1, 2, 3, 4, 5, 6]⟩,
          ⟨(some 19), none, .mov (.t 0), []⟩,
          ⟨(some 20), none, .mov (.t 4), []⟩,
          ⟨(some 21), none, .iaddr 4 (.t 19) (.t 20), [8, 9]⟩,
          ⟨(some 22), none, .faddr 3 (.t 21), [8, 9, 10]⟩,
          ⟨(some 23), none, .load 1 false (.t 22), [8, 9, 10, 11]⟩,
          ⟨(some 24), none, .call false (.f 57) [.t 23], [1, 2, 3, 4, 5, 6, 7, 8, 9, 10, 11, 12]⟩,
          ⟨(some 25), none, .call false (.f 55) [.c (.str ⟨#[102, 97, 105, 108, 117, 114, 101]⟩), .t 24], [1, 2, 3, 4, 5, 6, 7, 8, 9, 10, 11, 12, 13]⟩,
          ⟨(some 26), none, .mov (.t 0), []⟩,
          ⟨(some 27), none, .mov (.t 4), []⟩,
          ⟨(some 28), none, .iaddr 4 (.t 26) (.t 27), [15, 16]⟩,
          ⟨(some 29), none, .faddr 1 (.t 28), [15, 16, 17]⟩,
          ⟨(some 30), none, .load 1 false (.t 29), [15, 16, 17, 18]⟩,
          ⟨(some 31), none, .call false (.f 57) [.t 30], [1, 2, 3, 4, 5, 6, 7, 8, 9, 10, 11, 12, 13, 14, 15, 16, 17, 18, 19]⟩,
          ⟨(some 32), none, .call false (.f 55) [.c (.str ⟨#[112, 101, 114, 105, 111, 100]⟩), .t 31], [1, 2, 3, 4, 5, 6, 7, 8, 9, 10, 11, 12, 13, 14, 15, 16, 17, 18, 19, 20]⟩,
          ⟨(some 33), none, .mov (.t 0), []⟩,
          ⟨(some 34), none, .mov (.t 4), []⟩,
          ⟨(some 35), none, .iaddr 4 (.t 33) (.t 34), [22, 23]⟩,
          ⟨(some 36), none, .faddr 2 (.t 35), [22, 23, 24]⟩,
          ⟨(some 37), none, .load 1 false (.t 36), [22, 23, 24, 25]⟩,
          ⟨(some 38), none, .call false (.f 57) [.t 37], [1, 2, 3, 4, 5, 6, 7, 8, 9, 10, 11, 12, 13, 14, 15, 16, 17, 18, 19, 20, 21, 22, 23, 24, 25, 26]⟩,
          ⟨(some 39), none, .call false (.f 55) [.c (.str ⟨#[115, 117, 99, 99, 101, 115, 115]⟩), .t 38], [1, 2, 3, 4, 5, 6, 7, 8, 9, 10, 11, 12, 13, 14, 15, 16, 17, 18, 19, 20, 21, 22, 23, 24, 25, 26, 27]⟩,
          ⟨(some 40), none, .lit 6 4 [.str ⟨#[]⟩, .int .i64 0, .int .i64 0, .str ⟨#[]⟩, .ns 5, .ns 6] [(0, .t 18), (1, .t 25), (2, .t 32), (3, .t 39)], [1, 2, 3, 4, 5, 6, 7, 8, 9, 10, 11, 12, 13, 14, 15, 16, 17, 18, 19, 20, 21, 22, 23, 24, 25, 26, 27, 28]⟩,
          ⟨(some 41), none, .call false (.f 54) [.t 40], [1, 2, 3, 4, 5, 6, 7, 8, 9, 10, 11, 12, 13, 14, 15, 16, 17, 18, 19, 20, 21, 22, 23, 24, 25, 26, 27, 28, 29]⟩,
          ⟨(some 42), none, .lit 5 1 [.int .i64 0, .int .i64 0, .str ⟨#[]⟩, .ns 5, .ns 6] [(0, .t 41)], [1, 2, 3, 4, 5, 6, 7, 8, 9, 10, 11, 12, 13, 14, 15, 16, 17, 18, 19, 20, 21, 22, 23, 24, 25, 26, 27, 28, 29, 30]⟩,
          ⟨(some 43), none, .append 5 80 (.t 11) (.t 42), [0, 1, 2, 3, 4, 5, 6, 7, 8, 9, 10, 11, 12, 13, 14, 15, 16, 17, 18, 19, 20, 21, 22, 23, 24, 25, 26, 27, 28, 29, 30, 31]⟩,
          ⟨(some 3), none, .mov (.t 43), [0, 1, 2, 3, 4, 5, 6, 7, 8, 9, 10, 11, 12, 13, 14, 15, 16, 17, 18, 19, 20, 21, 22, 23, 24, 25, 26, 27, 28, 29, 30, 31, 32]⟩] true))
    (.reg [⟨(some 9), none, .mov (.t 4), []⟩,
      ⟨(some 10), none, .bin .add (.t 9) (.c (.int .i64 1)), []⟩,
      ⟨(some 4), none, .mov (.t 10), []⟩] false))
def ref19_fromProbes_c : IR :=
  .seq (.reg [⟨(some 2), none, .zero [.int .i64 0, .int .i64 0, .str ⟨#[]⟩, .ns 5, .ns 6], []⟩] false)
  (.seq (.reg [⟨(some 3), none, .mov (.c (.ns 5)), []⟩] false)
  (.seq (.seq (.reg [⟨(some 4), none, .mov (.c (.int .i64 0)), []⟩] false)
    (.block 0 (.loop ref19_fromProbes_b0_live ref19_fromProbes_b0)))
  (.seq (.reg [⟨(some 44), none, .mov (.t 3), []⟩,
      ⟨(some 45), none, .call false (.f 68) [.t 44], []⟩,
      ⟨none, none, .store 5 (.t 2) (.t 45), []⟩] false)
  (.ret))))
def ref19_fromProbes : IFn := ⟨1, 46, [.cell 2 5 true], false, ref19_fromProbes_c⟩

/-- function 68: orchestrator/ orchestratorref19.list -/
def ref19_list_c : IR :=
  .seq (.reg [⟨(some 2), none, .zero [.int .i64 0, .int .i64 0, .str ⟨#[]⟩, .ns 5, .ns 6], []⟩] false)
  (.seq (.reg [⟨(some 3), none, .mov (.t 0), []⟩,
      ⟨(some 4), none, .build [.int .i64 0, .int .i64 0, .str ⟨#[]⟩, .ns 5, .ns 6] [(0, 1, .c (.int .i64 4)), (3, 1, .t 3)], []⟩,
      ⟨none, none, .store 5 (.t 2) (.t 4), []⟩] false)
  (.ret))
def ref19_list : IFn := ⟨1, 5, [.cell 2 5 true], false, ref19_list_c⟩

/-- function 69: orchestrator/ orchestratorref19.FromStrings -/
def ref19_FromStrings_b0_live : List Nat := [100031, 0, 2, 3, 4]
def ref19_FromStrings_b0 : IR :=
  .seq (.seq (.reg [⟨(some 5), none, .mov (.t 4), []⟩,
          ⟨(some 6), none, .mov (.t 0), []⟩,
          ⟨(some 7), none, .len false (.t 6), []⟩,
          ⟨(some 8), none, .bin .lss (.t 5) (.t 7), []⟩] false)
      (.cond (.t 8) (.skip)
        (.exit 0)))
    (.seq (.block 1 (.reg [⟨(some 11), none, .mov (.t 3), []⟩,
          ⟨(some 12), none, .mov (.t 0), []⟩,
          ⟨(some 13), none, .mov (.t 4), []⟩,
          ⟨(some 14), none, .iaddr 1 (.t 12) (.t 13), []⟩,
          ⟨(some 15), none, .load 1 false (.t 14), []⟩,
          ⟨(some 16), none, .call false (.f 58) [.t 15], []⟩,
          ⟨(some 17), none, .lit 5 1 [.int .i64 0, .int .i64 0, .str ⟨#[]⟩, .ns 5, .ns 6] [(0, .t 16)], []⟩,
          ⟨(some 18), none, .append 5 80 (.t 11) (.t 17), []⟩,
          ⟨(some 3), none, .mov (.t 18), []⟩] false))
    (.reg [⟨(some 9), none, .mov (.t 4), []⟩,
      ⟨(some 10), none, .bin .add (.t 9) (.c (.int .i64 1)), []⟩,
      ⟨(some 4), none, .mov (.t 10), []⟩] false))
def ref19_FromStrings_c : IR :=
  .seq (.reg [⟨(some 2), none, .zero [.int .i64 0, .int .i64 0, .str ⟨#[]⟩, .ns 5, .ns 6], []⟩] false)
  (.seq (.reg [⟨(some 3), none, .mov (.c (.ns 5)), []⟩] false)
  (.seq (.seq (.reg [⟨(some 4), none, .mov (.c (.int .i64 0)), []⟩] false)
    (.block 0 (.loop ref19_FromStrings_b0_live ref19_FromStrings_b0)))
  (.seq (.reg [⟨(some 19), none, .mov (.t 3), []⟩,
      ⟨(some 20), none, .call false (.f 68) [.t 19], []⟩,
      ⟨none, none, .store 5 (.t 2) (.t 20), []⟩] false)
  (.ret))))
def ref19_FromStrings : IFn := ⟨1, 21, [.cell 2 5 true], false, ref19_FromStrings_c⟩

def table : List (Nat × Fun) :=
  [(3, .ir law02_ResourceSums),
   (4, .ir law02_ResourcePods),
   (5, .ir law02_ResourceBalance),
   (6, .ir law02_ResourceAdds),
   (7, .ir law02_ResourceOrder),
   (8, .ir law22_QuotaSays),
   (9, .ir law22_QuotaKeeps),
   (10, .ir law22_QuotaIgnores),
   (11, .ir law22_QuotaGrows),
   (12, .ir law02_lives),
   (13, .ir resource_Add),
   (14, .ir ref02_Add),
   (15, .ir resource_Sub),
   (16, .ir ref02_Sub),
   (17, .ir resource_Fits),
   (18, .ir ref02_Fits),
   (19, .ir resource_Requests),
   (20, .ir ref02_Requests),
   (21, .ir resource_Limits),
   (22, .ir ref02_Limits),
   (23, .ir law22_Small),
   (24, .ir law19_SmallPod),
   (25, .ir law19_SmallMeta),
   (26, .ir law22_lives),
   (27, .ir quota_Usage),
   (28, .ir ref22_Usage),
   (29, .ir quota_Status),
   (30, .ir ref22_Status),
   (31, .ir quota_Admit),
   (32, .ir ref22_Admit),
   (33, .ir ref19_SameMeta),
   (34, .ir law22_within),
   (35, .ir resource_each),
   (36, .ir resource_Add_1),
   (37, .ir resource_clamp),
   (38, .ir ref02_clamp),
   (39, .ir resource_Sub_1),
   (40, .ir ref19_FromPod),
   (41, .ir ref06_Few),
   (42, .ir law22_asks),
   (43, .ir quota_counts),
   (44, .ir ref22_counts),
   (45, .ir quota_of),
   (46, .ir ref22_Own),
   (47, .ir quota_over),
   (48, .ir ref22_over),
   (49, .ir ref03_Same),
   (50, .ir ref03_SameStrings),
   (51, .ir ref19_FromSpec),
   (52, .ir ref19_fromStatus),
   (53, .ir ref06_left),
   (54, .ir ref19_object),
   (55, .ir ref19_at),
   (56, .ir ref19_fromContainers),
   (57, .ir ref19_num),
   (58, .ir ref19_str),
   (59, .ir ref19_FromSelector),
   (60, .ir ref19_fromNodeTerms),
   (61, .ir ref19_fromPodTerms),
   (62, .ir ref19_fromSpread),
   (63, .ir ref19_fromTolerations),
   (64, .ir ref19_fromStatuses),
   (65, .ir ref19_truth),
   (66, .ir ref19_fromResources),
   (67, .ir ref19_fromProbes),
   (68, .ir ref19_list),
   (69, .ir ref19_FromStrings)]
end Go.Proofs.Ytpmdkaecfoakkaa.Ir
