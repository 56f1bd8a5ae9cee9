/- The functions that are reached, as the virtual machine has them. Printed by program. -/
import Derived.Test.YtchhnmoakcfcaaaChecked
import Derived.Test.YtchhnmoakcfcaaaV24
open Go.V
namespace Go.Proofs.Ytchhnmoakcfcaaa.NI
/- ferrule/ferrulelaw06.NamesInner -/
def code4 : VCode :=
  .seq (.region false [⟨(some 6), .assign (.const (.bool false)), none, [], []⟩])
  (.seq (.region false [⟨(some 15), .move (.tmp 0), none, [], []⟩,
      ⟨(some 16), .bin .and (.flat .int) (.tmp 15) (.const (.int .i64 3)), none, [], []⟩,
      ⟨(some 0), .assign (.tmp 16), none, [], []⟩])
  (.seq (.region false [⟨(some 17), .build [(.int .i64 0), (.str []), (.int .i64 0), .nilslice] [(0, 1, (.const (.int .i64 6)))], none, [], []⟩,
      ⟨(some 7), .box 26 (.const (.agg [(.int .i64 0), (.str []), (.int .i64 0), .nilslice])), none, [], []⟩,
      ⟨none, .store 4 (.tmp 7) (.tmp 17), none, [], []⟩])
  (.seq (.region false [⟨(some 8), .assign (.const (.int .i64 12)), none, [], []⟩])
  (.seq (.seq (.region false [⟨(some 18), .move (.tmp 1), none, [], []⟩])
    (.cond (.tmp 18)
      (.region false [⟨(some 8), .assign (.const (.int .i64 13)), none, [], []⟩])
      (.skip)))
  (.seq (.seq (.region false [⟨(some 19), .move (.tmp 2), none, [], []⟩,
        ⟨(some 20), .bin .and (.flat .int) (.tmp 19) (.const (.int .i64 1)), none, [], []⟩,
        ⟨(some 21), .bin .eql (.flat .int) (.tmp 20) (.const (.int .i64 1)), none, [], []⟩])
    (.cond (.tmp 21)
      (.region false [⟨(some 22), .move (.tmp 8), none, [], []⟩,
        ⟨(some 23), .load true 4 (.tmp 7), none, [], []⟩,
        ⟨(some 24), .buildSlice 26 4 1 [(.int .i64 0), (.str []), (.int .i64 0), .nilslice] [(0, 4, (.tmp 23))], none, [], []⟩,
        ⟨(some 25), .build [(.int .i64 0), (.str []), (.int .i64 0), .nilslice] [(0, 1, (.tmp 22)), (3, 1, (.tmp 24))], none, [], []⟩,
        ⟨none, .store 4 (.tmp 7) (.tmp 25), none, [], []⟩])
      (.skip)))
  (.seq (.seq (.region false [⟨(some 9), .assign (.const (.int .i64 0)), none, [], []⟩])
    (.block 0
      (.loop
        (.seq (.seq (.region false [⟨(some 26), .move (.tmp 9), none, [], []⟩,
              ⟨(some 27), .move (.tmp 0), none, [], []⟩,
              ⟨(some 28), .bin .lss (.flat .int) (.tmp 26) (.tmp 27), none, [], []⟩])
          (.cond (.tmp 28)
            (.skip)
            (.exit 0)))
        (.seq (.block 1
            (.region false [⟨(some 31), .load true 4 (.tmp 7), none, [], []⟩,
              ⟨(some 32), .buildSlice 26 4 1 [(.int .i64 0), (.str []), (.int .i64 0), .nilslice] [(0, 4, (.tmp 31))], none, [], []⟩,
              ⟨(some 33), .build [(.int .i64 0), (.str []), (.int .i64 0), .nilslice] [(0, 1, (.const (.int .i64 11))), (3, 1, (.tmp 32))], none, [], []⟩,
              ⟨none, .store 4 (.tmp 7) (.tmp 33), none, [], []⟩]))
        (.region false [⟨(some 29), .move (.tmp 9), none, [], []⟩,
          ⟨(some 30), .bin .add (.flat .int) (.tmp 29) (.const (.int .i64 1)), none, [], []⟩,
          ⟨(some 9), .assign (.tmp 30), none, [], []⟩]))))))
  (.seq (.region false [⟨(some 34), .move (.tmp 2), none, [], []⟩,
      ⟨(some 35), .bin .and (.flat .int) (.tmp 34) (.const (.int .i64 1)), none, [], []⟩,
      ⟨(some 36), .bin .eql (.flat .int) (.tmp 35) (.const (.int .i64 1)), none, [], []⟩,
      ⟨(some 10), .assign (.tmp 36), none, [], []⟩])
  (.seq (.region true [⟨(some 37), .load true 4 (.tmp 7), none, [], [7]⟩,
      ⟨(some 38), .callF 9 [(.const .nilslice), (.tmp 37), (.const (.bool true))], none, [], [37]⟩,
      ⟨(some 39), .load true 4 (.tmp 7), none, [1], [7]⟩,
      ⟨(some 40), .callF 9 [(.const .nilslice), (.tmp 39), (.const (.bool false))], none, [], [39]⟩,
      ⟨(some 11), .assign (.tmp 38), none, [], [38]⟩,
      ⟨(some 12), .assign (.tmp 40), none, [], [40]⟩])
  (.seq (.region false [⟨(some 41), .move (.tmp 8), none, [], []⟩,
      ⟨(some 42), .load true 4 (.tmp 7), none, [], []⟩,
      ⟨(some 43), .buildSlice 26 4 1 [(.int .i64 0), (.str []), (.int .i64 0), .nilslice] [(0, 4, (.tmp 42))], none, [], []⟩,
      ⟨(some 44), .build [(.int .i64 0), (.str []), (.int .i64 0), .nilslice] [(0, 1, (.tmp 41)), (3, 1, (.tmp 43))], none, [], []⟩,
      ⟨(some 13), .box 26 (.const (.agg [(.int .i64 0), (.str []), (.int .i64 0), .nilslice])), none, [], []⟩,
      ⟨none, .store 4 (.tmp 13) (.tmp 44), none, [], []⟩])
  (.seq (.region false [⟨(some 45), .load true 4 (.tmp 13), none, [], []⟩,
      ⟨(some 46), .callF 9 [(.const .nilslice), (.tmp 45), (.const (.bool true))], none, [], []⟩,
      ⟨(some 14), .assign (.tmp 46), none, [], []⟩])
  (.seq (.seq (.region false [⟨(some 47), .move (.tmp 10), none, [], []⟩,
        ⟨(some 48), .un .not (.tmp 47), none, [], []⟩])
    (.cond (.tmp 48)
      (.seq (.region false [⟨(some 49), .move (.tmp 11), none, [], []⟩,
          ⟨(some 50), .bin .eql (.flat .int) (.tmp 49) (.const (.int .i64 0)), none, [], []⟩,
          ⟨(some 51), .move (.tmp 50), none, [], []⟩,
          ⟨(some 52), .move (.tmp 12), some (51, true), [], []⟩,
          ⟨(some 53), .bin .eql (.flat .int) (.tmp 52) (.const (.int .i64 0)), some (51, true), [], []⟩,
          ⟨(some 54), .pick (.tmp 51) (.tmp 53) (.const (.bool false)), none, [], []⟩,
          ⟨(some 55), .move (.tmp 54), none, [], []⟩,
          ⟨(some 56), .move (.tmp 14), some (55, true), [], []⟩,
          ⟨(some 57), .bin .eql (.flat .int) (.tmp 56) (.const (.int .i64 0)), some (55, true), [], []⟩,
          ⟨(some 58), .pick (.tmp 55) (.tmp 57) (.const (.bool false)), none, [], []⟩,
          ⟨(some 59), .move (.tmp 58), none, [], []⟩,
          ⟨(some 60), .load true 4 (.tmp 13), some (59, true), [], []⟩,
          ⟨(some 61), .callF 9 [(.const .nilslice), (.tmp 60), (.const (.bool false))], some (59, true), [], []⟩,
          ⟨(some 62), .bin .eql (.flat .int) (.tmp 61) (.const (.int .i64 57)), some (59, true), [], []⟩,
          ⟨(some 63), .pick (.tmp 59) (.tmp 62) (.const (.bool false)), none, [], []⟩,
          ⟨(some 6), .assign (.tmp 63), none, [], []⟩])
      (.ret))
      (.skip)))
  (.seq (.region false [⟨(some 64), .move (.tmp 12), none, [], []⟩,
      ⟨(some 65), .bin .eql (.flat .int) (.tmp 64) (.const (.int .i64 57)), none, [], []⟩,
      ⟨(some 66), .move (.tmp 65), none, [], []⟩,
      ⟨(some 67), .move (.tmp 14), some (66, true), [], []⟩,
      ⟨(some 68), .bin .eql (.flat .int) (.tmp 67) (.const (.int .i64 57)), some (66, true), [], []⟩,
      ⟨(some 69), .pick (.tmp 66) (.tmp 68) (.const (.bool false)), none, [], []⟩,
      ⟨(some 70), .move (.tmp 69), none, [], []⟩,
      ⟨(some 71), .move (.tmp 11), some (70, true), [], []⟩,
      ⟨(some 72), .bin .eql (.flat .int) (.tmp 71) (.const (.int .i64 0)), some (70, true), [], []⟩,
      ⟨(some 73), .move (.tmp 0), some (70, true), [], []⟩,
      ⟨(some 74), .bin .eql (.flat .int) (.tmp 73) (.const (.int .i64 0)), some (70, true), [], []⟩,
      ⟨(some 75), .bin .eql (.flat .bool) (.tmp 72) (.tmp 74), some (70, true), [], []⟩,
      ⟨(some 76), .pick (.tmp 70) (.tmp 75) (.const (.bool false)), none, [], []⟩,
      ⟨(some 6), .assign (.tmp 76), none, [], []⟩])
  (.ret)))))))))))))
def vf4 : VFunc := ⟨77, [.tmp 6], code4⟩
theorem vf4_ok : funcV Try.prog 4 = some vf4 := by kernel_rfl
/- ferrule/names.Type -/
def code9 : VCode :=
  .seq (.region false [⟨(some 4), .box 26 (.tmp 1), none, [], []⟩,
      ⟨(some 6), .assign (.const (.int .i64 0)), none, [], []⟩])
  (.seq (.region false [⟨(some 15), .load true 4 (.tmp 4), none, [], []⟩,
      ⟨(some 16), .callF 25 [(.tmp 15)], none, [], []⟩,
      ⟨(some 7), .assign (.tmp 16), none, [], []⟩])
  (.seq (.seq (.region false [⟨(some 17), .move (.tmp 7), none, [], []⟩,
        ⟨(some 18), .len .slice (.tmp 17), none, [], []⟩,
        ⟨(some 19), .move (.const (.int .i64 0)), none, [], []⟩])
    (.block 0
      (.loop
        (.seq (.region false [⟨(some 20), .bin .lss (.flat .int) (.tmp 19) (.tmp 18), none, [], []⟩])
        (.seq (.cond (.tmp 20)
            (.skip)
            (.exit 0))
        (.seq (.block 1
            (.seq (.region false [⟨(some 21), .move (.tmp 19), none, [], []⟩,
                ⟨(some 22), .indexAddr none 4 (.tmp 17) (.tmp 19), none, [], []⟩,
                ⟨(some 23), .load true 4 (.tmp 22), none, [], []⟩,
                ⟨(some 9), .box 26 (.const (.agg [(.int .i64 0), (.str []), (.int .i64 0), .nilslice])), none, [], []⟩,
                ⟨(some 8), .assign (.tmp 21), none, [], []⟩,
                ⟨none, .store 4 (.tmp 9) (.tmp 23), none, [], []⟩])
            (.seq (.region false [⟨(some 24), .move (.tmp 0), none, [], []⟩,
                ⟨(some 25), .load true 4 (.tmp 9), none, [], []⟩,
                ⟨(some 26), .move (.tmp 2), none, [], []⟩,
                ⟨(some 27), .move (.tmp 26), none, [], []⟩,
                ⟨(some 28), .move (.tmp 8), some (27, true), [], []⟩,
                ⟨(some 29), .bin .eql (.flat .int) (.tmp 28) (.const (.int .i64 0)), some (27, true), [], []⟩,
                ⟨(some 30), .pick (.tmp 27) (.tmp 29) (.const (.bool false)), none, [], []⟩,
                ⟨(some 31), .callF 26 [(.tmp 24), (.tmp 25), (.tmp 30)], none, [], []⟩,
                ⟨(some 10), .assign (.tmp 31), none, [], []⟩])
            (.seq (.region false [⟨(some 32), .move (.tmp 10), none, [], []⟩,
                ⟨(some 33), .bin .neq (.flat .int) (.tmp 32) (.const (.int .i64 0)), none, [], []⟩])
            (.cond (.tmp 33)
              (.seq (.region false [⟨(some 34), .move (.tmp 10), none, [], []⟩,
                  ⟨(some 6), .assign (.tmp 34), none, [], []⟩])
              (.ret))
              (.skip))))))
        (.region false [⟨(some 35), .bin .add (.flat .int) (.tmp 19) (.const (.int .i64 1)), none, [], []⟩,
          ⟨(some 19), .move (.tmp 35), none, [], []⟩])))))))
  (.seq (.seq (.region false [⟨(some 36), .move (.tmp 7), none, [], []⟩,
        ⟨(some 37), .len .slice (.tmp 36), none, [], []⟩,
        ⟨(some 38), .move (.const (.int .i64 0)), none, [], []⟩])
    (.block 2
      (.loop
        (.seq (.region false [⟨(some 39), .bin .lss (.flat .int) (.tmp 38) (.tmp 37), none, [], []⟩])
        (.seq (.cond (.tmp 39)
            (.skip)
            (.exit 2))
        (.seq (.block 3
            (.seq (.region false [⟨(some 40), .indexAddr none 4 (.tmp 36) (.tmp 38), none, [], []⟩,
                ⟨(some 41), .load true 4 (.tmp 40), none, [], []⟩,
                ⟨(some 12), .box 26 (.const (.agg [(.int .i64 0), (.str []), (.int .i64 0), .nilslice])), none, [], []⟩,
                ⟨none, .store 4 (.tmp 12) (.tmp 41), none, [], []⟩])
            (.seq (.region false [⟨(some 43), .move (.tmp 0), none, [], []⟩,
                ⟨(some 44), .load true 4 (.tmp 12), none, [], []⟩,
                ⟨(some 45), .callF 6 [(.tmp 43), (.tmp 44)], none, [], []⟩,
                ⟨(some 42), .move (.tmp 45), none, [], []⟩,
                ⟨(some 46), .extract (.tmp 42) 0, none, [], []⟩,
                ⟨(some 47), .extract (.tmp 42) 1, none, [], []⟩,
                ⟨(some 13), .assign (.tmp 46), none, [], []⟩,
                ⟨(some 14), .assign (.tmp 47), none, [], []⟩])
            (.seq (.region false [⟨(some 48), .move (.tmp 14), none, [], []⟩,
                ⟨(some 49), .un .not (.tmp 48), none, [], []⟩])
            (.cond (.tmp 49)
              (.seq (.region false [⟨(some 6), .assign (.const (.int .i64 43)), none, [], []⟩])
              (.ret))
              (.skip))))))
        (.region false [⟨(some 50), .bin .add (.flat .int) (.tmp 38) (.const (.int .i64 1)), none, [], []⟩,
          ⟨(some 38), .move (.tmp 50), none, [], []⟩])))))))
  (.seq (.region false [⟨(some 6), .assign (.const (.int .i64 0)), none, [], []⟩])
  (.ret)))))
def vf9 : VFunc := ⟨51, [.tmp 6], code9⟩
theorem vf9_ok : funcV Try.prog 9 = some vf9 := by kernel_rfl
/- ferrule/names.chain -/
def code25 : VCode :=
  .seq (.region false [⟨(some 1), .box 26 (.tmp 0), none, [], []⟩,
      ⟨(some 2), .assign (.const .nilslice), none, [], []⟩])
  (.seq (.region false [⟨(some 4), .load true 4 (.tmp 1), none, [], []⟩,
      ⟨(some 5), .buildSlice 26 4 1 [(.int .i64 0), (.str []), (.int .i64 0), .nilslice] [(0, 4, (.tmp 4))], none, [], []⟩,
      ⟨(some 3), .assign (.tmp 5), none, [], []⟩])
  (.seq (.block 0
      (.loop
        (.seq (.seq (.region false [⟨(some 6), .fieldAddr 0 (.tmp 1), none, [], []⟩,
              ⟨(some 7), .load false 1 (.tmp 6), none, [], []⟩,
              ⟨(some 8), .bin .geq (.flat .int) (.tmp 7) (.const (.int .i64 10)), none, [], []⟩,
              ⟨(some 9), .move (.tmp 8), none, [], []⟩,
              ⟨(some 10), .fieldAddr 0 (.tmp 1), some (9, true), [], []⟩,
              ⟨(some 11), .load false 1 (.tmp 10), some (9, true), [], []⟩,
              ⟨(some 12), .bin .leq (.flat .int) (.tmp 11) (.const (.int .i64 13)), some (9, true), [], []⟩,
              ⟨(some 13), .pick (.tmp 9) (.tmp 12) (.const (.bool false)), none, [], []⟩,
              ⟨(some 14), .move (.tmp 13), none, [], []⟩,
              ⟨(some 15), .fieldAddr 3 (.tmp 1), some (14, true), [], []⟩,
              ⟨(some 16), .load false 1 (.tmp 15), some (14, true), [], []⟩,
              ⟨(some 17), .len .slice (.tmp 16), some (14, true), [], []⟩,
              ⟨(some 18), .bin .gtr (.flat .int) (.tmp 17) (.const (.int .i64 0)), some (14, true), [], []⟩,
              ⟨(some 19), .pick (.tmp 14) (.tmp 18) (.const (.bool false)), none, [], []⟩])
          (.cond (.tmp 19)
            (.skip)
            (.exit 0)))
        (.block 1
          (.seq (.region false [⟨(some 20), .fieldAddr 3 (.tmp 1), none, [], []⟩,
              ⟨(some 21), .load false 1 (.tmp 20), none, [], []⟩,
              ⟨(some 22), .indexAddr none 4 (.tmp 21) (.const (.int .i64 0)), none, [], []⟩,
              ⟨(some 23), .load true 4 (.tmp 22), none, [], []⟩,
              ⟨none, .store 4 (.tmp 1) (.tmp 23), none, [], []⟩])
          (.region false [⟨(some 24), .move (.tmp 3), none, [], []⟩,
            ⟨(some 25), .load true 4 (.tmp 1), none, [], []⟩,
            ⟨(some 26), .buildSlice 26 4 1 [(.int .i64 0), (.str []), (.int .i64 0), .nilslice] [(0, 4, (.tmp 25))], none, [], []⟩,
            ⟨(some 27), .append 26 4 56 none (.tmp 24) (.tmp 26), none, [], []⟩,
            ⟨(some 3), .assign (.tmp 27), none, [], []⟩]))))))
  (.seq (.region false [⟨(some 28), .move (.tmp 3), none, [], []⟩,
      ⟨(some 2), .assign (.tmp 28), none, [], []⟩])
  (.ret))))
def vf25 : VFunc := ⟨29, [.tmp 2], code25⟩
theorem vf25_ok : funcV Try.prog 25 = some vf25 := by kernel_rfl
/- ferrule/names.shape -/
def code26 : VCode :=
  .seq (.region false [⟨(some 4), .box 26 (.tmp 1), none, [], []⟩,
      ⟨(some 6), .assign (.const (.int .i64 0)), none, [], []⟩])
  (.seq (.seq (.region false [⟨(some 7), .fieldAddr 0 (.tmp 4), none, [], []⟩,
        ⟨(some 8), .load false 1 (.tmp 7), none, [], []⟩])
    (.block 0
      (.seq (.seq (.region false [⟨(some 10), .bin .eql (.flat .int) (.tmp 8) (.const (.int .i64 12)), none, [], []⟩,
            ⟨(some 9), .assign (.tmp 10), none, [], []⟩])
        (.cond (.tmp 9)
          (.skip)
          (.region false [⟨(some 11), .bin .eql (.flat .int) (.tmp 8) (.const (.int .i64 13)), none, [], []⟩,
            ⟨(some 9), .assign (.tmp 11), none, [], []⟩])))
      (.cond (.tmp 9)
        (.seq (.region false [⟨(some 12), .move (.tmp 2), none, [], []⟩,
            ⟨(some 13), .un .not (.tmp 12), none, [], []⟩])
        (.cond (.tmp 13)
          (.seq (.region false [⟨(some 6), .assign (.const (.int .i64 57)), none, [], []⟩])
          (.ret))
          (.skip)))
        (.seq (.region false [⟨(some 15), .bin .eql (.flat .int) (.tmp 8) (.const (.int .i64 9)), none, [], []⟩,
            ⟨(some 14), .assign (.tmp 15), none, [], []⟩])
        (.cond (.tmp 14)
          (.seq (.region false [⟨(some 16), .move (.tmp 0), none, [], []⟩,
              ⟨(some 17), .fieldAddr 1 (.tmp 4), none, [], []⟩,
              ⟨(some 18), .load false 1 (.tmp 17), none, [], []⟩,
              ⟨(some 19), .callF 17 [(.tmp 16), (.const (.int .i64 2)), (.tmp 18)], none, [], []⟩,
              ⟨(some 20), .bin .lss (.flat .int) (.tmp 19) (.const (.int .i64 0)), none, [], []⟩,
              ⟨(some 21), .move (.tmp 20), none, [], []⟩,
              ⟨(some 22), .move (.tmp 0), some (21, true), [], []⟩,
              ⟨(some 23), .fieldAddr 1 (.tmp 4), some (21, true), [], []⟩,
              ⟨(some 24), .load false 1 (.tmp 23), some (21, true), [], []⟩,
              ⟨(some 25), .callF 17 [(.tmp 22), (.const (.int .i64 3)), (.tmp 24)], some (21, true), [], []⟩,
              ⟨(some 26), .bin .lss (.flat .int) (.tmp 25) (.const (.int .i64 0)), some (21, true), [], []⟩,
              ⟨(some 27), .pick (.tmp 21) (.tmp 26) (.const (.bool false)), none, [], []⟩])
          (.cond (.tmp 27)
            (.seq (.region false [⟨(some 6), .assign (.const (.int .i64 41)), none, [], []⟩])
            (.ret))
            (.skip)))
          (.skip)))))))
  (.seq (.seq (.region false [⟨(some 28), .fieldAddr 0 (.tmp 4), none, [], []⟩,
        ⟨(some 29), .load false 1 (.tmp 28), none, [], []⟩,
        ⟨(some 30), .bin .lss (.flat .int) (.tmp 29) (.const (.int .i64 1)), none, [], []⟩,
        ⟨(some 31), .move (.tmp 30), none, [], []⟩,
        ⟨(some 32), .fieldAddr 0 (.tmp 4), some (31, false), [], []⟩,
        ⟨(some 33), .load false 1 (.tmp 32), some (31, false), [], []⟩,
        ⟨(some 34), .bin .gtr (.flat .int) (.tmp 33) (.const (.int .i64 13)), some (31, false), [], []⟩,
        ⟨(some 35), .pick (.tmp 31) (.const (.bool true)) (.tmp 34), none, [], []⟩,
        ⟨(some 36), .move (.tmp 35), none, [], []⟩,
        ⟨(some 37), .fieldAddr 0 (.tmp 4), some (36, false), [], []⟩,
        ⟨(some 38), .load false 1 (.tmp 37), some (36, false), [], []⟩,
        ⟨(some 39), .bin .geq (.flat .int) (.tmp 38) (.const (.int .i64 10)), some (36, false), [], []⟩,
        ⟨(some 40), .move (.tmp 39), some (36, false), [], []⟩,
        ⟨(some 41), .fieldAddr 3 (.tmp 4), some (40, true), [], []⟩,
        ⟨(some 42), .load false 1 (.tmp 41), some (40, true), [], []⟩,
        ⟨(some 43), .len .slice (.tmp 42), some (40, true), [], []⟩,
        ⟨(some 44), .bin .eql (.flat .int) (.tmp 43) (.const (.int .i64 0)), some (40, true), [], []⟩,
        ⟨(some 45), .pick (.tmp 40) (.tmp 44) (.const (.bool false)), some (36, false), [], []⟩,
        ⟨(some 46), .pick (.tmp 36) (.const (.bool true)) (.tmp 45), none, [], []⟩])
    (.cond (.tmp 46)
      (.seq (.region false [⟨(some 6), .assign (.const (.int .i64 10)), none, [], []⟩])
      (.ret))
      (.skip)))
  (.seq (.region false [⟨(some 6), .assign (.const (.int .i64 0)), none, [], []⟩])
  (.ret))))
def vf26 : VFunc := ⟨47, [.tmp 6], code26⟩
theorem vf26_ok : funcV Try.prog 26 = some vf26 := by kernel_rfl
/- ferrule/types.Find -/
def code17 : VCode :=
  .seq (.region false [⟨(some 4), .box 3 (.tmp 1), none, [], []⟩,
      ⟨(some 5), .box 9 (.tmp 2), none, [], []⟩,
      ⟨(some 6), .assign (.const (.int .i64 0)), none, [], []⟩])
  (.seq (.region false [⟨(some 7), .move (.tmp 0), none, [], []⟩,
      ⟨(some 8), .mkFunc 33 [] [(.tmp 4), (.tmp 5)], none, [], []⟩,
      ⟨(some 9), .callF 32 [(.tmp 7), (.tmp 8)], none, [], []⟩,
      ⟨(some 6), .assign (.tmp 9), none, [], []⟩])
  (.ret))
def vf17 : VFunc := ⟨10, [.tmp 6], code17⟩
theorem vf17_ok : funcV Try.prog 17 = some vf17 := by kernel_rfl
/- ferrule/types.Find$1 -/
def code33 : VCode :=
  .seq (.region false [⟨(some 3), .box 35 (.tmp 0), none, [], []⟩,
      ⟨(some 4), .assign (.const (.bool false)), none, [], []⟩])
  (.seq (.region false [⟨(some 5), .load false 1 (.tmp 1), none, [], []⟩,
      ⟨(some 6), .bin .eql (.flat .int) (.tmp 5) (.const (.int .i64 0)), none, [], []⟩,
      ⟨(some 7), .move (.tmp 6), none, [], []⟩,
      ⟨(some 8), .fieldAddr 0 (.tmp 3), some (7, false), [], []⟩,
      ⟨(some 9), .load false 1 (.tmp 8), some (7, false), [], []⟩,
      ⟨(some 10), .load false 1 (.tmp 1), some (7, false), [], []⟩,
      ⟨(some 11), .bin .eql (.flat .int) (.tmp 9) (.tmp 10), some (7, false), [], []⟩,
      ⟨(some 12), .pick (.tmp 7) (.const (.bool true)) (.tmp 11), none, [], []⟩,
      ⟨(some 13), .move (.tmp 12), none, [], []⟩,
      ⟨(some 14), .fieldAddr 1 (.tmp 3), some (13, true), [], []⟩,
      ⟨(some 15), .load false 1 (.tmp 14), some (13, true), [], []⟩,
      ⟨(some 16), .load false 1 (.tmp 2), some (13, true), [], []⟩,
      ⟨(some 17), .bin .eql (.flat .str) (.tmp 15) (.tmp 16), some (13, true), [], []⟩,
      ⟨(some 18), .pick (.tmp 13) (.tmp 17) (.const (.bool false)), none, [], []⟩,
      ⟨(some 4), .assign (.tmp 18), none, [], []⟩])
  (.ret))
def vf33 : VFunc := ⟨19, [.tmp 4], code33⟩
theorem vf33_ok : funcV Try.prog 33 = some vf33 := by kernel_rfl
/- slices.IndexFunc[[]ferrule/api.Item,ferrule/api.Item] -/
def code32 : VCode :=
  .seq (.region false [⟨(some 4), .assign (.const (.int .i64 0)), none, [], []⟩])
  (.seq (.seq (.region false [⟨(some 6), .move (.tmp 0), none, [], []⟩,
        ⟨(some 7), .len .slice (.tmp 6), none, [], []⟩,
        ⟨(some 8), .move (.const (.int .i64 0)), none, [], []⟩])
    (.block 0
      (.loop
        (.seq (.region false [⟨(some 9), .bin .lss (.flat .int) (.tmp 8) (.tmp 7), none, [], []⟩])
        (.seq (.cond (.tmp 9)
            (.skip)
            (.exit 0))
        (.seq (.block 1
            (.seq (.region false [⟨(some 10), .move (.tmp 8), none, [], []⟩,
                ⟨(some 5), .assign (.tmp 10), none, [], []⟩])
            (.seq (.region false [⟨(some 11), .move (.tmp 1), none, [], []⟩,
                ⟨(some 12), .move (.tmp 0), none, [], []⟩,
                ⟨(some 13), .move (.tmp 5), none, [], []⟩,
                ⟨(some 14), .indexAddr none 20 (.tmp 12) (.tmp 13), none, [], []⟩,
                ⟨(some 15), .load true 20 (.tmp 14), none, [], []⟩,
                ⟨(some 16), .call (.tmp 11) [(.tmp 15)], none, [], []⟩])
            (.cond (.tmp 16)
              (.seq (.region false [⟨(some 17), .move (.tmp 5), none, [], []⟩,
                  ⟨(some 4), .assign (.tmp 17), none, [], []⟩])
              (.ret))
              (.skip)))))
        (.region false [⟨(some 18), .bin .add (.flat .int) (.tmp 8) (.const (.int .i64 1)), none, [], []⟩,
          ⟨(some 8), .move (.tmp 18), none, [], []⟩])))))))
  (.seq (.region false [⟨(some 4), .assign (.const (.int .i64 (.negSucc 0))), none, [], []⟩])
  (.ret)))
def vf32 : VFunc := ⟨19, [.tmp 4], code32⟩
theorem vf32_ok : funcV Try.prog 32 = some vf32 := by kernel_rfl
/- ferrule/types.Words -/
def code6 : VCode :=
  .seq (.region false [⟨(some 3), .box 26 (.tmp 1), none, [], []⟩,
      ⟨(some 4), .assign (.const (.int .i64 0)), none, [], []⟩,
      ⟨(some 5), .assign (.const (.bool false)), none, [], []⟩])
  (.seq (.region false [⟨(some 9), .move (.tmp 0), none, [], []⟩,
      ⟨(some 10), .load true 4 (.tmp 3), none, [], []⟩,
      ⟨(some 11), .callF 20 [(.tmp 9), (.tmp 10)], none, [], []⟩,
      ⟨(some 8), .move (.tmp 11), none, [], []⟩,
      ⟨(some 12), .extract (.tmp 8) 0, none, [], []⟩,
      ⟨(some 13), .extract (.tmp 8) 1, none, [], []⟩,
      ⟨(some 6), .box 53 (.const (.agg [(.int .i64 0), (.int .i64 0), (.bool false)])), none, [], []⟩,
      ⟨none, .store 3 (.tmp 6) (.tmp 12), none, [], []⟩,
      ⟨(some 7), .assign (.tmp 13), none, [], []⟩])
  (.seq (.seq (.region false [⟨(some 14), .move (.tmp 7), none, [], []⟩,
        ⟨(some 15), .un .not (.tmp 14), none, [], []⟩,
        ⟨(some 16), .move (.tmp 15), none, [], []⟩,
        ⟨(some 17), .fieldAddr 1 (.tmp 6), some (16, false), [], []⟩,
        ⟨(some 18), .load false 1 (.tmp 17), some (16, false), [], []⟩,
        ⟨(some 19), .bin .gtr (.flat .int) (.tmp 18) (.const (.int .i64 128)), some (16, false), [], []⟩,
        ⟨(some 20), .pick (.tmp 16) (.const (.bool true)) (.tmp 19), none, [], []⟩])
    (.cond (.tmp 20)
      (.seq (.region false [⟨(some 4), .assign (.const (.int .i64 0)), none, [], []⟩,
          ⟨(some 5), .assign (.const (.bool false)), none, [], []⟩])
      (.ret))
      (.skip)))
  (.seq (.region false [⟨(some 21), .fieldAddr 1 (.tmp 6), none, [], []⟩,
      ⟨(some 22), .load false 1 (.tmp 21), none, [], []⟩,
      ⟨(some 4), .assign (.tmp 22), none, [], []⟩,
      ⟨(some 5), .assign (.const (.bool true)), none, [], []⟩])
  (.ret))))
def vf6 : VFunc := ⟨23, [.tmp 4, .tmp 5], code6⟩
theorem vf6_ok : funcV Try.prog 6 = some vf6 := by kernel_rfl
/- ferrule/types.measure -/
def code20 : VCode :=
  .seq (.region false [⟨(some 3), .box 26 (.tmp 1), none, [], []⟩,
      ⟨(some 4), .box 53 (.const (.agg [(.int .i64 0), (.int .i64 0), (.bool false)])), none, [], []⟩,
      ⟨(some 5), .assign (.const (.bool false)), none, [], []⟩])
  (.seq (.region false [⟨(some 8), .move (.tmp 0), none, [], []⟩,
      ⟨(some 9), .build [.nilslice, (.int .i64 0), (.bool false)] [(0, 1, (.tmp 8)), (1, 1, (.const (.int .i64 512)))], none, [], []⟩,
      ⟨(some 10), .box 76 (.tmp 9), none, [], []⟩,
      ⟨(some 6), .assign (.tmp 10), none, [], []⟩])
  (.seq (.region false [⟨(some 11), .move (.tmp 6), none, [], []⟩,
      ⟨(some 12), .load true 4 (.tmp 3), none, [], []⟩,
      ⟨(some 13), .callF 35 [(.tmp 11), (.tmp 12)], none, [], []⟩,
      ⟨(some 7), .box 53 (.const (.agg [(.int .i64 0), (.int .i64 0), (.bool false)])), none, [], []⟩,
      ⟨none, .store 3 (.tmp 7) (.tmp 13), none, [], []⟩])
  (.seq (.seq (.region false [⟨(some 14), .move (.tmp 6), none, [], []⟩,
        ⟨(some 15), .nilCheck (.tmp 14), none, [], []⟩,
        ⟨(some 16), .fieldAddr 2 (.tmp 15), none, [], []⟩,
        ⟨(some 17), .load false 1 (.tmp 16), none, [], []⟩])
    (.cond (.tmp 17)
      (.seq (.region false [⟨(some 18), .build [(.int .i64 0), (.int .i64 0), (.bool false)] [], none, [], []⟩,
          ⟨none, .store 3 (.tmp 4) (.tmp 18), none, [], []⟩,
          ⟨(some 5), .assign (.const (.bool false)), none, [], []⟩])
      (.ret))
      (.skip)))
  (.seq (.region true [⟨(some 19), .load true 3 (.tmp 7), none, [], [7]⟩,
      ⟨(some 20), .load true 3 (.tmp 7), none, [], [7]⟩,
      ⟨(some 21), .build [(.int .i64 0), (.int .i64 0), (.bool false)] [], none, [], []⟩,
      ⟨(some 22), .bin .neq (.struct [(0, 1, false, (.flat .int)), (1, 1, false, (.flat .int)), (2, 1, false, (.flat .bool))]) (.tmp 20) (.tmp 21), none, [], [20, 21]⟩,
      ⟨none, .store 3 (.tmp 4) (.tmp 19), none, [1, 2, 3], [4, 19]⟩,
      ⟨(some 5), .assign (.tmp 22), none, [], [22]⟩])
  (.ret)))))
def vf20 : VFunc := ⟨23, [.cell 4 true 3, .tmp 5], code20⟩
theorem vf20_ok : funcV Try.prog 20 = some vf20 := by kernel_rfl
/- (*ferrule/types.counter).add -/
def code35 : VCode :=
  .seq (.region false [⟨(some 3), .box 26 (.tmp 1), none, [], []⟩,
      ⟨(some 4), .box 53 (.const (.agg [(.int .i64 0), (.int .i64 0), (.bool false)])), none, [], []⟩])
  (.seq (.region false [⟨(some 6), .move (.tmp 0), none, [], []⟩,
      ⟨(some 7), .nilCheck (.tmp 6), none, [], []⟩,
      ⟨(some 8), .fieldAddr 1 (.tmp 7), none, [], []⟩,
      ⟨(some 9), .load false 1 (.tmp 8), none, [], []⟩,
      ⟨(some 10), .bin .sub (.flat .int) (.tmp 9) (.const (.int .i64 1)), none, [], []⟩,
      ⟨(some 11), .nilCheck (.tmp 6), none, [], []⟩,
      ⟨(some 12), .fieldAddr 1 (.tmp 11), none, [], []⟩,
      ⟨none, .store 1 (.tmp 12) (.tmp 10), none, [], []⟩])
  (.seq (.seq (.region false [⟨(some 13), .move (.tmp 0), none, [], []⟩,
        ⟨(some 14), .move (.tmp 0), none, [], []⟩,
        ⟨(some 15), .nilCheck (.tmp 14), none, [], []⟩,
        ⟨(some 16), .fieldAddr 2 (.tmp 15), none, [], []⟩,
        ⟨(some 17), .load false 1 (.tmp 16), none, [], []⟩,
        ⟨(some 18), .move (.tmp 17), none, [], []⟩,
        ⟨(some 19), .move (.tmp 0), some (18, false), [], []⟩,
        ⟨(some 20), .nilCheck (.tmp 19), some (18, false), [], []⟩,
        ⟨(some 21), .fieldAddr 1 (.tmp 20), some (18, false), [], []⟩,
        ⟨(some 22), .load false 1 (.tmp 21), some (18, false), [], []⟩,
        ⟨(some 23), .bin .lss (.flat .int) (.tmp 22) (.const (.int .i64 0)), some (18, false), [], []⟩,
        ⟨(some 24), .pick (.tmp 18) (.const (.bool true)) (.tmp 23), none, [], []⟩,
        ⟨(some 25), .nilCheck (.tmp 13), none, [], []⟩,
        ⟨(some 26), .fieldAddr 2 (.tmp 25), none, [], []⟩,
        ⟨none, .store 1 (.tmp 26) (.tmp 24), none, [], []⟩])
    (.seq (.region false [⟨(some 27), .move (.tmp 0), none, [], []⟩,
        ⟨(some 28), .nilCheck (.tmp 27), none, [], []⟩,
        ⟨(some 29), .fieldAddr 2 (.tmp 28), none, [], []⟩,
        ⟨(some 30), .load false 1 (.tmp 29), none, [], []⟩])
    (.cond (.tmp 30)
      (.seq (.region false [⟨(some 31), .build [(.int .i64 0), (.int .i64 0), (.bool false)] [], none, [], []⟩,
          ⟨none, .store 3 (.tmp 4) (.tmp 31), none, [], []⟩])
      (.ret))
      (.skip))))
  (.seq (.region false [⟨(some 32), .build [(.int .i64 0), (.int .i64 0), (.bool false)] [(0, 1, (.const (.int .i64 1))), (1, 1, (.const (.int .i64 1)))], none, [], []⟩,
      ⟨(some 5), .box 53 (.const (.agg [(.int .i64 0), (.int .i64 0), (.bool false)])), none, [], []⟩,
      ⟨none, .store 3 (.tmp 5) (.tmp 32), none, [], []⟩])
  (.seq (.block 0
      (.seq (.region false [⟨(some 38), .fieldAddr 0 (.tmp 3), none, [], []⟩,
          ⟨(some 39), .load false 1 (.tmp 38), none, [], []⟩,
          ⟨(some 40), .bin .eql (.flat .int) (.tmp 39) (.const (.int .i64 1)), none, [], []⟩,
          ⟨(some 37), .assign (.tmp 40), none, [], []⟩])
      (.cond (.tmp 37)
        (.region false [⟨(some 41), .fieldAddr 1 (.tmp 5), none, [], []⟩,
          ⟨none, .store 1 (.tmp 41) (.const (.int .i64 0)), none, [], []⟩])
        (.seq (.region false [⟨(some 43), .fieldAddr 0 (.tmp 3), none, [], []⟩,
            ⟨(some 44), .load false 1 (.tmp 43), none, [], []⟩,
            ⟨(some 45), .bin .geq (.flat .int) (.tmp 44) (.const (.int .i64 2)), none, [], []⟩,
            ⟨(some 46), .move (.tmp 45), none, [], []⟩,
            ⟨(some 47), .fieldAddr 0 (.tmp 3), some (46, true), [], []⟩,
            ⟨(some 48), .load false 1 (.tmp 47), some (46, true), [], []⟩,
            ⟨(some 49), .bin .leq (.flat .int) (.tmp 48) (.const (.int .i64 8)), some (46, true), [], []⟩,
            ⟨(some 50), .pick (.tmp 46) (.tmp 49) (.const (.bool false)), none, [], []⟩,
            ⟨(some 42), .assign (.tmp 50), none, [], []⟩])
        (.cond (.tmp 42)
          (.skip)
          (.seq (.region false [⟨(some 52), .fieldAddr 0 (.tmp 3), none, [], []⟩,
              ⟨(some 53), .load false 1 (.tmp 52), none, [], []⟩,
              ⟨(some 54), .bin .eql (.flat .int) (.tmp 53) (.const (.int .i64 9)), none, [], []⟩,
              ⟨(some 51), .assign (.tmp 54), none, [], []⟩])
          (.cond (.tmp 51)
            (.seq (.region false [⟨(some 55), .move (.tmp 0), none, [], []⟩,
                ⟨(some 56), .load true 4 (.tmp 3), none, [], []⟩,
                ⟨(some 57), .callF 38 [(.tmp 55), (.tmp 56)], none, [], []⟩,
                ⟨none, .store 3 (.tmp 4) (.tmp 57), none, [], []⟩])
            (.ret))
            (.seq (.region false [⟨(some 59), .fieldAddr 0 (.tmp 3), none, [], []⟩,
                ⟨(some 60), .load false 1 (.tmp 59), none, [], []⟩,
                ⟨(some 61), .bin .lss (.flat .int) (.tmp 60) (.const (.int .i64 10)), none, [], []⟩,
                ⟨(some 62), .move (.tmp 61), none, [], []⟩,
                ⟨(some 63), .fieldAddr 0 (.tmp 3), some (62, false), [], []⟩,
                ⟨(some 64), .load false 1 (.tmp 63), some (62, false), [], []⟩,
                ⟨(some 65), .bin .gtr (.flat .int) (.tmp 64) (.const (.int .i64 13)), some (62, false), [], []⟩,
                ⟨(some 66), .pick (.tmp 62) (.const (.bool true)) (.tmp 65), none, [], []⟩,
                ⟨(some 67), .move (.tmp 66), none, [], []⟩,
                ⟨(some 68), .fieldAddr 3 (.tmp 3), some (67, false), [], []⟩,
                ⟨(some 69), .load false 1 (.tmp 68), some (67, false), [], []⟩,
                ⟨(some 70), .len .slice (.tmp 69), some (67, false), [], []⟩,
                ⟨(some 71), .bin .eql (.flat .int) (.tmp 70) (.const (.int .i64 0)), some (67, false), [], []⟩,
                ⟨(some 72), .pick (.tmp 67) (.const (.bool true)) (.tmp 71), none, [], []⟩,
                ⟨(some 58), .assign (.tmp 72), none, [], []⟩])
            (.cond (.tmp 58)
              (.region false [⟨(some 73), .move (.tmp 0), none, [], []⟩,
                ⟨(some 74), .nilCheck (.tmp 73), none, [], []⟩,
                ⟨(some 75), .fieldAddr 2 (.tmp 74), none, [], []⟩,
                ⟨none, .store 1 (.tmp 75) (.const (.bool true)), none, [], []⟩])
              (.seq (.region false [⟨(some 77), .fieldAddr 0 (.tmp 3), none, [], []⟩,
                  ⟨(some 78), .load false 1 (.tmp 77), none, [], []⟩,
                  ⟨(some 79), .bin .eql (.flat .int) (.tmp 78) (.const (.int .i64 10)), none, [], []⟩,
                  ⟨(some 76), .assign (.tmp 79), none, [], []⟩])
              (.cond (.tmp 76)
                (.seq (.region false [⟨(some 80), .move (.tmp 0), none, [], []⟩,
                    ⟨(some 81), .load true 4 (.tmp 3), none, [], []⟩,
                    ⟨(some 82), .callF 39 [(.tmp 80), (.tmp 81)], none, [], []⟩,
                    ⟨none, .store 3 (.tmp 4) (.tmp 82), none, [], []⟩])
                (.ret))
                (.region false [⟨(some 33), .fieldAddr 0 (.tmp 3), none, [], []⟩,
                  ⟨(some 34), .load false 1 (.tmp 33), none, [], []⟩,
                  ⟨(some 35), .bin .neq (.flat .int) (.tmp 34) (.const (.int .i64 12)), none, [], []⟩,
                  ⟨(some 36), .fieldAddr 2 (.tmp 5), none, [], []⟩,
                  ⟨none, .store 1 (.tmp 36) (.tmp 35), none, [], []⟩]))))))))))))
  (.seq (.region false [⟨(some 83), .load true 3 (.tmp 5), none, [], []⟩,
      ⟨none, .store 3 (.tmp 4) (.tmp 83), none, [], []⟩])
  (.ret))))))
def vf35 : VFunc := ⟨84, [.cell 4 true 3], code35⟩
theorem vf35_ok : funcV Try.prog 35 = some vf35 := by kernel_rfl
/- (*ferrule/types.counter).named -/
def code38 : VCode :=
  .seq (.region false [⟨(some 3), .box 26 (.tmp 1), none, [], []⟩,
      ⟨(some 4), .box 53 (.const (.agg [(.int .i64 0), (.int .i64 0), (.bool false)])), none, [], []⟩])
  (.seq (.region true [⟨(some 15), .move (.tmp 0), none, [], [0]⟩,
      ⟨(some 16), .nilCheck (.tmp 15), none, [], [15]⟩,
      ⟨(some 17), .fieldAddr 0 (.tmp 16), none, [], [16]⟩,
      ⟨(some 18), .load false 1 (.tmp 17), none, [], [17]⟩,
      ⟨(some 19), .load true 4 (.tmp 3), none, [], [3]⟩,
      ⟨(some 20), .callF 21 [(.tmp 18), (.tmp 19)], none, [], [18, 19]⟩,
      ⟨(some 14), .move (.tmp 20), none, [], [20]⟩,
      ⟨(some 21), .extract (.tmp 14) 0, none, [], [14]⟩,
      ⟨(some 22), .extract (.tmp 14) 1, none, [], [14]⟩,
      ⟨(some 5), .box 35 (.const (.agg [(.int .i64 0), (.str []), (.int .i64 0), .nilslice, .nilslice, (.int .i64 0), (.str []), (.int .i64 0), .nilslice, (.int .i64 0), (.int .i64 0), (.int .i64 0), (.int .i64 0), (.str []), .nilslice, .nilslice, (.int .i64 0), (.str []), (.int .i64 0), .nilslice])), none, [], []⟩,
      ⟨none, .store 20 (.tmp 5) (.tmp 21), none, [8], [5, 21]⟩,
      ⟨(some 6), .assign (.tmp 22), none, [], [22]⟩])
  (.seq (.seq (.region false [⟨(some 23), .move (.tmp 6), none, [], []⟩,
        ⟨(some 24), .un .not (.tmp 23), none, [], []⟩])
    (.cond (.tmp 24)
      (.seq (.region false [⟨(some 25), .move (.tmp 0), none, [], []⟩,
          ⟨(some 26), .nilCheck (.tmp 25), none, [], []⟩,
          ⟨(some 27), .fieldAddr 2 (.tmp 26), none, [], []⟩,
          ⟨none, .store 1 (.tmp 27) (.const (.bool true)), none, [], []⟩])
      (.seq (.region false [⟨(some 28), .build [(.int .i64 0), (.int .i64 0), (.bool false)] [], none, [], []⟩,
          ⟨none, .store 3 (.tmp 4) (.tmp 28), none, [], []⟩])
      (.ret)))
      (.skip)))
  (.seq (.region false [⟨(some 29), .build [(.int .i64 0), (.int .i64 0), (.bool false)] [(0, 1, (.const (.int .i64 1)))], none, [], []⟩,
      ⟨(some 7), .box 53 (.const (.agg [(.int .i64 0), (.int .i64 0), (.bool false)])), none, [], []⟩,
      ⟨none, .store 3 (.tmp 7) (.tmp 29), none, [], []⟩])
  (.seq (.seq (.region false [⟨(some 30), .fieldAddr 0 (.tmp 5), none, [], []⟩,
        ⟨(some 31), .load false 1 (.tmp 30), none, [], []⟩,
        ⟨(some 32), .bin .eql (.flat .int) (.tmp 31) (.const (.int .i64 2)), none, [], []⟩])
    (.cond (.tmp 32)
      (.seq (.seq (.region false [⟨(some 33), .fieldAddr 3 (.tmp 5), none, [], []⟩,
            ⟨(some 34), .load false 1 (.tmp 33), none, [], []⟩,
            ⟨(some 35), .len .slice (.tmp 34), none, [], []⟩,
            ⟨(some 36), .move (.const (.int .i64 0)), none, [], []⟩])
        (.block 0
          (.loop
            (.seq (.region false [⟨(some 37), .bin .lss (.flat .int) (.tmp 36) (.tmp 35), none, [], []⟩])
            (.seq (.cond (.tmp 37)
                (.skip)
                (.exit 0))
            (.seq (.block 1
                (.seq (.region false [⟨(some 38), .indexAddr none 7 (.tmp 34) (.tmp 36), none, [], []⟩,
                    ⟨(some 39), .load true 7 (.tmp 38), none, [], []⟩,
                    ⟨(some 9), .box 68 (.const (.agg [(.str []), (.bool false), (.int .i64 0), (.str []), (.int .i64 0), .nilslice, (.int .i64 0)])), none, [], []⟩,
                    ⟨none, .store 7 (.tmp 9) (.tmp 39), none, [], []⟩])
                (.region true [⟨(some 40), .load true 3 (.tmp 7), none, [], [7]⟩,
                  ⟨(some 41), .move (.tmp 0), none, [], [0]⟩,
                  ⟨(some 42), .fieldAddr 2 (.tmp 9), none, [], [9]⟩,
                  ⟨(some 43), .load true 4 (.tmp 42), none, [], [42]⟩,
                  ⟨(some 44), .callF 35 [(.tmp 41), (.tmp 43)], none, [0], [41, 43]⟩,
                  ⟨(some 45), .callF 40 [(.tmp 40), (.tmp 44)], none, [], [40, 44]⟩,
                  ⟨none, .store 3 (.tmp 7) (.tmp 45), none, [], [7, 45]⟩])))
            (.region false [⟨(some 46), .bin .add (.flat .int) (.tmp 36) (.const (.int .i64 1)), none, [], []⟩,
              ⟨(some 36), .move (.tmp 46), none, [], []⟩])))))))
      (.seq (.region false [⟨(some 47), .load true 3 (.tmp 7), none, [], []⟩,
          ⟨none, .store 3 (.tmp 4) (.tmp 47), none, [], []⟩])
      (.ret)))
      (.skip)))
  (.seq (.region false [⟨(some 10), .assign (.const (.int .i64 0)), none, [], []⟩])
  (.seq (.seq (.region false [⟨(some 48), .fieldAddr 4 (.tmp 5), none, [], []⟩,
        ⟨(some 49), .load false 1 (.tmp 48), none, [], []⟩,
        ⟨(some 50), .len .slice (.tmp 49), none, [], []⟩,
        ⟨(some 51), .move (.const (.int .i64 0)), none, [], []⟩])
    (.block 2
      (.loop
        (.seq (.region false [⟨(some 52), .bin .lss (.flat .int) (.tmp 51) (.tmp 50), none, [], []⟩])
        (.seq (.cond (.tmp 52)
            (.skip)
            (.exit 2))
        (.seq (.block 3
            (.seq (.region false [⟨(some 53), .indexAddr none 3 (.tmp 49) (.tmp 51), none, [], []⟩,
                ⟨(some 54), .load true 3 (.tmp 53), none, [], []⟩,
                ⟨(some 12), .box 29 (.const (.agg [(.str []), .nilslice, (.int .i64 0)])), none, [], []⟩,
                ⟨none, .store 3 (.tmp 12) (.tmp 54), none, [], []⟩])
            (.seq (.region false [⟨(some 55), .move (.tmp 0), none, [], []⟩,
                ⟨(some 56), .fieldAddr 1 (.tmp 12), none, [], []⟩,
                ⟨(some 57), .load false 1 (.tmp 56), none, [], []⟩,
                ⟨(some 58), .callF 41 [(.tmp 55), (.tmp 57)], none, [], []⟩,
                ⟨(some 13), .box 53 (.const (.agg [(.int .i64 0), (.int .i64 0), (.bool false)])), none, [], []⟩,
                ⟨none, .store 3 (.tmp 13) (.tmp 58), none, [], []⟩])
            (.seq (.region false [⟨(some 59), .move (.tmp 10), none, [], []⟩,
                ⟨(some 60), .fieldAddr 1 (.tmp 13), none, [], []⟩,
                ⟨(some 61), .load false 1 (.tmp 60), none, [], []⟩,
                ⟨(some 62), .minmax true [(.tmp 59), (.tmp 61)], none, [], []⟩,
                ⟨(some 10), .assign (.tmp 62), none, [], []⟩])
            (.region false [⟨(some 63), .load true 3 (.tmp 7), none, [], []⟩,
              ⟨(some 64), .load true 3 (.tmp 13), none, [], []⟩,
              ⟨(some 65), .callF 40 [(.tmp 63), (.tmp 64)], none, [], []⟩,
              ⟨none, .store 3 (.tmp 7) (.tmp 65), none, [], []⟩])))))
        (.region false [⟨(some 66), .bin .add (.flat .int) (.tmp 51) (.const (.int .i64 1)), none, [], []⟩,
          ⟨(some 51), .move (.tmp 66), none, [], []⟩])))))))
  (.seq (.region false [⟨(some 67), .move (.tmp 10), none, [], []⟩,
      ⟨(some 68), .bin .add (.flat .int) (.tmp 67) (.const (.int .i64 1)), none, [], []⟩,
      ⟨(some 69), .fieldAddr 1 (.tmp 7), none, [], []⟩,
      ⟨none, .store 1 (.tmp 69) (.tmp 68), none, [], []⟩])
  (.seq (.region false [⟨(some 70), .load true 3 (.tmp 7), none, [], []⟩,
      ⟨none, .store 3 (.tmp 4) (.tmp 70), none, [], []⟩])
  (.ret)))))))))
def vf38 : VFunc := ⟨71, [.cell 4 true 3], code38⟩
theorem vf38_ok : funcV Try.prog 38 = some vf38 := by kernel_rfl
/- ferrule/types.item -/
def code21 : VCode :=
  .seq (.region false [⟨(some 3), .box 26 (.tmp 1), none, [], []⟩,
      ⟨(some 4), .box 35 (.const (.agg [(.int .i64 0), (.str []), (.int .i64 0), .nilslice, .nilslice, (.int .i64 0), (.str []), (.int .i64 0), .nilslice, (.int .i64 0), (.int .i64 0), (.int .i64 0), (.int .i64 0), (.str []), .nilslice, .nilslice, (.int .i64 0), (.str []), (.int .i64 0), .nilslice])), none, [], []⟩,
      ⟨(some 5), .assign (.const (.bool false)), none, [], []⟩])
  (.seq (.region false [⟨(some 7), .move (.tmp 0), none, [], []⟩,
      ⟨(some 8), .mkFunc 36 [] [(.tmp 3)], none, [], []⟩,
      ⟨(some 9), .callF 32 [(.tmp 7), (.tmp 8)], none, [], []⟩,
      ⟨(some 6), .assign (.tmp 9), none, [], []⟩])
  (.seq (.seq (.region false [⟨(some 10), .fieldAddr 0 (.tmp 3), none, [], []⟩,
        ⟨(some 11), .load false 1 (.tmp 10), none, [], []⟩,
        ⟨(some 12), .bin .neq (.flat .int) (.tmp 11) (.const (.int .i64 9)), none, [], []⟩,
        ⟨(some 13), .move (.tmp 12), none, [], []⟩,
        ⟨(some 14), .move (.tmp 6), some (13, false), [], []⟩,
        ⟨(some 15), .bin .lss (.flat .int) (.tmp 14) (.const (.int .i64 0)), some (13, false), [], []⟩,
        ⟨(some 16), .pick (.tmp 13) (.const (.bool true)) (.tmp 15), none, [], []⟩])
    (.cond (.tmp 16)
      (.seq (.region false [⟨(some 17), .build [(.int .i64 0), (.str []), (.int .i64 0), .nilslice, .nilslice, (.int .i64 0), (.str []), (.int .i64 0), .nilslice, (.int .i64 0), (.int .i64 0), (.int .i64 0), (.int .i64 0), (.str []), .nilslice, .nilslice, (.int .i64 0), (.str []), (.int .i64 0), .nilslice] [], none, [], []⟩,
          ⟨none, .store 20 (.tmp 4) (.tmp 17), none, [], []⟩,
          ⟨(some 5), .assign (.const (.bool false)), none, [], []⟩])
      (.ret))
      (.skip)))
  (.seq (.region false [⟨(some 18), .move (.tmp 0), none, [], []⟩,
      ⟨(some 19), .move (.tmp 6), none, [], []⟩,
      ⟨(some 20), .indexAddr none 20 (.tmp 18) (.tmp 19), none, [], []⟩,
      ⟨(some 21), .load true 20 (.tmp 20), none, [], []⟩,
      ⟨none, .store 20 (.tmp 4) (.tmp 21), none, [], []⟩,
      ⟨(some 5), .assign (.const (.bool true)), none, [], []⟩])
  (.ret))))
def vf21 : VFunc := ⟨22, [.cell 4 true 20, .tmp 5], code21⟩
theorem vf21_ok : funcV Try.prog 21 = some vf21 := by kernel_rfl
/- ferrule/types.item$1 -/
def code36 : VCode :=
  .seq (.region false [⟨(some 2), .box 35 (.tmp 0), none, [], []⟩,
      ⟨(some 3), .assign (.const (.bool false)), none, [], []⟩])
  (.seq (.region false [⟨(some 4), .fieldAddr 0 (.tmp 2), none, [], []⟩,
      ⟨(some 5), .load false 1 (.tmp 4), none, [], []⟩,
      ⟨(some 6), .bin .eql (.flat .int) (.tmp 5) (.const (.int .i64 2)), none, [], []⟩,
      ⟨(some 7), .move (.tmp 6), none, [], []⟩,
      ⟨(some 8), .fieldAddr 0 (.tmp 2), some (7, false), [], []⟩,
      ⟨(some 9), .load false 1 (.tmp 8), some (7, false), [], []⟩,
      ⟨(some 10), .bin .eql (.flat .int) (.tmp 9) (.const (.int .i64 3)), some (7, false), [], []⟩,
      ⟨(some 11), .pick (.tmp 7) (.const (.bool true)) (.tmp 10), none, [], []⟩,
      ⟨(some 12), .move (.tmp 11), none, [], []⟩,
      ⟨(some 13), .fieldAddr 1 (.tmp 2), some (12, true), [], []⟩,
      ⟨(some 14), .load false 1 (.tmp 13), some (12, true), [], []⟩,
      ⟨(some 15), .fieldAddr 1 (.tmp 1), some (12, true), [], []⟩,
      ⟨(some 16), .load false 1 (.tmp 15), some (12, true), [], []⟩,
      ⟨(some 17), .bin .eql (.flat .str) (.tmp 14) (.tmp 16), some (12, true), [], []⟩,
      ⟨(some 18), .pick (.tmp 12) (.tmp 17) (.const (.bool false)), none, [], []⟩,
      ⟨(some 3), .assign (.tmp 18), none, [], []⟩])
  (.ret))
def vf36 : VFunc := ⟨19, [.tmp 3], code36⟩
theorem vf36_ok : funcV Try.prog 36 = some vf36 := by kernel_rfl
/- (ferrule/types.amount).with -/
def code40 : VCode :=
  .seq (.region false [⟨(some 2), .box 53 (.tmp 0), none, [], []⟩,
      ⟨(some 3), .box 53 (.tmp 1), none, [], []⟩,
      ⟨(some 4), .box 53 (.const (.agg [(.int .i64 0), (.int .i64 0), (.bool false)])), none, [], []⟩])
  (.seq (.region false [⟨(some 5), .fieldAddr 0 (.tmp 2), none, [], []⟩,
      ⟨(some 6), .load false 1 (.tmp 5), none, [], []⟩,
      ⟨(some 7), .fieldAddr 0 (.tmp 3), none, [], []⟩,
      ⟨(some 8), .load false 1 (.tmp 7), none, [], []⟩,
      ⟨(some 9), .bin .add (.flat .int) (.tmp 6) (.tmp 8), none, [], []⟩,
      ⟨(some 10), .fieldAddr 1 (.tmp 2), none, [], []⟩,
      ⟨(some 11), .load false 1 (.tmp 10), none, [], []⟩,
      ⟨(some 12), .fieldAddr 1 (.tmp 3), none, [], []⟩,
      ⟨(some 13), .load false 1 (.tmp 12), none, [], []⟩,
      ⟨(some 14), .bin .add (.flat .int) (.tmp 11) (.tmp 13), none, [], []⟩,
      ⟨(some 15), .fieldAddr 2 (.tmp 2), none, [], []⟩,
      ⟨(some 16), .load false 1 (.tmp 15), none, [], []⟩,
      ⟨(some 17), .move (.tmp 16), none, [], []⟩,
      ⟨(some 18), .fieldAddr 2 (.tmp 3), some (17, false), [], []⟩,
      ⟨(some 19), .load false 1 (.tmp 18), some (17, false), [], []⟩,
      ⟨(some 20), .pick (.tmp 17) (.const (.bool true)) (.tmp 19), none, [], []⟩,
      ⟨(some 21), .build [(.int .i64 0), (.int .i64 0), (.bool false)] [(0, 1, (.tmp 9)), (1, 1, (.tmp 14)), (2, 1, (.tmp 20))], none, [], []⟩,
      ⟨none, .store 3 (.tmp 4) (.tmp 21), none, [], []⟩])
  (.ret))
def vf40 : VFunc := ⟨22, [.cell 4 true 3], code40⟩
theorem vf40_ok : funcV Try.prog 40 = some vf40 := by kernel_rfl
/- (*ferrule/types.counter).all -/
def code41 : VCode :=
  .seq (.region false [⟨(some 4), .box 53 (.const (.agg [(.int .i64 0), (.int .i64 0), (.bool false)])), none, [], []⟩])
  (.seq (.seq (.region false [⟨(some 7), .move (.tmp 1), none, [], []⟩,
        ⟨(some 8), .len .slice (.tmp 7), none, [], []⟩,
        ⟨(some 9), .move (.const (.int .i64 0)), none, [], []⟩])
    (.block 0
      (.loop
        (.seq (.region false [⟨(some 10), .bin .lss (.flat .int) (.tmp 9) (.tmp 8), none, [], []⟩])
        (.seq (.cond (.tmp 10)
            (.skip)
            (.exit 0))
        (.seq (.block 1
            (.seq (.region false [⟨(some 11), .indexAddr none 4 (.tmp 7) (.tmp 9), none, [], []⟩,
                ⟨(some 12), .load true 4 (.tmp 11), none, [], []⟩,
                ⟨(some 6), .box 26 (.const (.agg [(.int .i64 0), (.str []), (.int .i64 0), .nilslice])), none, [], []⟩,
                ⟨none, .store 4 (.tmp 6) (.tmp 12), none, [], []⟩])
            (.region true [⟨(some 13), .load true 3 (.tmp 4), none, [], [4]⟩,
              ⟨(some 14), .move (.tmp 0), none, [], [0]⟩,
              ⟨(some 15), .load true 4 (.tmp 6), none, [], [6]⟩,
              ⟨(some 16), .callF 35 [(.tmp 14), (.tmp 15)], none, [0], [14, 15]⟩,
              ⟨(some 17), .callF 40 [(.tmp 13), (.tmp 16)], none, [], [13, 16]⟩,
              ⟨none, .store 3 (.tmp 4) (.tmp 17), none, [], [4, 17]⟩])))
        (.region false [⟨(some 18), .bin .add (.flat .int) (.tmp 9) (.const (.int .i64 1)), none, [], []⟩,
          ⟨(some 9), .move (.tmp 18), none, [], []⟩])))))))
  (.seq (.region false [⟨(some 19), .load true 3 (.tmp 4), none, [], []⟩,
      ⟨none, .store 3 (.tmp 4) (.tmp 19), none, [], []⟩])
  (.ret)))
def vf41 : VFunc := ⟨20, [.cell 4 true 3], code41⟩
theorem vf41_ok : funcV Try.prog 41 = some vf41 := by kernel_rfl
/- (*ferrule/types.counter).array -/
def code39 : VCode :=
  .seq (.region false [⟨(some 3), .box 26 (.tmp 1), none, [], []⟩,
      ⟨(some 4), .box 53 (.const (.agg [(.int .i64 0), (.int .i64 0), (.bool false)])), none, [], []⟩])
  (.seq (.region false [⟨(some 7), .build [(.int .i64 0), (.int .i64 0), (.bool false)] [(0, 1, (.const (.int .i64 1)))], none, [], []⟩,
      ⟨(some 5), .box 53 (.const (.agg [(.int .i64 0), (.int .i64 0), (.bool false)])), none, [], []⟩,
      ⟨none, .store 3 (.tmp 5) (.tmp 7), none, [], []⟩])
  (.seq (.seq (.region false [⟨(some 6), .assign (.const (.int .i64 0)), none, [], []⟩])
    (.block 0
      (.loop
        (.seq (.seq (.region false [⟨(some 8), .move (.tmp 6), none, [], []⟩,
              ⟨(some 9), .fieldAddr 2 (.tmp 3), none, [], []⟩,
              ⟨(some 10), .load false 1 (.tmp 9), none, [], []⟩,
              ⟨(some 11), .bin .lss (.flat .int) (.tmp 8) (.tmp 10), none, [], []⟩,
              ⟨(some 12), .move (.tmp 11), none, [], []⟩,
              ⟨(some 13), .move (.tmp 0), some (12, true), [], []⟩,
              ⟨(some 14), .nilCheck (.tmp 13), some (12, true), [], []⟩,
              ⟨(some 15), .fieldAddr 2 (.tmp 14), some (12, true), [], []⟩,
              ⟨(some 16), .load false 1 (.tmp 15), some (12, true), [], []⟩,
              ⟨(some 17), .un .not (.tmp 16), some (12, true), [], []⟩,
              ⟨(some 18), .pick (.tmp 12) (.tmp 17) (.const (.bool false)), none, [], []⟩])
          (.cond (.tmp 18)
            (.skip)
            (.exit 0)))
        (.seq (.block 1
            (.region true [⟨(some 21), .load true 3 (.tmp 5), none, [], [5]⟩,
              ⟨(some 22), .move (.tmp 0), none, [], [0]⟩,
              ⟨(some 23), .fieldAddr 3 (.tmp 3), none, [], [3]⟩,
              ⟨(some 24), .load false 1 (.tmp 23), none, [], [23]⟩,
              ⟨(some 25), .indexAddr none 4 (.tmp 24) (.const (.int .i64 0)), none, [], [24]⟩,
              ⟨(some 26), .load true 4 (.tmp 25), none, [], [25]⟩,
              ⟨(some 27), .callF 35 [(.tmp 22), (.tmp 26)], none, [0], [22, 26]⟩,
              ⟨(some 28), .callF 40 [(.tmp 21), (.tmp 27)], none, [], [21, 27]⟩,
              ⟨none, .store 3 (.tmp 5) (.tmp 28), none, [], [5, 28]⟩]))
        (.region false [⟨(some 19), .move (.tmp 6), none, [], []⟩,
          ⟨(some 20), .bin .add (.flat .int) (.tmp 19) (.const (.int .i64 1)), none, [], []⟩,
          ⟨(some 6), .assign (.tmp 20), none, [], []⟩]))))))
  (.seq (.region false [⟨(some 29), .load true 3 (.tmp 5), none, [], []⟩,
      ⟨none, .store 3 (.tmp 4) (.tmp 29), none, [], []⟩])
  (.ret))))
def vf39 : VFunc := ⟨30, [.cell 4 true 3], code39⟩
theorem vf39_ok : funcV Try.prog 39 = some vf39 := by kernel_rfl
def vlist : List (Nat × VFunc) := [(4, vf4), (9, vf9), (25, vf25), (26, vf26), (17, vf17), (33, vf33), (32, vf32), (6, vf6), (20, vf20), (35, vf35), (38, vf38), (21, vf21), (36, vf36), (40, vf40), (41, vf41), (39, vf39)]
theorem vlist_ok : ProgOk Try.prog vlist := ⟨vf4_ok, vf9_ok, vf25_ok, vf26_ok, vf17_ok, vf33_ok, vf32_ok, vf6_ok, vf20_ok, vf35_ok, vf38_ok, vf21_ok, vf36_ok, vf40_ok, vf41_ok, vf39_ok, trivial⟩
end Go.Proofs.Ytchhnmoakcfcaaa.NI
