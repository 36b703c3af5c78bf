/-
  THE FUNCTIONS THAT THE STATEMENTS REACH, in the intermediate form; written by a program of this claim.
-/
import Derived.Test.YtljkmlplmonibaaChecked
import Derived.Test.YtljkmlplmonibaaFa
import Derived.KernelRfl
namespace Go.Proofs.Ytljkmlplmonibaa
open Go Go.Ideal
/-- wagonway/wagonwaylaw13.ShelfReads -/
def ir3 : IFunc :=
{ ntmps := 37, results := [.tmp 2], body :=
  (.seq (.region [
    ⟨(some 2), .move (.const (.bool false)), none, [], true⟩])
  (.seq (.seq (.region [
    ⟨(some 7), .move (.tmp 0), none, [], true⟩,
    ⟨(some 8), .lenSlice (.tmp 7), none, [], true⟩,
    ⟨(some 9), .bin .gtr (.tmp 8) (.const (.int .i64 4000)), none, [], true⟩])
  (.cond (.tmp 9)
   (.seq (.region [
     ⟨(some 2), .move (.const (.bool true)), none, [], true⟩])
   .ret)
   .skip))
  (.seq (.region [
    ⟨(some 11), .move (.tmp 0), none, [], true⟩,
    ⟨(some 12), .call (.const (.func (.func 9) #[] #[])) [(.tmp 11)], none, [], true⟩,
    ⟨(some 10), .move (.tmp 12), none, [], true⟩,
    ⟨(some 13), .extract (.tmp 10) 0, none, [], true⟩,
    ⟨(some 14), .extract (.tmp 10) 1, none, [], true⟩,
    ⟨(some 3), .move (.tmp 13), none, [], true⟩,
    ⟨(some 4), .move (.tmp 14), none, [], true⟩])
  (.seq (.region [
    ⟨(some 16), .move (.tmp 0), none, [], true⟩,
    ⟨(some 17), .call (.const (.func (.func 10) #[] #[])) [(.tmp 16)], none, [], true⟩,
    ⟨(some 15), .move (.tmp 17), none, [], true⟩,
    ⟨(some 18), .extract (.tmp 15) 0, none, [], true⟩,
    ⟨(some 19), .extract (.tmp 15) 1, none, [], true⟩,
    ⟨(some 5), .move (.tmp 18), none, [], true⟩,
    ⟨(some 6), .move (.tmp 19), none, [], true⟩])
  (.seq (.seq (.region [
    ⟨(some 20), .move (.tmp 4), none, [], true⟩,
    ⟨(some 21), .bin .neq (.tmp 20) (.const (.int .i64 0)), none, [], true⟩,
    ⟨(some 22), .move (.tmp 21), none, [], true⟩,
    ⟨(some 23), .move (.tmp 6), (some (22, false)), [], true⟩,
    ⟨(some 24), .bin .neq (.tmp 23) (.const (.int .i64 0)), (some (22, false)), [], true⟩,
    ⟨(some 25), .pick (.tmp 22) (.const (.bool true)) (.tmp 24), none, [], true⟩])
  (.cond (.tmp 25)
   (.seq (.region [
     ⟨(some 26), .move (.tmp 4), none, [], true⟩,
     ⟨(some 27), .move (.tmp 6), none, [], true⟩,
     ⟨(some 28), .bin .eql (.tmp 26) (.tmp 27), none, [], true⟩,
     ⟨(some 29), .move (.tmp 28), none, [], true⟩,
     ⟨(some 30), .move (.tmp 3), (some (29, true)), [], true⟩,
     ⟨(some 31), .eqPtr false (.tmp 30) (.const (.pointer none)), (some (29, true)), [], true⟩,
     ⟨(some 32), .pick (.tmp 29) (.tmp 31) (.const (.bool false)), none, [], true⟩,
     ⟨(some 2), .move (.tmp 32), none, [], true⟩])
   .ret)
   .skip))
  (.seq (.region [
    ⟨(some 33), .move (.tmp 3), none, [], true⟩,
    ⟨(some 34), .call (.const (.func (.func 12) #[] #[])) [(.tmp 33)], none, [], true⟩,
    ⟨(some 35), .move (.tmp 5), none, [], true⟩,
    ⟨(some 36), .call (.const (.func (.func 11) #[] #[])) [(.tmp 34), (.tmp 35)], none, [], true⟩,
    ⟨(some 2), .move (.tmp 36), none, [], true⟩])
  .ret)))))) }
theorem ir3_eq : funcC Try.prog 3 = some ir3 := by kernel_rfl
/-- wagonway/wagonwaylaw13.ShelfCrash -/
def ir4 : IFunc :=
{ ntmps := 160, results := [.tmp 4], body :=
  (.seq (.region [
    ⟨(some 4), .move (.const (.bool false)), none, [], true⟩])
  (.seq (.region [
    ⟨(some 18), .call (.const (.func (.func 13) #[] #[])) [], none, [], true⟩,
    ⟨(some 5), .move (.tmp 18), none, [], true⟩])
  (.seq (.seq (.region [
    ⟨(some 19), .move (.tmp 0), none, [], true⟩,
    ⟨(some 20), .call (.const (.func (.func 14) #[] #[])) [(.tmp 19)], none, [], true⟩,
    ⟨(some 21), .bin .gtr (.tmp 20) (.const (.int .i64 0)), none, [], true⟩,
    ⟨(some 22), .move (.tmp 21), none, [], true⟩,
    ⟨(some 23), .move (.tmp 5), (some (22, false)), [], true⟩,
    ⟨(some 24), .un .not (.tmp 23), (some (22, false)), [], true⟩,
    ⟨(some 25), .pick (.tmp 22) (.const (.bool true)) (.tmp 24), none, [], true⟩])
  (.cond (.tmp 25)
   (.seq (.region [
     ⟨(some 26), .move (.tmp 5), none, [], true⟩,
     ⟨(some 4), .move (.tmp 26), none, [], true⟩])
   .ret)
   .skip))
  (.seq (.region [
    ⟨(some 27), .move (.tmp 1), none, [], true⟩,
    ⟨(some 28), .move (.tmp 0), none, [], true⟩,
    ⟨(some 29), .lenSlice (.tmp 28), none, [], true⟩,
    ⟨(some 30), .bin .add (.tmp 29) (.const (.int .i64 1)), none, [], true⟩,
    ⟨(some 31), .bin .rem (.tmp 27) (.tmp 30), none, [], true⟩,
    ⟨(some 32), .move (.tmp 0), none, [], true⟩,
    ⟨(some 33), .lenSlice (.tmp 32), none, [], true⟩,
    ⟨(some 34), .bin .add (.tmp 31) (.tmp 33), none, [], true⟩,
    ⟨(some 35), .bin .add (.tmp 34) (.const (.int .i64 1)), none, [], true⟩,
    ⟨(some 36), .move (.tmp 0), none, [], true⟩,
    ⟨(some 37), .lenSlice (.tmp 36), none, [], true⟩,
    ⟨(some 38), .bin .add (.tmp 37) (.const (.int .i64 1)), none, [], true⟩,
    ⟨(some 39), .bin .rem (.tmp 35) (.tmp 38), none, [], true⟩,
    ⟨(some 6), .move (.tmp 39), none, [], true⟩])
  (.seq (.region [
    ⟨(some 41), .build [(.map none)] [], none, [], true⟩,
    ⟨(some 42), .box (.tmp 41), none, [], true⟩,
    ⟨(some 43), .move (.tmp 0), none, [], true⟩,
    ⟨(some 44), .move (.tmp 0), none, [], true⟩,
    ⟨(some 45), .lenSlice (.tmp 44), none, [], true⟩,
    ⟨(some 46), .call (.const (.func (.func 15) #[] #[])) [(.tmp 42), (.tmp 43), (.tmp 45)], none, [], true⟩,
    ⟨(some 40), .move (.tmp 46), none, [], true⟩,
    ⟨(some 47), .extract (.tmp 40) 0, none, [], true⟩,
    ⟨(some 48), .extract (.tmp 40) 1, none, [], true⟩,
    ⟨(some 7), .move (.tmp 47), none, [], true⟩,
    ⟨(some 8), .move (.tmp 48), none, [], true⟩])
  (.seq (.region [
    ⟨(some 50), .build [(.map none)] [], none, [], true⟩,
    ⟨(some 51), .box (.tmp 50), none, [], true⟩,
    ⟨(some 52), .move (.tmp 0), none, [], true⟩,
    ⟨(some 53), .move (.tmp 6), none, [], true⟩,
    ⟨(some 54), .call (.const (.func (.func 15) #[] #[])) [(.tmp 51), (.tmp 52), (.tmp 53)], none, [], true⟩,
    ⟨(some 49), .move (.tmp 54), none, [], true⟩,
    ⟨(some 55), .extract (.tmp 49) 0, none, [], true⟩,
    ⟨(some 56), .extract (.tmp 49) 1, none, [], true⟩,
    ⟨(some 9), .move (.tmp 55), none, [], true⟩,
    ⟨(some 10), .move (.tmp 56), none, [], true⟩])
  (.seq (.seq (.region [
    ⟨(some 57), .move (.tmp 8), none, [], true⟩,
    ⟨(some 58), .bin .neq (.tmp 57) (.const (.int .i64 0)), none, [], true⟩])
  (.cond (.tmp 58)
   (.seq (.region [
     ⟨(some 59), .move (.tmp 5), none, [], true⟩,
     ⟨(some 60), .move (.tmp 59), none, [], true⟩,
     ⟨(some 61), .move (.tmp 7), (some (60, true)), [], true⟩,
     ⟨(some 62), .eqPtr false (.tmp 61) (.const (.pointer none)), (some (60, true)), [], true⟩,
     ⟨(some 63), .pick (.tmp 60) (.tmp 62) (.const (.bool false)), none, [], true⟩,
     ⟨(some 4), .move (.tmp 63), none, [], true⟩])
   .ret)
   .skip))
  (.seq (.region [
    ⟨(some 65), .move (.tmp 9), none, [], true⟩,
    ⟨(some 66), .move (.tmp 0), none, [], true⟩,
    ⟨(some 67), .move (.tmp 6), none, [], true⟩,
    ⟨(some 68), .slice 3 (.tmp 66) (some (.tmp 67)) none none, none, [], true⟩,
    ⟨(some 69), .move (.tmp 0), none, [], true⟩,
    ⟨(some 70), .lenSlice (.tmp 69), none, [], true⟩,
    ⟨(some 71), .call (.const (.func (.func 15) #[] #[])) [(.tmp 65), (.tmp 68), (.tmp 70)], none, [], true⟩,
    ⟨(some 64), .move (.tmp 71), none, [], true⟩,
    ⟨(some 72), .extract (.tmp 64) 0, none, [], true⟩,
    ⟨(some 73), .extract (.tmp 64) 1, none, [], true⟩,
    ⟨(some 11), .move (.tmp 72), none, [], true⟩,
    ⟨(some 12), .move (.tmp 73), none, [], true⟩])
  (.seq (.seq (.region [
    ⟨(some 74), .move (.tmp 10), none, [], true⟩,
    ⟨(some 75), .bin .neq (.tmp 74) (.const (.int .i64 0)), none, [], true⟩,
    ⟨(some 76), .move (.tmp 75), none, [], true⟩,
    ⟨(some 77), .move (.tmp 12), (some (76, false)), [], true⟩,
    ⟨(some 78), .bin .neq (.tmp 77) (.const (.int .i64 0)), (some (76, false)), [], true⟩,
    ⟨(some 79), .pick (.tmp 76) (.const (.bool true)) (.tmp 78), none, [], true⟩,
    ⟨(some 80), .move (.tmp 79), none, [], true⟩,
    ⟨(some 81), .move (.tmp 11), (some (80, false)), [], true⟩,
    ⟨(some 82), .move (.tmp 7), (some (80, false)), [], true⟩,
    ⟨(some 83), .call (.const (.func (.func 16) #[] #[])) [(.tmp 81), (.tmp 82)], (some (80, false)), [], true⟩,
    ⟨(some 84), .un .not (.tmp 83), (some (80, false)), [], true⟩,
    ⟨(some 85), .pick (.tmp 80) (.const (.bool true)) (.tmp 84), none, [], true⟩])
  (.cond (.tmp 85)
   (.seq (.region [
     ⟨(some 4), .move (.const (.bool false)), none, [], true⟩])
   .ret)
   .skip))
  (.seq (.seq (.region [
    ⟨(some 13), .move (.const (.int .i64 0)), none, [], true⟩])
  (.block 0 (.loop (.seq (.seq (.region [
    ⟨(some 86), .move (.tmp 13), none, [], true⟩,
    ⟨(some 87), .move (.tmp 6), none, [], true⟩,
    ⟨(some 88), .bin .lss (.tmp 86) (.tmp 87), none, [], true⟩])
  (.cond (.tmp 88)
   .skip
   (.exit 0)))
  (.seq (.block 1 (.seq (.region [
    ⟨(some 91), .move (.tmp 13), none, [], true⟩,
    ⟨(some 14), .move (.tmp 91), none, [], true⟩])
  (.seq (.seq (.region [
    ⟨(some 92), .move (.tmp 13), none, [], true⟩,
    ⟨(some 93), .bin .add (.tmp 92) (.const (.int .i64 1)), none, [], true⟩,
    ⟨(some 15), .move (.tmp 93), none, [], true⟩])
  (.block 2 (.loop (.seq (.seq (.region [
    ⟨(some 94), .move (.tmp 15), none, [], true⟩,
    ⟨(some 95), .move (.tmp 6), none, [], true⟩,
    ⟨(some 96), .bin .lss (.tmp 94) (.tmp 95), none, [], true⟩])
  (.cond (.tmp 96)
   .skip
   (.exit 2)))
  (.seq (.block 3 (.seq (.drawn [
    ⟨(some 99), .move (.tmp 0), none, [], false⟩,
    ⟨(some 100), .move (.tmp 15), none, [], false⟩,
    ⟨(some 101), .indexAddr 3 (.tmp 99) (.tmp 100), none, [0, 1], false⟩,
    ⟨(some 102), .fieldAddr 0 (.tmp 101), none, [2, 0, 1], false⟩,
    ⟨(some 103), .load none (.tmp 102), none, [3, 2, 0, 1], false⟩,
    ⟨(some 104), .move (.tmp 0), none, [], false⟩,
    ⟨(some 105), .move (.tmp 13), none, [], false⟩,
    ⟨(some 106), .indexAddr 3 (.tmp 104) (.tmp 105), none, [5, 6], false⟩,
    ⟨(some 107), .fieldAddr 0 (.tmp 106), none, [7, 5, 6], false⟩,
    ⟨(some 108), .load none (.tmp 107), none, [8, 7, 5, 6], false⟩,
    ⟨(some 109), .bin .eql (.tmp 103) (.tmp 108), none, [4, 9, 3, 2, 0, 1, 8, 7, 5, 6], true⟩,
    ⟨(some 110), .move (.tmp 109), none, [10, 4, 9, 3, 2, 0, 1, 8, 7, 5, 6], true⟩,
    ⟨(some 111), .move (.tmp 0), (some (110, true)), [11, 10, 4, 9, 3, 2, 0, 1, 8, 7, 5, 6], false⟩,
    ⟨(some 112), .move (.tmp 15), (some (110, true)), [11, 10, 4, 9, 3, 2, 0, 1, 8, 7, 5, 6], false⟩,
    ⟨(some 113), .indexAddr 3 (.tmp 111) (.tmp 112), (some (110, true)), [12, 13, 11, 10, 4, 9, 3, 2, 0, 1, 8, 7, 5, 6], false⟩,
    ⟨(some 114), .fieldAddr 1 (.tmp 113), (some (110, true)), [14, 11, 12, 13, 10, 4, 9, 3, 2, 0, 1, 8, 7, 5, 6], false⟩,
    ⟨(some 115), .load none (.tmp 114), (some (110, true)), [15, 11, 14, 12, 13, 10, 4, 9, 3, 2, 0, 1, 8, 7, 5, 6], false⟩,
    ⟨(some 116), .move (.tmp 0), (some (110, true)), [11, 10, 4, 9, 3, 2, 0, 1, 8, 7, 5, 6], false⟩,
    ⟨(some 117), .move (.tmp 13), (some (110, true)), [11, 10, 4, 9, 3, 2, 0, 1, 8, 7, 5, 6], false⟩,
    ⟨(some 118), .indexAddr 3 (.tmp 116) (.tmp 117), (some (110, true)), [17, 18, 11, 10, 4, 9, 3, 2, 0, 1, 8, 7, 5, 6], false⟩,
    ⟨(some 119), .fieldAddr 1 (.tmp 118), (some (110, true)), [19, 11, 17, 18, 10, 4, 9, 3, 2, 0, 1, 8, 7, 5, 6], false⟩,
    ⟨(some 120), .load none (.tmp 119), (some (110, true)), [20, 11, 19, 17, 18, 10, 4, 9, 3, 2, 0, 1, 8, 7, 5, 6], false⟩,
    ⟨(some 121), .bin .eql (.tmp 115) (.tmp 120), (some (110, true)), [16, 21, 11, 15, 14, 12, 13, 10, 4, 9, 3, 2, 0, 1, 8, 7, 5, 6, 20, 19, 17, 18], true⟩,
    ⟨(some 122), .pick (.tmp 110) (.tmp 121) (.const (.bool false)), none, [11, 22, 10, 4, 9, 3, 2, 0, 1, 8, 7, 5, 6, 16, 21, 15, 14, 12, 13, 20, 19, 17, 18], true⟩])
  (.cond (.tmp 122)
   (.region [
     ⟨(some 123), .move (.tmp 15), none, [], true⟩,
     ⟨(some 14), .move (.tmp 123), none, [], true⟩])
   .skip)))
  (.region [
    ⟨(some 97), .move (.tmp 15), none, [], true⟩,
    ⟨(some 98), .bin .add (.tmp 97) (.const (.int .i64 1)), none, [], true⟩,
    ⟨(some 15), .move (.tmp 98), none, [], true⟩]))))))
  (.seq (.drawn [
    ⟨(some 125), .move (.tmp 9), none, [], false⟩,
    ⟨(some 126), .move (.tmp 0), none, [], false⟩,
    ⟨(some 127), .move (.tmp 13), none, [], false⟩,
    ⟨(some 128), .indexAddr 3 (.tmp 126) (.tmp 127), none, [1, 2], false⟩,
    ⟨(some 129), .fieldAddr 0 (.tmp 128), none, [3, 1, 2], false⟩,
    ⟨(some 130), .load none (.tmp 129), none, [4, 3, 1, 2], false⟩,
    ⟨(some 131), .move (.tmp 0), none, [], false⟩,
    ⟨(some 132), .move (.tmp 13), none, [], false⟩,
    ⟨(some 133), .indexAddr 3 (.tmp 131) (.tmp 132), none, [6, 7], false⟩,
    ⟨(some 134), .fieldAddr 1 (.tmp 133), none, [8, 6, 7], false⟩,
    ⟨(some 135), .load none (.tmp 134), none, [9, 8, 6, 7], false⟩,
    ⟨(some 136), .call (.const (.func (.func 17) #[] #[])) [(.tmp 125), (.tmp 130), (.tmp 135)], none, [0, 5, 10, 4, 3, 1, 2, 9, 8, 6, 7], true⟩,
    ⟨(some 124), .move (.tmp 136), none, [11, 0, 5, 10, 4, 3, 1, 2, 9, 8, 6, 7], true⟩,
    ⟨(some 137), .extract (.tmp 124) 0, none, [12, 11, 0, 5, 10, 4, 3, 1, 2, 9, 8, 6, 7], true⟩,
    ⟨(some 138), .extract (.tmp 124) 1, none, [12, 11, 0, 5, 10, 4, 3, 1, 2, 9, 8, 6, 7], true⟩,
    ⟨(some 16), .move (.tmp 137), none, [13, 11, 0, 1, 2, 3, 4, 5, 6, 7, 8, 9, 10, 12], true⟩,
    ⟨(some 17), .move (.tmp 138), none, [14, 15, 0, 1, 2, 3, 4, 5, 6, 7, 8, 9, 10, 11, 12, 13], true⟩])
  (.seq (.drawn [
    ⟨(some 139), .move (.tmp 17), none, [], false⟩,
    ⟨(some 140), .move (.tmp 0), none, [], true⟩,
    ⟨(some 141), .move (.tmp 14), none, [], true⟩,
    ⟨(some 142), .indexAddr 3 (.tmp 140) (.tmp 141), none, [1, 2], true⟩,
    ⟨(some 143), .fieldAddr 2 (.tmp 142), none, [3, 1, 2], true⟩,
    ⟨(some 144), .load none (.tmp 143), none, [4, 3, 1, 2], true⟩,
    ⟨(some 145), .lenSlice (.tmp 144), none, [5, 4, 3, 1, 2], true⟩,
    ⟨(some 146), .bin .gtr (.tmp 145) (.const (.int .i64 0)), none, [6, 5, 4, 3, 1, 2], true⟩,
    ⟨(some 147), .eqBool true (.tmp 139) (.tmp 146), none, [0, 7, 6, 5, 4, 3, 1, 2], true⟩,
    ⟨(some 148), .move (.tmp 147), none, [8, 0, 7, 6, 5, 4, 3, 1, 2], true⟩,
    ⟨(some 149), .move (.tmp 16), (some (148, false)), [9, 8, 0, 7, 6, 5, 4, 3, 1, 2], false⟩,
    ⟨(some 150), .bytesStr (.tmp 149), (some (148, false)), [10, 9, 8, 0, 7, 6, 5, 4, 3, 1, 2], false⟩,
    ⟨(some 151), .move (.tmp 0), (some (148, false)), [9, 8, 0, 7, 6, 5, 4, 3, 1, 2], false⟩,
    ⟨(some 152), .move (.tmp 14), (some (148, false)), [9, 8, 0, 7, 6, 5, 4, 3, 1, 2], false⟩,
    ⟨(some 153), .indexAddr 3 (.tmp 151) (.tmp 152), (some (148, false)), [12, 13, 9, 8, 0, 7, 6, 5, 4, 3, 1, 2], false⟩,
    ⟨(some 154), .fieldAddr 2 (.tmp 153), (some (148, false)), [14, 9, 12, 13, 8, 0, 7, 6, 5, 4, 3, 1, 2], false⟩,
    ⟨(some 155), .load none (.tmp 154), (some (148, false)), [15, 9, 14, 12, 13, 8, 0, 7, 6, 5, 4, 3, 1, 2], false⟩,
    ⟨(some 156), .bytesStr (.tmp 155), (some (148, false)), [16, 9, 15, 14, 12, 13, 8, 0, 7, 6, 5, 4, 3, 1, 2], false⟩,
    ⟨(some 157), .bin .neq (.tmp 150) (.tmp 156), (some (148, false)), [11, 17, 9, 10, 8, 0, 7, 6, 5, 4, 3, 1, 2, 16, 15, 14, 12, 13], true⟩,
    ⟨(some 158), .pick (.tmp 148) (.const (.bool true)) (.tmp 157), none, [9, 18, 8, 0, 7, 6, 5, 4, 3, 1, 2, 11, 17, 10, 16, 15, 14, 12, 13], true⟩])
  (.cond (.tmp 158)
   (.seq (.region [
     ⟨(some 4), .move (.const (.bool false)), none, [], true⟩])
   .ret)
   .skip))))))
  (.region [
    ⟨(some 89), .move (.tmp 13), none, [], true⟩,
    ⟨(some 90), .bin .add (.tmp 89) (.const (.int .i64 1)), none, [], true⟩,
    ⟨(some 13), .move (.tmp 90), none, [], true⟩]))))))
  (.seq (.region [
    ⟨(some 159), .move (.tmp 5), none, [], true⟩,
    ⟨(some 4), .move (.tmp 159), none, [], true⟩])
  .ret))))))))))) }
theorem ir4_eq : funcC Try.prog 4 = some ir4 := by kernel_rfl
/-- wagonway/wagonwaylaw13.ShelfApart -/
def ir5 : IFunc :=
{ ntmps := 113, results := [.tmp 6], body :=
  (.seq (.region [
    ⟨(some 4), .box (.tmp 1), none, [], true⟩,
    ⟨(some 5), .box (.tmp 2), none, [], true⟩,
    ⟨(some 6), .move (.const (.bool false)), none, [], true⟩])
  (.seq (.region [
    ⟨(some 15), .call (.const (.func (.func 13) #[] #[])) [], none, [], true⟩,
    ⟨(some 7), .move (.tmp 15), none, [], true⟩])
  (.seq (.seq (.region [
    ⟨(some 16), .move (.tmp 0), none, [], true⟩,
    ⟨(some 17), .call (.const (.func (.func 14) #[] #[])) [(.tmp 16)], none, [], true⟩,
    ⟨(some 18), .bin .gtr (.tmp 17) (.const (.int .i64 0)), none, [], true⟩,
    ⟨(some 19), .move (.tmp 18), none, [], true⟩,
    ⟨(some 20), .fieldAddr 2 (.tmp 4), (some (19, false)), [], true⟩,
    ⟨(some 21), .load none (.tmp 20), (some (19, false)), [], true⟩,
    ⟨(some 22), .lenSlice (.tmp 21), (some (19, false)), [], true⟩,
    ⟨(some 23), .bin .gtr (.tmp 22) (.const (.int .i64 1100)), (some (19, false)), [], true⟩,
    ⟨(some 24), .pick (.tmp 19) (.const (.bool true)) (.tmp 23), none, [], true⟩,
    ⟨(some 25), .move (.tmp 24), none, [], true⟩,
    ⟨(some 26), .fieldAddr 2 (.tmp 5), (some (25, false)), [], true⟩,
    ⟨(some 27), .load none (.tmp 26), (some (25, false)), [], true⟩,
    ⟨(some 28), .lenSlice (.tmp 27), (some (25, false)), [], true⟩,
    ⟨(some 29), .bin .gtr (.tmp 28) (.const (.int .i64 1100)), (some (25, false)), [], true⟩,
    ⟨(some 30), .pick (.tmp 25) (.const (.bool true)) (.tmp 29), none, [], true⟩,
    ⟨(some 31), .move (.tmp 30), none, [], true⟩,
    ⟨(some 32), .move (.tmp 7), (some (31, false)), [], true⟩,
    ⟨(some 33), .un .not (.tmp 32), (some (31, false)), [], true⟩,
    ⟨(some 34), .pick (.tmp 31) (.const (.bool true)) (.tmp 33), none, [], true⟩])
  (.cond (.tmp 34)
   (.seq (.region [
     ⟨(some 35), .move (.tmp 7), none, [], true⟩,
     ⟨(some 6), .move (.tmp 35), none, [], true⟩])
   .ret)
   .skip))
  (.seq (.region [
    ⟨(some 36), .build [(.map none)] [], none, [], true⟩,
    ⟨(some 37), .box (.tmp 36), none, [], true⟩,
    ⟨(some 8), .move (.tmp 37), none, [], true⟩])
  (.seq (.seq (.region [
    ⟨(some 9), .move (.const (.int .i64 0)), none, [], true⟩])
  (.block 0 (.loop (.seq (.seq (.region [
    ⟨(some 38), .move (.tmp 9), none, [], true⟩,
    ⟨(some 39), .move (.tmp 0), none, [], true⟩,
    ⟨(some 40), .lenSlice (.tmp 39), none, [], true⟩,
    ⟨(some 41), .bin .lss (.tmp 38) (.tmp 40), none, [], true⟩])
  (.cond (.tmp 41)
   .skip
   (.exit 0)))
  (.seq (.block 1 (.region [
    ⟨(some 44), .move (.tmp 8), none, [], true⟩,
    ⟨(some 45), .move (.tmp 0), none, [], true⟩,
    ⟨(some 46), .move (.tmp 9), none, [], true⟩,
    ⟨(some 47), .indexAddr 3 (.tmp 45) (.tmp 46), none, [], true⟩,
    ⟨(some 48), .load (some 3) (.tmp 47), none, [], true⟩,
    ⟨(some 49), .call (.const (.func (.func 18) #[] #[])) [(.tmp 44), (.tmp 48)], none, [], true⟩]))
  (.region [
    ⟨(some 42), .move (.tmp 9), none, [], true⟩,
    ⟨(some 43), .bin .add (.tmp 42) (.const (.int .i64 1)), none, [], true⟩,
    ⟨(some 9), .move (.tmp 43), none, [], true⟩]))))))
  (.seq (.region [
    ⟨(some 50), .move (.tmp 8), none, [], true⟩,
    ⟨(some 51), .call (.const (.func (.func 19) #[] #[])) [(.tmp 50)], none, [], true⟩,
    ⟨(some 10), .move (.tmp 51), none, [], true⟩])
  (.seq (.region [
    ⟨(some 53), .move (.tmp 8), none, [], true⟩,
    ⟨(some 54), .fieldAddr 0 (.tmp 5), none, [], true⟩,
    ⟨(some 55), .load none (.tmp 54), none, [], true⟩,
    ⟨(some 56), .fieldAddr 1 (.tmp 5), none, [], true⟩,
    ⟨(some 57), .load none (.tmp 56), none, [], true⟩,
    ⟨(some 58), .call (.const (.func (.func 17) #[] #[])) [(.tmp 53), (.tmp 55), (.tmp 57)], none, [], true⟩,
    ⟨(some 52), .move (.tmp 58), none, [], true⟩,
    ⟨(some 59), .extract (.tmp 52) 0, none, [], true⟩,
    ⟨(some 60), .extract (.tmp 52) 1, none, [], true⟩,
    ⟨(some 11), .move (.tmp 59), none, [], true⟩,
    ⟨(some 12), .move (.tmp 60), none, [], true⟩])
  (.seq (.region [
    ⟨(some 61), .move (.tmp 8), none, [], true⟩,
    ⟨(some 62), .load (some 3) (.tmp 4), none, [], true⟩,
    ⟨(some 63), .call (.const (.func (.func 18) #[] #[])) [(.tmp 61), (.tmp 62)], none, [], true⟩])
  (.seq (.region [
    ⟨(some 65), .move (.tmp 8), none, [], true⟩,
    ⟨(some 66), .fieldAddr 0 (.tmp 5), none, [], true⟩,
    ⟨(some 67), .load none (.tmp 66), none, [], true⟩,
    ⟨(some 68), .fieldAddr 1 (.tmp 5), none, [], true⟩,
    ⟨(some 69), .load none (.tmp 68), none, [], true⟩,
    ⟨(some 70), .call (.const (.func (.func 17) #[] #[])) [(.tmp 65), (.tmp 67), (.tmp 69)], none, [], true⟩,
    ⟨(some 64), .move (.tmp 70), none, [], true⟩,
    ⟨(some 71), .extract (.tmp 64) 0, none, [], true⟩,
    ⟨(some 72), .extract (.tmp 64) 1, none, [], true⟩,
    ⟨(some 13), .move (.tmp 71), none, [], true⟩,
    ⟨(some 14), .move (.tmp 72), none, [], true⟩])
  (.seq (.region [
    ⟨(some 73), .move (.tmp 8), none, [], true⟩,
    ⟨(some 74), .load (some 3) (.tmp 5), none, [], true⟩,
    ⟨(some 75), .call (.const (.func (.func 18) #[] #[])) [(.tmp 73), (.tmp 74)], none, [], true⟩])
  (.seq (.region [
    ⟨(some 76), .move (.tmp 10), none, [], true⟩,
    ⟨(some 77), .load (some 3) (.tmp 5), none, [], true⟩,
    ⟨(some 78), .call (.const (.func (.func 18) #[] #[])) [(.tmp 76), (.tmp 77)], none, [], true⟩])
  (.seq (.region [
    ⟨(some 79), .move (.tmp 10), none, [], true⟩,
    ⟨(some 80), .load (some 3) (.tmp 4), none, [], true⟩,
    ⟨(some 81), .call (.const (.func (.func 18) #[] #[])) [(.tmp 79), (.tmp 80)], none, [], true⟩])
  (.seq (.seq (.region [
    ⟨(some 82), .fieldAddr 0 (.tmp 4), none, [], true⟩,
    ⟨(some 83), .load none (.tmp 82), none, [], true⟩,
    ⟨(some 84), .fieldAddr 0 (.tmp 5), none, [], true⟩,
    ⟨(some 85), .load none (.tmp 84), none, [], true⟩,
    ⟨(some 86), .bin .eql (.tmp 83) (.tmp 85), none, [], true⟩,
    ⟨(some 87), .move (.tmp 86), none, [], true⟩,
    ⟨(some 88), .fieldAddr 1 (.tmp 4), (some (87, true)), [], true⟩,
    ⟨(some 89), .load none (.tmp 88), (some (87, true)), [], true⟩,
    ⟨(some 90), .fieldAddr 1 (.tmp 5), (some (87, true)), [], true⟩,
    ⟨(some 91), .load none (.tmp 90), (some (87, true)), [], true⟩,
    ⟨(some 92), .bin .eql (.tmp 89) (.tmp 91), (some (87, true)), [], true⟩,
    ⟨(some 93), .pick (.tmp 87) (.tmp 92) (.const (.bool false)), none, [], true⟩])
  (.cond (.tmp 93)
   (.seq (.region [
     ⟨(some 94), .move (.tmp 7), none, [], true⟩,
     ⟨(some 6), .move (.tmp 94), none, [], true⟩])
   .ret)
   .skip))
  (.seq (.region [
    ⟨(some 95), .move (.tmp 7), none, [], true⟩,
    ⟨(some 96), .move (.tmp 95), none, [], true⟩,
    ⟨(some 97), .move (.tmp 8), (some (96, true)), [], true⟩,
    ⟨(some 98), .move (.tmp 10), (some (96, true)), [], true⟩,
    ⟨(some 99), .call (.const (.func (.func 16) #[] #[])) [(.tmp 97), (.tmp 98)], (some (96, true)), [], true⟩,
    ⟨(some 100), .pick (.tmp 96) (.tmp 99) (.const (.bool false)), none, [], true⟩,
    ⟨(some 101), .move (.tmp 100), none, [], true⟩,
    ⟨(some 102), .move (.tmp 12), (some (101, true)), [], true⟩,
    ⟨(some 103), .move (.tmp 14), (some (101, true)), [], true⟩,
    ⟨(some 104), .eqBool false (.tmp 102) (.tmp 103), (some (101, true)), [], true⟩,
    ⟨(some 105), .pick (.tmp 101) (.tmp 104) (.const (.bool false)), none, [], true⟩,
    ⟨(some 106), .move (.tmp 105), none, [], true⟩,
    ⟨(some 107), .move (.tmp 11), (some (106, true)), [], true⟩,
    ⟨(some 108), .bytesStr (.tmp 107), (some (106, true)), [], true⟩,
    ⟨(some 109), .move (.tmp 13), (some (106, true)), [], true⟩,
    ⟨(some 110), .bytesStr (.tmp 109), (some (106, true)), [], true⟩,
    ⟨(some 111), .bin .eql (.tmp 108) (.tmp 110), (some (106, true)), [], true⟩,
    ⟨(some 112), .pick (.tmp 106) (.tmp 111) (.const (.bool false)), none, [], true⟩,
    ⟨(some 6), .move (.tmp 112), none, [], true⟩])
  .ret)))))))))))))) }
theorem ir5_eq : funcC Try.prog 5 = some ir5 := by kernel_rfl
/-- wagonway/wagonwaylaw13.ShelfWrites -/
def ir6 : IFunc :=
{ ntmps := 233, results := [.tmp 8], body :=
  (.seq (.region [
    ⟨(some 8), .move (.const (.bool false)), none, [], true⟩])
  (.seq (.seq (.region [
    ⟨(some 26), .move (.tmp 0), none, [], true⟩,
    ⟨(some 27), .call (.const (.func (.func 14) #[] #[])) [(.tmp 26)], none, [], true⟩,
    ⟨(some 28), .bin .gtr (.tmp 27) (.const (.int .i64 0)), none, [], true⟩])
  (.cond (.tmp 28)
   (.seq (.region [
     ⟨(some 8), .move (.const (.bool true)), none, [], true⟩])
   .ret)
   .skip))
  (.seq (.region [
    ⟨(some 29), .build [(.map none)] [], none, [], true⟩,
    ⟨(some 30), .box (.tmp 29), none, [], true⟩,
    ⟨(some 9), .move (.tmp 30), none, [], true⟩])
  (.seq (.region [
    ⟨(some 10), .move (.const (.slice none 0 0)), none, [], true⟩])
  (.seq (.region [
    ⟨(some 11), .move (.const (.slice none 0 0)), none, [], true⟩])
  (.seq (.region [
    ⟨(some 12), .move (.const (.int .i64 0)), none, [], true⟩])
  (.seq (.seq (.region [
    ⟨(some 13), .move (.const (.int .i64 0)), none, [], true⟩])
  (.block 0 (.loop (.seq (.seq (.region [
    ⟨(some 31), .move (.tmp 13), none, [], true⟩,
    ⟨(some 32), .move (.tmp 0), none, [], true⟩,
    ⟨(some 33), .lenSlice (.tmp 32), none, [], true⟩,
    ⟨(some 34), .bin .lss (.tmp 31) (.tmp 33), none, [], true⟩])
  (.cond (.tmp 34)
   .skip
   (.exit 0)))
  (.seq (.block 1 (.seq (.region [
    ⟨(some 37), .move (.tmp 0), none, [], true⟩,
    ⟨(some 38), .move (.tmp 13), none, [], true⟩,
    ⟨(some 39), .indexAddr 3 (.tmp 37) (.tmp 38), none, [], true⟩,
    ⟨(some 40), .load (some 3) (.tmp 39), none, [], true⟩,
    ⟨(some 41), .call (.const (.func (.func 20) #[] #[])) [(.tmp 40)], none, [], true⟩,
    ⟨(some 14), .move (.tmp 41), none, [], true⟩])
  (.seq (.region [
    ⟨(some 42), .move (.tmp 9), none, [], true⟩,
    ⟨(some 43), .move (.tmp 0), none, [], true⟩,
    ⟨(some 44), .move (.tmp 13), none, [], true⟩,
    ⟨(some 45), .indexAddr 3 (.tmp 43) (.tmp 44), none, [], true⟩,
    ⟨(some 46), .load (some 3) (.tmp 45), none, [], true⟩,
    ⟨(some 47), .call (.const (.func (.func 18) #[] #[])) [(.tmp 42), (.tmp 46)], none, [], true⟩,
    ⟨(some 15), .move (.tmp 47), none, [], true⟩])
  (.seq (.region [
    ⟨(some 49), .move (.tmp 10), none, [], true⟩,
    ⟨(some 50), .move (.tmp 0), none, [], true⟩,
    ⟨(some 51), .move (.tmp 13), none, [], true⟩,
    ⟨(some 52), .indexAddr 3 (.tmp 50) (.tmp 51), none, [], true⟩,
    ⟨(some 53), .load (some 3) (.tmp 52), none, [], true⟩,
    ⟨(some 54), .call (.const (.func (.func 21) #[] #[])) [(.tmp 49), (.tmp 53)], none, [], true⟩,
    ⟨(some 48), .move (.tmp 54), none, [], true⟩,
    ⟨(some 55), .extract (.tmp 48) 0, none, [], true⟩,
    ⟨(some 56), .extract (.tmp 48) 1, none, [], true⟩,
    ⟨(some 16), .move (.tmp 55), none, [], true⟩,
    ⟨(some 17), .move (.tmp 56), none, [], true⟩])
  (.seq (.region [
    ⟨(some 57), .move (.tmp 16), none, [], true⟩,
    ⟨(some 10), .move (.tmp 57), none, [], true⟩])
  (.seq (.seq (.region [
    ⟨(some 58), .move (.tmp 15), none, [], true⟩,
    ⟨(some 59), .move (.tmp 17), none, [], true⟩,
    ⟨(some 60), .bin .neq (.tmp 58) (.tmp 59), none, [], true⟩,
    ⟨(some 61), .move (.tmp 60), none, [], true⟩,
    ⟨(some 62), .move (.tmp 14), (some (61, false)), [], true⟩,
    ⟨(some 63), .move (.tmp 0), (some (61, false)), [], true⟩,
    ⟨(some 64), .move (.tmp 13), (some (61, false)), [], true⟩,
    ⟨(some 65), .indexAddr 3 (.tmp 63) (.tmp 64), (some (61, false)), [], true⟩,
    ⟨(some 66), .load (some 3) (.tmp 65), (some (61, false)), [], true⟩,
    ⟨(some 67), .call (.const (.func (.func 22) #[] #[])) [(.tmp 66)], (some (61, false)), [], true⟩,
    ⟨(some 68), .bin .neq (.tmp 62) (.tmp 67), (some (61, false)), [], true⟩,
    ⟨(some 69), .pick (.tmp 61) (.const (.bool true)) (.tmp 68), none, [], true⟩,
    ⟨(some 70), .move (.tmp 69), none, [], true⟩,
    ⟨(some 71), .move (.tmp 9), (some (70, false)), [], true⟩,
    ⟨(some 72), .call (.const (.func (.func 23) #[] #[])) [(.tmp 71)], (some (70, false)), [], true⟩,
    ⟨(some 73), .move (.tmp 10), (some (70, false)), [], true⟩,
    ⟨(some 74), .lenSlice (.tmp 73), (some (70, false)), [], true⟩,
    ⟨(some 75), .bin .neq (.tmp 72) (.tmp 74), (some (70, false)), [], true⟩,
    ⟨(some 76), .pick (.tmp 70) (.const (.bool true)) (.tmp 75), none, [], true⟩,
    ⟨(some 77), .move (.tmp 76), none, [], true⟩,
    ⟨(some 78), .move (.tmp 9), (some (77, false)), [], true⟩,
    ⟨(some 79), .call (.const (.func (.func 12) #[] #[])) [(.tmp 78)], (some (77, false)), [], true⟩,
    ⟨(some 80), .move (.tmp 10), (some (77, false)), [], true⟩,
    ⟨(some 81), .call (.const (.func (.func 11) #[] #[])) [(.tmp 79), (.tmp 80)], (some (77, false)), [], true⟩,
    ⟨(some 82), .un .not (.tmp 81), (some (77, false)), [], true⟩,
    ⟨(some 83), .pick (.tmp 77) (.const (.bool true)) (.tmp 82), none, [], true⟩])
  (.cond (.tmp 83)
   (.seq (.region [
     ⟨(some 8), .move (.const (.bool false)), none, [], true⟩])
   .ret)
   .skip))
  (.seq (.region [
    ⟨(some 84), .move (.tmp 13), none, [], true⟩,
    ⟨(some 85), .move (.tmp 3), none, [], true⟩,
    ⟨(some 86), .bin .lss (.tmp 84) (.tmp 85), none, [], true⟩,
    ⟨(some 87), .move (.tmp 86), none, [], true⟩,
    ⟨(some 88), .move (.tmp 12), (some (87, true)), [], true⟩,
    ⟨(some 89), .bin .eql (.tmp 88) (.const (.int .i64 0)), (some (87, true)), [], true⟩,
    ⟨(some 90), .pick (.tmp 87) (.tmp 89) (.const (.bool false)), none, [], true⟩])
  (.cond (.tmp 90)
   (.seq (.region [
     ⟨(some 91), .move (.tmp 10), none, [], true⟩,
     ⟨(some 11), .move (.tmp 91), none, [], true⟩])
   (.region [
     ⟨(some 92), .move (.tmp 17), none, [], true⟩,
     ⟨(some 12), .move (.tmp 92), none, [], true⟩]))
   .skip))))))))
  (.region [
    ⟨(some 35), .move (.tmp 13), none, [], true⟩,
    ⟨(some 36), .bin .add (.tmp 35) (.const (.int .i64 1)), none, [], true⟩,
    ⟨(some 13), .move (.tmp 36), none, [], true⟩]))))))
  (.seq (.region [
    ⟨(some 94), .move (.tmp 9), none, [], true⟩,
    ⟨(some 95), .move (.tmp 1), none, [], true⟩,
    ⟨(some 96), .move (.tmp 2), none, [], true⟩,
    ⟨(some 97), .call (.const (.func (.func 17) #[] #[])) [(.tmp 94), (.tmp 95), (.tmp 96)], none, [], true⟩,
    ⟨(some 93), .move (.tmp 97), none, [], true⟩,
    ⟨(some 98), .extract (.tmp 93) 0, none, [], true⟩,
    ⟨(some 99), .extract (.tmp 93) 1, none, [], true⟩,
    ⟨(some 18), .move (.tmp 98), none, [], true⟩,
    ⟨(some 19), .move (.tmp 99), none, [], true⟩])
  (.seq (.region [
    ⟨(some 20), .move (.const (.bool false)), none, [], true⟩])
  (.seq (.region [
    ⟨(some 100), .move (.tmp 9), none, [], true⟩,
    ⟨(some 101), .move (.tmp 1), none, [], true⟩,
    ⟨(some 102), .call (.const (.func (.func 24) #[] #[])) [(.tmp 100), (.tmp 101)], none, [], true⟩,
    ⟨(some 21), .move (.tmp 102), none, [], true⟩])
  (.seq (.region [
    ⟨(some 22), .move (.const (.int .i64 0)), none, [], true⟩])
  (.seq (.seq (.region [
    ⟨(some 23), .move (.const (.int .i64 0)), none, [], true⟩])
  (.block 2 (.loop (.seq (.seq (.region [
    ⟨(some 103), .move (.tmp 23), none, [], true⟩,
    ⟨(some 104), .move (.tmp 10), none, [], true⟩,
    ⟨(some 105), .lenSlice (.tmp 104), none, [], true⟩,
    ⟨(some 106), .bin .lss (.tmp 103) (.tmp 105), none, [], true⟩])
  (.cond (.tmp 106)
   .skip
   (.exit 2)))
  (.seq (.block 3 (.seq (.seq (.region [
    ⟨(some 109), .move (.tmp 10), none, [], true⟩,
    ⟨(some 110), .move (.tmp 23), none, [], true⟩,
    ⟨(some 111), .indexAddr 3 (.tmp 109) (.tmp 110), none, [], true⟩,
    ⟨(some 112), .fieldAddr 0 (.tmp 111), none, [], true⟩,
    ⟨(some 113), .load none (.tmp 112), none, [], true⟩,
    ⟨(some 114), .move (.tmp 1), none, [], true⟩,
    ⟨(some 115), .bin .eql (.tmp 113) (.tmp 114), none, [], true⟩,
    ⟨(some 116), .move (.tmp 115), none, [], true⟩,
    ⟨(some 117), .move (.tmp 10), (some (116, true)), [], true⟩,
    ⟨(some 118), .move (.tmp 23), (some (116, true)), [], true⟩,
    ⟨(some 119), .indexAddr 3 (.tmp 117) (.tmp 118), (some (116, true)), [], true⟩,
    ⟨(some 120), .fieldAddr 1 (.tmp 119), (some (116, true)), [], true⟩,
    ⟨(some 121), .load none (.tmp 120), (some (116, true)), [], true⟩,
    ⟨(some 122), .move (.tmp 2), (some (116, true)), [], true⟩,
    ⟨(some 123), .bin .eql (.tmp 121) (.tmp 122), (some (116, true)), [], true⟩,
    ⟨(some 124), .pick (.tmp 116) (.tmp 123) (.const (.bool false)), none, [], true⟩])
  (.cond (.tmp 124)
   (.drawn [
     ⟨(some 125), .move (.tmp 18), none, [], false⟩,
     ⟨(some 126), .bytesStr (.tmp 125), none, [0], false⟩,
     ⟨(some 127), .move (.tmp 10), none, [], false⟩,
     ⟨(some 128), .move (.tmp 23), none, [], false⟩,
     ⟨(some 129), .indexAddr 3 (.tmp 127) (.tmp 128), none, [2, 3], false⟩,
     ⟨(some 130), .fieldAddr 2 (.tmp 129), none, [4, 2, 3], false⟩,
     ⟨(some 131), .load none (.tmp 130), none, [5, 4, 2, 3], false⟩,
     ⟨(some 132), .bytesStr (.tmp 131), none, [6, 5, 4, 2, 3], false⟩,
     ⟨(some 133), .bin .eql (.tmp 126) (.tmp 132), none, [1, 7, 0, 6, 5, 4, 2, 3], true⟩,
     ⟨(some 20), .move (.tmp 133), none, [8, 0, 1, 2, 3, 4, 5, 6, 7], true⟩])
   .skip))
  (.seq (.region [
    ⟨(some 134), .move (.tmp 10), none, [], true⟩,
    ⟨(some 135), .move (.tmp 23), none, [], true⟩,
    ⟨(some 136), .indexAddr 3 (.tmp 134) (.tmp 135), none, [], true⟩,
    ⟨(some 137), .fieldAddr 0 (.tmp 136), none, [], true⟩,
    ⟨(some 138), .load none (.tmp 137), none, [], true⟩,
    ⟨(some 139), .move (.tmp 1), none, [], true⟩,
    ⟨(some 140), .bin .eql (.tmp 138) (.tmp 139), none, [], true⟩])
  (.cond (.tmp 140)
   (.seq (.seq (.drawn [
     ⟨(some 141), .move (.tmp 22), none, [], true⟩,
     ⟨(some 142), .move (.tmp 21), none, [], true⟩,
     ⟨(some 143), .lenSlice (.tmp 142), none, [1], true⟩,
     ⟨(some 144), .bin .geq (.tmp 141) (.tmp 143), none, [0, 2, 1], true⟩,
     ⟨(some 145), .move (.tmp 144), none, [3, 0, 2, 1], true⟩,
     ⟨(some 146), .move (.tmp 21), (some (145, false)), [4, 3, 0, 2, 1], true⟩,
     ⟨(some 147), .move (.tmp 22), (some (145, false)), [4, 3, 0, 2, 1], true⟩,
     ⟨(some 148), .move (.tmp 22), (some (145, false)), [4, 3, 0, 2, 1], true⟩,
     ⟨(some 149), .bin .add (.tmp 148) (.const (.int .i64 1)), (some (145, false)), [7, 4, 3, 0, 2, 1], true⟩,
     ⟨(some 150), .slice 3 (.tmp 146) (some (.tmp 147)) (some (.tmp 149)) none, (some (145, false)), [5, 6, 8, 4, 3, 0, 2, 1, 7], true⟩,
     ⟨(some 151), .move (.tmp 10), (some (145, false)), [4, 3, 0, 2, 1], true⟩,
     ⟨(some 152), .move (.tmp 23), (some (145, false)), [4, 3, 0, 2, 1], true⟩,
     ⟨(some 153), .move (.tmp 23), (some (145, false)), [4, 3, 0, 2, 1], true⟩,
     ⟨(some 154), .bin .add (.tmp 153) (.const (.int .i64 1)), (some (145, false)), [12, 4, 3, 0, 2, 1], true⟩,
     ⟨(some 155), .slice 3 (.tmp 151) (some (.tmp 152)) (some (.tmp 154)) none, (some (145, false)), [10, 11, 13, 4, 3, 0, 2, 1, 12], true⟩,
     ⟨(some 156), .call (.const (.func (.func 11) #[] #[])) [(.tmp 150), (.tmp 155)], (some (145, false)), [9, 14, 4, 5, 6, 8, 3, 0, 2, 1, 7, 10, 11, 13, 12], true⟩,
     ⟨(some 157), .un .not (.tmp 156), (some (145, false)), [15, 4, 9, 14, 5, 6, 8, 3, 0, 2, 1, 7, 10, 11, 13, 12], true⟩,
     ⟨(some 158), .pick (.tmp 145) (.const (.bool true)) (.tmp 157), none, [4, 16, 3, 0, 2, 1, 15, 9, 14, 5, 6, 8, 7, 10, 11, 13, 12], true⟩])
   (.cond (.tmp 158)
    (.seq (.region [
      ⟨(some 8), .move (.const (.bool false)), none, [], true⟩])
    .ret)
    .skip))
   (.region [
     ⟨(some 159), .move (.tmp 22), none, [], true⟩,
     ⟨(some 160), .bin .add (.tmp 159) (.const (.int .i64 1)), none, [], true⟩,
     ⟨(some 22), .move (.tmp 160), none, [], true⟩]))
   .skip))))
  (.region [
    ⟨(some 107), .move (.tmp 23), none, [], true⟩,
    ⟨(some 108), .bin .add (.tmp 107) (.const (.int .i64 1)), none, [], true⟩,
    ⟨(some 23), .move (.tmp 108), none, [], true⟩]))))))
  (.seq (.region [
    ⟨(some 162), .build [(.map none)] [], none, [], true⟩,
    ⟨(some 163), .box (.tmp 162), none, [], true⟩,
    ⟨(some 164), .move (.tmp 0), none, [], true⟩,
    ⟨(some 165), .move (.tmp 3), none, [], true⟩,
    ⟨(some 166), .call (.const (.func (.func 15) #[] #[])) [(.tmp 163), (.tmp 164), (.tmp 165)], none, [], true⟩,
    ⟨(some 161), .move (.tmp 166), none, [], true⟩,
    ⟨(some 167), .extract (.tmp 161) 0, none, [], true⟩,
    ⟨(some 168), .extract (.tmp 161) 1, none, [], true⟩,
    ⟨(some 24), .move (.tmp 167), none, [], true⟩,
    ⟨(some 25), .move (.tmp 168), none, [], true⟩])
  (.seq (.seq (.region [
    ⟨(some 169), .move (.tmp 12), none, [], true⟩,
    ⟨(some 170), .bin .neq (.tmp 169) (.const (.int .i64 0)), none, [], true⟩])
  (.cond (.tmp 170)
   (.seq (.region [
     ⟨(some 171), .move (.tmp 19), none, [], true⟩,
     ⟨(some 172), .move (.tmp 20), none, [], true⟩,
     ⟨(some 173), .eqBool false (.tmp 171) (.tmp 172), none, [], true⟩,
     ⟨(some 174), .move (.tmp 173), none, [], true⟩,
     ⟨(some 175), .move (.tmp 22), (some (174, true)), [], true⟩,
     ⟨(some 176), .move (.tmp 21), (some (174, true)), [], true⟩,
     ⟨(some 177), .lenSlice (.tmp 176), (some (174, true)), [], true⟩,
     ⟨(some 178), .bin .eql (.tmp 175) (.tmp 177), (some (174, true)), [], true⟩,
     ⟨(some 179), .pick (.tmp 174) (.tmp 178) (.const (.bool false)), none, [], true⟩,
     ⟨(some 180), .move (.tmp 179), none, [], true⟩,
     ⟨(some 181), .move (.tmp 25), (some (180, true)), [], true⟩,
     ⟨(some 182), .move (.tmp 12), (some (180, true)), [], true⟩,
     ⟨(some 183), .bin .eql (.tmp 181) (.tmp 182), (some (180, true)), [], true⟩,
     ⟨(some 184), .pick (.tmp 180) (.tmp 183) (.const (.bool false)), none, [], true⟩,
     ⟨(some 185), .move (.tmp 184), none, [], true⟩,
     ⟨(some 186), .move (.tmp 24), (some (185, true)), [], true⟩,
     ⟨(some 187), .eqPtr false (.tmp 186) (.const (.pointer none)), (some (185, true)), [], true⟩,
     ⟨(some 188), .pick (.tmp 185) (.tmp 187) (.const (.bool false)), none, [], true⟩,
     ⟨(some 8), .move (.tmp 188), none, [], true⟩])
   .ret)
   .skip))
  (.seq (.drawn [
    ⟨(some 189), .move (.tmp 19), none, [], true⟩,
    ⟨(some 190), .move (.tmp 20), none, [], true⟩,
    ⟨(some 191), .eqBool false (.tmp 189) (.tmp 190), none, [0, 1], true⟩,
    ⟨(some 192), .move (.tmp 191), none, [2, 0, 1], true⟩,
    ⟨(some 193), .move (.tmp 22), (some (192, true)), [3, 2, 0, 1], true⟩,
    ⟨(some 194), .move (.tmp 21), (some (192, true)), [3, 2, 0, 1], true⟩,
    ⟨(some 195), .lenSlice (.tmp 194), (some (192, true)), [5, 3, 2, 0, 1], true⟩,
    ⟨(some 196), .bin .eql (.tmp 193) (.tmp 195), (some (192, true)), [4, 6, 3, 2, 0, 1, 5], true⟩,
    ⟨(some 197), .pick (.tmp 192) (.tmp 196) (.const (.bool false)), none, [3, 7, 2, 0, 1, 4, 6, 5], true⟩,
    ⟨(some 198), .move (.tmp 197), none, [8, 3, 7, 2, 0, 1, 4, 6, 5], true⟩,
    ⟨(some 199), .move (.tmp 25), (some (198, true)), [9, 8, 3, 7, 2, 0, 1, 4, 6, 5], true⟩,
    ⟨(some 200), .bin .eql (.tmp 199) (.const (.int .i64 0)), (some (198, true)), [10, 9, 8, 3, 7, 2, 0, 1, 4, 6, 5], true⟩,
    ⟨(some 201), .pick (.tmp 198) (.tmp 200) (.const (.bool false)), none, [9, 11, 8, 3, 7, 2, 0, 1, 4, 6, 5, 10], true⟩,
    ⟨(some 202), .move (.tmp 201), none, [12, 9, 11, 8, 3, 7, 2, 0, 1, 4, 6, 5, 10], true⟩,
    ⟨(some 203), .move (.tmp 24), (some (202, true)), [13, 12, 9, 11, 8, 3, 7, 2, 0, 1, 4, 6, 5, 10], true⟩,
    ⟨(some 204), .call (.const (.func (.func 12) #[] #[])) [(.tmp 203)], (some (202, true)), [14, 13, 12, 9, 11, 8, 3, 7, 2, 0, 1, 4, 6, 5, 10], true⟩,
    ⟨(some 205), .move (.tmp 11), (some (202, true)), [13, 12, 9, 11, 8, 3, 7, 2, 0, 1, 4, 6, 5, 10], false⟩,
    ⟨(some 206), .call (.const (.func (.func 11) #[] #[])) [(.tmp 204), (.tmp 205)], (some (202, true)), [15, 16, 13, 14, 12, 9, 11, 8, 3, 7, 2, 0, 1, 4, 6, 5, 10], true⟩,
    ⟨(some 207), .pick (.tmp 202) (.tmp 206) (.const (.bool false)), none, [13, 17, 12, 9, 11, 8, 3, 7, 2, 0, 1, 4, 6, 5, 10, 15, 16, 14], true⟩,
    ⟨(some 208), .move (.tmp 207), none, [18, 17, 13, 12, 9, 11, 8, 3, 7, 2, 0, 1, 4, 6, 5, 10, 15, 16, 14], true⟩,
    ⟨(some 209), .move (.tmp 9), (some (208, true)), [19, 18, 17, 13, 12, 9, 11, 8, 3, 7, 2, 0, 1, 4, 6, 5, 10, 15, 16, 14], true⟩,
    ⟨(some 210), .call (.const (.func (.func 25) #[] #[])) [(.tmp 209)], (some (208, true)), [20, 19, 18, 17, 13, 12, 9, 11, 8, 3, 7, 2, 0, 1, 4, 6, 5, 10, 15, 16, 14], true⟩,
    ⟨(some 211), .bytesStr (.tmp 210), (some (208, true)), [21, 19, 20, 18, 17, 13, 12, 9, 11, 8, 3, 7, 2, 0, 1, 4, 6, 5, 10, 15, 16, 14], false⟩,
    ⟨(some 212), .move (.tmp 10), (some (208, true)), [19, 18, 17, 13, 12, 9, 11, 8, 3, 7, 2, 0, 1, 4, 6, 5, 10, 15, 16, 14], false⟩,
    ⟨(some 213), .call (.const (.func (.func 26) #[] #[])) [(.tmp 212)], (some (208, true)), [23, 21, 19, 18, 17, 13, 12, 9, 11, 8, 3, 7, 2, 0, 1, 4, 6, 5, 10, 15, 16, 14, 20], false⟩,
    ⟨(some 214), .bytesStr (.tmp 213), (some (208, true)), [24, 19, 23, 21, 18, 17, 13, 12, 9, 11, 8, 3, 7, 2, 0, 1, 4, 6, 5, 10, 15, 16, 14, 20], false⟩,
    ⟨(some 215), .bin .eql (.tmp 211) (.tmp 214), (some (208, true)), [22, 25, 19, 21, 20, 18, 17, 13, 12, 9, 11, 8, 3, 7, 2, 0, 1, 4, 6, 5, 10, 15, 16, 14, 24, 23], true⟩,
    ⟨(some 216), .pick (.tmp 208) (.tmp 215) (.const (.bool false)), none, [19, 26, 18, 17, 13, 12, 9, 11, 8, 3, 7, 2, 0, 1, 4, 6, 5, 10, 15, 16, 14, 22, 25, 21, 20, 24, 23], true⟩,
    ⟨(some 217), .move (.tmp 216), none, [27, 24, 19, 26, 18, 17, 13, 12, 9, 11, 8, 3, 7, 2, 0, 1, 4, 6, 5, 10, 15, 16, 14, 22, 25, 21, 20, 23], true⟩,
    ⟨(some 218), .move (.tmp 9), (some (217, true)), [28, 27, 24, 19, 26, 18, 17, 13, 12, 9, 11, 8, 3, 7, 2, 0, 1, 4, 6, 5, 10, 15, 16, 14, 22, 25, 21, 20, 23], true⟩,
    ⟨(some 219), .call (.const (.func (.func 19) #[] #[])) [(.tmp 218)], (some (217, true)), [29, 28, 27, 24, 19, 26, 18, 17, 13, 12, 9, 11, 8, 3, 7, 2, 0, 1, 4, 6, 5, 10, 15, 16, 14, 22, 25, 21, 20, 23], true⟩,
    ⟨(some 220), .call (.const (.func (.func 12) #[] #[])) [(.tmp 219)], (some (217, true)), [30, 28, 29, 27, 24, 19, 26, 18, 17, 13, 12, 9, 11, 8, 3, 7, 2, 0, 1, 4, 6, 5, 10, 15, 16, 14, 22, 25, 21, 20, 23], true⟩,
    ⟨(some 221), .move (.tmp 10), (some (217, true)), [28, 27, 24, 19, 26, 18, 17, 13, 12, 9, 11, 8, 3, 7, 2, 0, 1, 4, 6, 5, 10, 15, 16, 14, 22, 25, 21, 20, 23], false⟩,
    ⟨(some 222), .call (.const (.func (.func 11) #[] #[])) [(.tmp 220), (.tmp 221)], (some (217, true)), [31, 32, 28, 30, 29, 27, 24, 19, 26, 18, 17, 13, 12, 9, 11, 8, 3, 7, 2, 0, 1, 4, 6, 5, 10, 15, 16, 14, 22, 25, 21, 20, 23], true⟩,
    ⟨(some 223), .pick (.tmp 217) (.tmp 222) (.const (.bool false)), none, [28, 33, 27, 24, 19, 26, 18, 17, 13, 12, 9, 11, 8, 3, 7, 2, 0, 1, 4, 6, 5, 10, 15, 16, 14, 22, 25, 21, 20, 23, 31, 32, 30, 29], true⟩,
    ⟨(some 224), .move (.tmp 223), none, [34, 33, 28, 27, 24, 19, 26, 18, 17, 13, 12, 9, 11, 8, 3, 7, 2, 0, 1, 4, 6, 5, 10, 15, 16, 14, 22, 25, 21, 20, 23, 31, 32, 30, 29], true⟩,
    ⟨(some 225), .move (.tmp 9), (some (224, true)), [35, 34, 33, 28, 27, 24, 19, 26, 18, 17, 13, 12, 9, 11, 8, 3, 7, 2, 0, 1, 4, 6, 5, 10, 15, 16, 14, 22, 25, 21, 20, 23, 31, 32, 30, 29], true⟩,
    ⟨(some 226), .move (.tmp 24), (some (224, true)), [35, 34, 33, 28, 27, 24, 19, 26, 18, 17, 13, 12, 9, 11, 8, 3, 7, 2, 0, 1, 4, 6, 5, 10, 15, 16, 14, 22, 25, 21, 20, 23, 31, 32, 30, 29], true⟩,
    ⟨(some 227), .call (.const (.func (.func 16) #[] #[])) [(.tmp 225), (.tmp 226)], (some (224, true)), [36, 37, 35, 34, 33, 28, 27, 24, 19, 26, 18, 17, 13, 12, 9, 11, 8, 3, 7, 2, 0, 1, 4, 6, 5, 10, 15, 16, 14, 22, 25, 21, 20, 23, 31, 32, 30, 29], true⟩,
    ⟨(some 228), .move (.tmp 10), (some (224, true)), [35, 34, 33, 28, 27, 24, 19, 26, 18, 17, 13, 12, 9, 11, 8, 3, 7, 2, 0, 1, 4, 6, 5, 10, 15, 16, 14, 22, 25, 21, 20, 23, 31, 32, 30, 29], false⟩,
    ⟨(some 229), .move (.tmp 11), (some (224, true)), [35, 34, 33, 28, 27, 24, 19, 26, 18, 17, 13, 12, 9, 11, 8, 3, 7, 2, 0, 1, 4, 6, 5, 10, 15, 16, 14, 22, 25, 21, 20, 23, 31, 32, 30, 29], false⟩,
    ⟨(some 230), .call (.const (.func (.func 11) #[] #[])) [(.tmp 228), (.tmp 229)], (some (224, true)), [39, 40, 38, 35, 34, 33, 28, 27, 24, 19, 26, 18, 17, 13, 12, 9, 11, 8, 3, 7, 2, 0, 1, 4, 6, 5, 10, 15, 16, 14, 22, 25, 21, 20, 23, 31, 32, 30, 29, 36, 37], true⟩,
    ⟨(some 231), .eqBool false (.tmp 227) (.tmp 230), (some (224, true)), [38, 41, 35, 36, 37, 34, 33, 28, 27, 24, 19, 26, 18, 17, 13, 12, 9, 11, 8, 3, 7, 2, 0, 1, 4, 6, 5, 10, 15, 16, 14, 22, 25, 21, 20, 23, 31, 32, 30, 29, 39, 40], true⟩,
    ⟨(some 232), .pick (.tmp 224) (.tmp 231) (.const (.bool false)), none, [35, 42, 34, 33, 28, 27, 24, 19, 26, 18, 17, 13, 12, 9, 11, 8, 3, 7, 2, 0, 1, 4, 6, 5, 10, 15, 16, 14, 22, 25, 21, 20, 23, 31, 32, 30, 29, 38, 41, 36, 37, 39, 40], true⟩,
    ⟨(some 8), .move (.tmp 232), none, [43, 41, 0, 1, 2, 3, 4, 5, 6, 7, 8, 9, 10, 11, 12, 13, 14, 15, 16, 17, 18, 19, 20, 21, 22, 23, 24, 25, 26, 27, 28, 29, 30, 31, 32, 33, 34, 35, 36, 37, 38, 39, 40, 42], true⟩])
  .ret))))))))))))))) }
theorem ir6_eq : funcC Try.prog 6 = some ir6 := by kernel_rfl
/-- wagonway/wagonwaylaw13.ShelfBack -/
def ir7 : IFunc :=
{ ntmps := 109, results := [.tmp 6], body :=
  (.seq (.region [
    ⟨(some 6), .move (.const (.bool false)), none, [], true⟩])
  (.seq (.region [
    ⟨(some 17), .call (.const (.func (.func 13) #[] #[])) [], none, [], true⟩,
    ⟨(some 7), .move (.tmp 17), none, [], true⟩])
  (.seq (.seq (.region [
    ⟨(some 18), .move (.tmp 0), none, [], true⟩,
    ⟨(some 19), .call (.const (.func (.func 14) #[] #[])) [(.tmp 18)], none, [], true⟩,
    ⟨(some 20), .bin .gtr (.tmp 19) (.const (.int .i64 0)), none, [], true⟩,
    ⟨(some 21), .move (.tmp 20), none, [], true⟩,
    ⟨(some 22), .move (.tmp 1), (some (21, false)), [], true⟩,
    ⟨(some 23), .call (.const (.func (.func 14) #[] #[])) [(.tmp 22)], (some (21, false)), [], true⟩,
    ⟨(some 24), .bin .gtr (.tmp 23) (.const (.int .i64 0)), (some (21, false)), [], true⟩,
    ⟨(some 25), .pick (.tmp 21) (.const (.bool true)) (.tmp 24), none, [], true⟩,
    ⟨(some 26), .move (.tmp 25), none, [], true⟩,
    ⟨(some 27), .move (.tmp 2), (some (26, false)), [], true⟩,
    ⟨(some 28), .lenSlice (.tmp 27), (some (26, false)), [], true⟩,
    ⟨(some 29), .bin .gtr (.tmp 28) (.const (.int .i64 4000)), (some (26, false)), [], true⟩,
    ⟨(some 30), .pick (.tmp 26) (.const (.bool true)) (.tmp 29), none, [], true⟩,
    ⟨(some 31), .move (.tmp 30), none, [], true⟩,
    ⟨(some 32), .move (.tmp 7), (some (31, false)), [], true⟩,
    ⟨(some 33), .un .not (.tmp 32), (some (31, false)), [], true⟩,
    ⟨(some 34), .pick (.tmp 31) (.const (.bool true)) (.tmp 33), none, [], true⟩])
  (.cond (.tmp 34)
   (.seq (.region [
     ⟨(some 35), .move (.tmp 7), none, [], true⟩,
     ⟨(some 6), .move (.tmp 35), none, [], true⟩])
   .ret)
   .skip))
  (.seq (.region [
    ⟨(some 36), .build [(.map none)] [], none, [], true⟩,
    ⟨(some 37), .box (.tmp 36), none, [], true⟩,
    ⟨(some 8), .move (.tmp 37), none, [], true⟩])
  (.seq (.seq (.region [
    ⟨(some 9), .move (.const (.int .i64 0)), none, [], true⟩])
  (.block 0 (.loop (.seq (.seq (.region [
    ⟨(some 38), .move (.tmp 9), none, [], true⟩,
    ⟨(some 39), .move (.tmp 0), none, [], true⟩,
    ⟨(some 40), .lenSlice (.tmp 39), none, [], true⟩,
    ⟨(some 41), .bin .lss (.tmp 38) (.tmp 40), none, [], true⟩])
  (.cond (.tmp 41)
   .skip
   (.exit 0)))
  (.seq (.block 1 (.region [
    ⟨(some 44), .move (.tmp 8), none, [], true⟩,
    ⟨(some 45), .move (.tmp 0), none, [], true⟩,
    ⟨(some 46), .move (.tmp 9), none, [], true⟩,
    ⟨(some 47), .indexAddr 3 (.tmp 45) (.tmp 46), none, [], true⟩,
    ⟨(some 48), .load (some 3) (.tmp 47), none, [], true⟩,
    ⟨(some 49), .call (.const (.func (.func 18) #[] #[])) [(.tmp 44), (.tmp 48)], none, [], true⟩]))
  (.region [
    ⟨(some 42), .move (.tmp 9), none, [], true⟩,
    ⟨(some 43), .bin .add (.tmp 42) (.const (.int .i64 1)), none, [], true⟩,
    ⟨(some 9), .move (.tmp 43), none, [], true⟩]))))))
  (.seq (.region [
    ⟨(some 51), .move (.tmp 8), none, [], true⟩,
    ⟨(some 52), .call (.const (.func (.func 25) #[] #[])) [(.tmp 51)], none, [], true⟩,
    ⟨(some 53), .call (.const (.func (.func 9) #[] #[])) [(.tmp 52)], none, [], true⟩,
    ⟨(some 50), .move (.tmp 53), none, [], true⟩,
    ⟨(some 54), .extract (.tmp 50) 0, none, [], true⟩,
    ⟨(some 55), .extract (.tmp 50) 1, none, [], true⟩,
    ⟨(some 10), .move (.tmp 54), none, [], true⟩,
    ⟨(some 11), .move (.tmp 55), none, [], true⟩])
  (.seq (.region [
    ⟨(some 56), .move (.tmp 8), none, [], true⟩,
    ⟨(some 57), .call (.const (.func (.func 19) #[] #[])) [(.tmp 56)], none, [], true⟩,
    ⟨(some 12), .move (.tmp 57), none, [], true⟩])
  (.seq (.region [
    ⟨(some 58), .move (.tmp 8), none, [], true⟩,
    ⟨(some 59), .call (.const (.func (.func 25) #[] #[])) [(.tmp 58)], none, [], true⟩,
    ⟨(some 60), .bytesStr (.tmp 59), none, [], true⟩,
    ⟨(some 13), .move (.tmp 60), none, [], true⟩])
  (.seq (.seq (.region [
    ⟨(some 14), .move (.const (.int .i64 0)), none, [], true⟩])
  (.block 2 (.loop (.seq (.seq (.region [
    ⟨(some 61), .move (.tmp 14), none, [], true⟩,
    ⟨(some 62), .move (.tmp 1), none, [], true⟩,
    ⟨(some 63), .lenSlice (.tmp 62), none, [], true⟩,
    ⟨(some 64), .bin .lss (.tmp 61) (.tmp 63), none, [], true⟩])
  (.cond (.tmp 64)
   .skip
   (.exit 2)))
  (.seq (.block 3 (.region [
    ⟨(some 67), .move (.tmp 8), none, [], true⟩,
    ⟨(some 68), .move (.tmp 1), none, [], true⟩,
    ⟨(some 69), .move (.tmp 14), none, [], true⟩,
    ⟨(some 70), .indexAddr 3 (.tmp 68) (.tmp 69), none, [], true⟩,
    ⟨(some 71), .load (some 3) (.tmp 70), none, [], true⟩,
    ⟨(some 72), .call (.const (.func (.func 18) #[] #[])) [(.tmp 67), (.tmp 71)], none, [], true⟩]))
  (.region [
    ⟨(some 65), .move (.tmp 14), none, [], true⟩,
    ⟨(some 66), .bin .add (.tmp 65) (.const (.int .i64 1)), none, [], true⟩,
    ⟨(some 14), .move (.tmp 66), none, [], true⟩]))))))
  (.seq (.region [
    ⟨(some 74), .move (.tmp 2), none, [], true⟩,
    ⟨(some 75), .call (.const (.func (.func 9) #[] #[])) [(.tmp 74)], none, [], true⟩,
    ⟨(some 73), .move (.tmp 75), none, [], true⟩,
    ⟨(some 76), .extract (.tmp 73) 0, none, [], true⟩,
    ⟨(some 77), .extract (.tmp 73) 1, none, [], true⟩,
    ⟨(some 15), .move (.tmp 76), none, [], true⟩,
    ⟨(some 16), .move (.tmp 77), none, [], true⟩])
  (.seq (.drawn [
    ⟨(some 78), .move (.tmp 7), none, [], true⟩,
    ⟨(some 79), .move (.tmp 78), none, [0], true⟩,
    ⟨(some 80), .move (.tmp 11), (some (79, true)), [1, 0], true⟩,
    ⟨(some 81), .bin .eql (.tmp 80) (.const (.int .i64 0)), (some (79, true)), [2, 1, 0], true⟩,
    ⟨(some 82), .pick (.tmp 79) (.tmp 81) (.const (.bool false)), none, [1, 3, 0, 2], true⟩,
    ⟨(some 83), .move (.tmp 82), none, [4, 1, 3, 0, 2], true⟩,
    ⟨(some 84), .move (.tmp 10), (some (83, true)), [5, 4, 1, 3, 0, 2], true⟩,
    ⟨(some 85), .call (.const (.func (.func 25) #[] #[])) [(.tmp 84)], (some (83, true)), [6, 5, 4, 1, 3, 0, 2], true⟩,
    ⟨(some 86), .bytesStr (.tmp 85), (some (83, true)), [7, 5, 6, 4, 1, 3, 0, 2], true⟩,
    ⟨(some 87), .move (.tmp 13), (some (83, true)), [5, 4, 1, 3, 0, 2], false⟩,
    ⟨(some 88), .bin .eql (.tmp 86) (.tmp 87), (some (83, true)), [8, 9, 5, 7, 6, 4, 1, 3, 0, 2], true⟩,
    ⟨(some 89), .pick (.tmp 83) (.tmp 88) (.const (.bool false)), none, [5, 10, 4, 1, 3, 0, 2, 8, 9, 7, 6], true⟩,
    ⟨(some 90), .move (.tmp 89), none, [11, 7, 5, 10, 4, 1, 3, 0, 2, 8, 9, 6], true⟩,
    ⟨(some 91), .move (.tmp 12), (some (90, true)), [12, 11, 7, 5, 10, 4, 1, 3, 0, 2, 8, 9, 6], true⟩,
    ⟨(some 92), .call (.const (.func (.func 25) #[] #[])) [(.tmp 91)], (some (90, true)), [13, 12, 11, 7, 5, 10, 4, 1, 3, 0, 2, 8, 9, 6], true⟩,
    ⟨(some 93), .bytesStr (.tmp 92), (some (90, true)), [14, 12, 13, 11, 7, 5, 10, 4, 1, 3, 0, 2, 8, 9, 6], true⟩,
    ⟨(some 94), .move (.tmp 13), (some (90, true)), [12, 11, 7, 5, 10, 4, 1, 3, 0, 2, 8, 9, 6], false⟩,
    ⟨(some 95), .bin .eql (.tmp 93) (.tmp 94), (some (90, true)), [15, 16, 12, 14, 13, 11, 7, 5, 10, 4, 1, 3, 0, 2, 8, 9, 6], true⟩,
    ⟨(some 96), .pick (.tmp 90) (.tmp 95) (.const (.bool false)), none, [12, 17, 11, 7, 5, 10, 4, 1, 3, 0, 2, 8, 9, 6, 15, 16, 14, 13], true⟩,
    ⟨(some 97), .move (.tmp 96), none, [18, 14, 12, 17, 11, 7, 5, 10, 4, 1, 3, 0, 2, 8, 9, 6, 15, 16, 13], true⟩,
    ⟨(some 98), .move (.tmp 16), (some (97, true)), [19, 18, 14, 12, 17, 11, 7, 5, 10, 4, 1, 3, 0, 2, 8, 9, 6, 15, 16, 13], true⟩,
    ⟨(some 99), .bin .neq (.tmp 98) (.const (.int .i64 0)), (some (97, true)), [20, 19, 18, 14, 12, 17, 11, 7, 5, 10, 4, 1, 3, 0, 2, 8, 9, 6, 15, 16, 13], true⟩,
    ⟨(some 100), .move (.tmp 99), (some (97, true)), [21, 19, 20, 18, 14, 12, 17, 11, 7, 5, 10, 4, 1, 3, 0, 2, 8, 9, 6, 15, 16, 13], true⟩,
    ⟨(some 101), .move (.tmp 15), (some (100, false)), [22, 21, 19, 20, 18, 14, 12, 17, 11, 7, 5, 10, 4, 1, 3, 0, 2, 8, 9, 6, 15, 16, 13], false⟩,
    ⟨(some 102), .call (.const (.func (.func 25) #[] #[])) [(.tmp 101)], (some (100, false)), [23, 22, 21, 19, 20, 18, 14, 12, 17, 11, 7, 5, 10, 4, 1, 3, 0, 2, 8, 9, 6, 15, 16, 13], false⟩,
    ⟨(some 103), .bytesStr (.tmp 102), (some (100, false)), [24, 22, 23, 21, 19, 20, 18, 14, 12, 17, 11, 7, 5, 10, 4, 1, 3, 0, 2, 8, 9, 6, 15, 16, 13], false⟩,
    ⟨(some 104), .move (.tmp 2), (some (100, false)), [22, 21, 19, 20, 18, 14, 12, 17, 11, 7, 5, 10, 4, 1, 3, 0, 2, 8, 9, 6, 15, 16, 13], false⟩,
    ⟨(some 105), .bytesStr (.tmp 104), (some (100, false)), [26, 22, 21, 19, 20, 18, 14, 12, 17, 11, 7, 5, 10, 4, 1, 3, 0, 2, 8, 9, 6, 15, 16, 13], false⟩,
    ⟨(some 106), .bin .eql (.tmp 103) (.tmp 105), (some (100, false)), [25, 27, 22, 24, 23, 21, 19, 20, 18, 14, 12, 17, 11, 7, 5, 10, 4, 1, 3, 0, 2, 8, 9, 6, 15, 16, 13, 26], true⟩,
    ⟨(some 107), .pick (.tmp 100) (.const (.bool true)) (.tmp 106), (some (97, true)), [22, 28, 19, 21, 20, 18, 14, 12, 17, 11, 7, 5, 10, 4, 1, 3, 0, 2, 8, 9, 6, 15, 16, 13, 25, 27, 24, 23, 26], true⟩,
    ⟨(some 108), .pick (.tmp 97) (.tmp 107) (.const (.bool false)), none, [19, 29, 18, 14, 12, 17, 11, 7, 5, 10, 4, 1, 3, 0, 2, 8, 9, 6, 15, 16, 13, 22, 28, 21, 20, 25, 27, 24, 23, 26], true⟩,
    ⟨(some 6), .move (.tmp 108), none, [30, 24, 0, 1, 2, 3, 4, 5, 6, 7, 8, 9, 10, 11, 12, 13, 14, 15, 16, 17, 18, 19, 20, 21, 22, 23, 25, 26, 27, 28, 29], true⟩])
  .ret))))))))))) }
theorem ir7_eq : funcC Try.prog 7 = some ir7 := by kernel_rfl
/-- wagonway/wagonwaylaw13.ShelfNames -/
def ir8 : IFunc :=
{ ntmps := 117, results := [.tmp 0], body :=
  (.seq (.region [
    ⟨(some 0), .move (.const (.bool false)), none, [], true⟩])
  (.seq (.region [
    ⟨(some 13), .build [(.map none)] [], none, [], true⟩,
    ⟨(some 14), .box (.tmp 13), none, [], true⟩,
    ⟨(some 1), .move (.tmp 14), none, [], true⟩])
  (.seq (.region [
    ⟨(some 15), .move (.tmp 1), none, [], true⟩,
    ⟨(some 16), .buildSlice 1 1 [(.int .u8 0)] [(0, (.const (.int .u8 97)))], none, [], true⟩,
    ⟨(some 17), .convBytes (.tmp 16), none, [], true⟩,
    ⟨(some 18), .build [(.int .i64 0), (.int .i64 0), (.slice none 0 0)] [(0, 1, (.const (.int .i64 256))), (2, 1, (.tmp 17))], none, [], true⟩,
    ⟨(some 19), .call (.const (.func (.func 18) #[] #[])) [(.tmp 15), (.tmp 18)], none, [], true⟩,
    ⟨(some 2), .move (.tmp 19), none, [], true⟩])
  (.seq (.region [
    ⟨(some 21), .buildSlice 1 5 [(.int .u8 0)] [(0, (.const (.int .u8 1))), (1, (.const (.int .u8 0))), (2, (.const (.int .u8 2))), (3, (.const (.int .u8 0))), (4, (.const (.int .u8 0)))], none, [], true⟩,
    ⟨(some 22), .call (.const (.func (.func 9) #[] #[])) [(.tmp 21)], none, [], true⟩,
    ⟨(some 20), .move (.tmp 22), none, [], true⟩,
    ⟨(some 23), .extract (.tmp 20) 0, none, [], true⟩,
    ⟨(some 24), .extract (.tmp 20) 1, none, [], true⟩,
    ⟨(some 3), .move (.tmp 23), none, [], true⟩,
    ⟨(some 4), .move (.tmp 24), none, [], true⟩])
  (.seq (.region [
    ⟨(some 25), .move (.tmp 1), none, [], true⟩,
    ⟨(some 26), .buildSlice 1 1 [(.int .u8 0)] [(0, (.const (.int .u8 97)))], none, [], true⟩,
    ⟨(some 27), .convBytes (.tmp 26), none, [], true⟩,
    ⟨(some 28), .build [(.int .i64 0), (.int .i64 0), (.slice none 0 0)] [(1, 1, (.const (.int .i64 1025))), (2, 1, (.tmp 27))], none, [], true⟩,
    ⟨(some 29), .call (.const (.func (.func 18) #[] #[])) [(.tmp 25), (.tmp 28)], none, [], true⟩,
    ⟨(some 5), .move (.tmp 29), none, [], true⟩])
  (.seq (.region [
    ⟨(some 30), .move (.tmp 1), none, [], true⟩,
    ⟨(some 31), .makeSlice 1 1 [(.int .u8 0)] (.const (.int .i64 1025)) (.const (.int .i64 1025)), none, [], true⟩,
    ⟨(some 32), .build [(.int .i64 0), (.int .i64 0), (.slice none 0 0)] [(2, 1, (.tmp 31))], none, [], true⟩,
    ⟨(some 33), .call (.const (.func (.func 18) #[] #[])) [(.tmp 30), (.tmp 32)], none, [], true⟩,
    ⟨(some 6), .move (.tmp 33), none, [], true⟩])
  (.seq (.region [
    ⟨(some 34), .move (.tmp 1), none, [], true⟩,
    ⟨(some 35), .makeSlice 1 1 [(.int .u8 0)] (.const (.int .i64 1024)) (.const (.int .i64 1024)), none, [], true⟩,
    ⟨(some 36), .build [(.int .i64 0), (.int .i64 0), (.slice none 0 0)] [(0, 1, (.const (.int .i64 255))), (1, 1, (.const (.int .i64 1024))), (2, 1, (.tmp 35))], none, [], true⟩,
    ⟨(some 37), .call (.const (.func (.func 18) #[] #[])) [(.tmp 34), (.tmp 36)], none, [], true⟩,
    ⟨(some 7), .move (.tmp 37), none, [], true⟩])
  (.seq (.region [
    ⟨(some 8), .move (.const (.pointer none)), none, [], true⟩])
  (.seq (.region [
    ⟨(some 39), .call (.const (.func (.func 15) #[] #[])) [(.const (.pointer none)), (.const (.slice none 0 0)), (.const (.int .i64 0))], none, [], true⟩,
    ⟨(some 38), .move (.tmp 39), none, [], true⟩,
    ⟨(some 40), .extract (.tmp 38) 0, none, [], true⟩,
    ⟨(some 41), .extract (.tmp 38) 1, none, [], true⟩,
    ⟨(some 9), .move (.tmp 40), none, [], true⟩,
    ⟨(some 10), .move (.tmp 41), none, [], true⟩])
  (.seq (.region [
    ⟨(some 43), .move (.tmp 8), none, [], true⟩,
    ⟨(some 44), .call (.const (.func (.func 17) #[] #[])) [(.tmp 43), (.const (.int .i64 1)), (.const (.int .i64 1))], none, [], true⟩,
    ⟨(some 42), .move (.tmp 44), none, [], true⟩,
    ⟨(some 45), .extract (.tmp 42) 0, none, [], true⟩,
    ⟨(some 46), .extract (.tmp 42) 1, none, [], true⟩,
    ⟨(some 11), .move (.tmp 45), none, [], true⟩,
    ⟨(some 12), .move (.tmp 46), none, [], true⟩])
  (.seq (.region [
    ⟨(some 47), .call (.const (.func (.func 13) #[] #[])) [], none, [], true⟩,
    ⟨(some 48), .move (.tmp 47), none, [], true⟩,
    ⟨(some 49), .pick (.tmp 48) (.const (.bool true)) (.const (.bool false)), none, [], true⟩,
    ⟨(some 50), .move (.tmp 49), none, [], true⟩,
    ⟨(some 51), .pick (.tmp 50) (.const (.bool true)) (.const (.bool false)), none, [], true⟩,
    ⟨(some 52), .move (.tmp 51), none, [], true⟩,
    ⟨(some 53), .pick (.tmp 52) (.const (.bool true)) (.const (.bool false)), none, [], true⟩,
    ⟨(some 54), .move (.tmp 53), none, [], true⟩,
    ⟨(some 55), .pick (.tmp 54) (.const (.bool true)) (.const (.bool false)), none, [], true⟩,
    ⟨(some 56), .move (.tmp 55), none, [], true⟩,
    ⟨(some 57), .move (.tmp 2), (some (56, true)), [], true⟩,
    ⟨(some 58), .bin .eql (.tmp 57) (.const (.int .i64 130)), (some (56, true)), [], true⟩,
    ⟨(some 59), .pick (.tmp 56) (.tmp 58) (.const (.bool false)), none, [], true⟩,
    ⟨(some 60), .move (.tmp 59), none, [], true⟩,
    ⟨(some 61), .move (.tmp 4), (some (60, true)), [], true⟩,
    ⟨(some 62), .bin .eql (.tmp 61) (.const (.int .i64 131)), (some (60, true)), [], true⟩,
    ⟨(some 63), .pick (.tmp 60) (.tmp 62) (.const (.bool false)), none, [], true⟩,
    ⟨(some 64), .move (.tmp 63), none, [], true⟩,
    ⟨(some 65), .move (.tmp 5), (some (64, true)), [], true⟩,
    ⟨(some 66), .bin .eql (.tmp 65) (.const (.int .i64 130)), (some (64, true)), [], true⟩,
    ⟨(some 67), .pick (.tmp 64) (.tmp 66) (.const (.bool false)), none, [], true⟩,
    ⟨(some 68), .move (.tmp 67), none, [], true⟩,
    ⟨(some 69), .move (.tmp 6), (some (68, true)), [], true⟩,
    ⟨(some 70), .bin .eql (.tmp 69) (.const (.int .i64 130)), (some (68, true)), [], true⟩,
    ⟨(some 71), .pick (.tmp 68) (.tmp 70) (.const (.bool false)), none, [], true⟩,
    ⟨(some 72), .move (.tmp 71), none, [], true⟩,
    ⟨(some 73), .move (.tmp 7), (some (72, true)), [], true⟩,
    ⟨(some 74), .bin .eql (.tmp 73) (.const (.int .i64 0)), (some (72, true)), [], true⟩,
    ⟨(some 75), .pick (.tmp 72) (.tmp 74) (.const (.bool false)), none, [], true⟩,
    ⟨(some 76), .move (.tmp 75), none, [], true⟩,
    ⟨(some 77), .move (.tmp 1), (some (76, true)), [], true⟩,
    ⟨(some 78), .call (.const (.func (.func 23) #[] #[])) [(.tmp 77)], (some (76, true)), [], true⟩,
    ⟨(some 79), .bin .eql (.tmp 78) (.const (.int .i64 1)), (some (76, true)), [], true⟩,
    ⟨(some 80), .pick (.tmp 76) (.tmp 79) (.const (.bool false)), none, [], true⟩,
    ⟨(some 81), .move (.tmp 80), none, [], true⟩,
    ⟨(some 82), .move (.tmp 8), (some (81, true)), [], true⟩,
    ⟨(some 83), .build [(.int .i64 0), (.int .i64 0), (.slice none 0 0)] [], (some (81, true)), [], true⟩,
    ⟨(some 84), .call (.const (.func (.func 18) #[] #[])) [(.tmp 82), (.tmp 83)], (some (81, true)), [], true⟩,
    ⟨(some 85), .bin .eql (.tmp 84) (.const (.int .i64 1)), (some (81, true)), [], true⟩,
    ⟨(some 86), .pick (.tmp 81) (.tmp 85) (.const (.bool false)), none, [], true⟩,
    ⟨(some 87), .move (.tmp 86), none, [], true⟩,
    ⟨(some 88), .move (.tmp 10), (some (87, true)), [], true⟩,
    ⟨(some 89), .bin .eql (.tmp 88) (.const (.int .i64 1)), (some (87, true)), [], true⟩,
    ⟨(some 90), .pick (.tmp 87) (.tmp 89) (.const (.bool false)), none, [], true⟩,
    ⟨(some 91), .move (.tmp 90), none, [], true⟩,
    ⟨(some 92), .move (.tmp 12), (some (91, true)), [], true⟩,
    ⟨(some 93), .un .not (.tmp 92), (some (91, true)), [], true⟩,
    ⟨(some 94), .pick (.tmp 91) (.tmp 93) (.const (.bool false)), none, [], true⟩,
    ⟨(some 95), .move (.tmp 94), none, [], true⟩,
    ⟨(some 96), .move (.tmp 8), (some (95, true)), [], true⟩,
    ⟨(some 97), .call (.const (.func (.func 23) #[] #[])) [(.tmp 96)], (some (95, true)), [], true⟩,
    ⟨(some 98), .bin .eql (.tmp 97) (.const (.int .i64 0)), (some (95, true)), [], true⟩,
    ⟨(some 99), .pick (.tmp 95) (.tmp 98) (.const (.bool false)), none, [], true⟩,
    ⟨(some 100), .move (.tmp 99), none, [], true⟩,
    ⟨(some 101), .move (.tmp 8), (some (100, true)), [], true⟩,
    ⟨(some 102), .call (.const (.func (.func 19) #[] #[])) [(.tmp 101)], (some (100, true)), [], true⟩,
    ⟨(some 103), .eqPtr false (.tmp 102) (.const (.pointer none)), (some (100, true)), [], true⟩,
    ⟨(some 104), .pick (.tmp 100) (.tmp 103) (.const (.bool false)), none, [], true⟩,
    ⟨(some 105), .move (.tmp 104), none, [], true⟩,
    ⟨(some 106), .move (.tmp 8), (some (105, true)), [], true⟩,
    ⟨(some 107), .build [(.map none)] [], (some (105, true)), [], true⟩,
    ⟨(some 108), .box (.tmp 107), (some (105, true)), [], true⟩,
    ⟨(some 109), .call (.const (.func (.func 16) #[] #[])) [(.tmp 106), (.tmp 108)], (some (105, true)), [], true⟩,
    ⟨(some 110), .pick (.tmp 105) (.tmp 109) (.const (.bool false)), none, [], true⟩,
    ⟨(some 111), .move (.tmp 110), none, [], true⟩,
    ⟨(some 112), .move (.tmp 1), (some (111, true)), [], true⟩,
    ⟨(some 113), .move (.tmp 8), (some (111, true)), [], true⟩,
    ⟨(some 114), .call (.const (.func (.func 16) #[] #[])) [(.tmp 112), (.tmp 113)], (some (111, true)), [], true⟩,
    ⟨(some 115), .un .not (.tmp 114), (some (111, true)), [], true⟩,
    ⟨(some 116), .pick (.tmp 111) (.tmp 115) (.const (.bool false)), none, [], true⟩,
    ⟨(some 0), .move (.tmp 116), none, [], true⟩])
  .ret))))))))))) }
theorem ir8_eq : funcC Try.prog 8 = some ir8 := by kernel_rfl
/-- wagonway/shelf.Read -/
def ir9 : IFunc :=
{ ntmps := 65, results := [.tmp 2, .tmp 3], body :=
  (.seq (.region [
    ⟨(some 2), .move (.const (.pointer none)), none, [], true⟩,
    ⟨(some 3), .move (.const (.int .i64 0)), none, [], true⟩])
  (.seq (.region [
    ⟨(some 7), .build [(.map none)] [], none, [], true⟩,
    ⟨(some 8), .box (.tmp 7), none, [], true⟩,
    ⟨(some 4), .move (.tmp 8), none, [], true⟩])
  (.seq (.seq (.region [
    ⟨(some 9), .move (.tmp 0), none, [], true⟩,
    ⟨(some 5), .move (.tmp 9), none, [], true⟩])
  (.block 0 (.loop (.seq (.seq (.region [
    ⟨(some 10), .move (.tmp 5), none, [], true⟩,
    ⟨(some 11), .lenSlice (.tmp 10), none, [], true⟩,
    ⟨(some 12), .bin .gtr (.tmp 11) (.const (.int .i64 0)), none, [], true⟩])
  (.cond (.tmp 12)
   .skip
   (.exit 0)))
  (.block 1 (.seq (.seq (.region [
    ⟨(some 13), .move (.tmp 5), none, [], true⟩,
    ⟨(some 14), .lenSlice (.tmp 13), none, [], true⟩,
    ⟨(some 15), .bin .lss (.tmp 14) (.const (.int .i64 5)), none, [], true⟩])
  (.cond (.tmp 15)
   (.seq (.region [
     ⟨(some 2), .move (.const (.pointer none)), none, [], true⟩,
     ⟨(some 3), .move (.const (.int .i64 131)), none, [], true⟩])
   .ret)
   .skip))
  (.seq (.drawn [
    ⟨(some 16), .move (.tmp 5), none, [], false⟩,
    ⟨(some 17), .indexAddr 1 (.tmp 16) (.const (.int .i64 3)), none, [0], false⟩,
    ⟨(some 18), .load none (.tmp 17), none, [1, 0], false⟩,
    ⟨(some 19), .conv .i64 (.tmp 18), none, [2, 1, 0], false⟩,
    ⟨(some 20), .bin .shl (.tmp 19) (.const (.int .u64 8)), none, [3, 2, 1, 0], false⟩,
    ⟨(some 21), .move (.tmp 5), none, [], false⟩,
    ⟨(some 22), .indexAddr 1 (.tmp 21) (.const (.int .i64 4)), none, [5], false⟩,
    ⟨(some 23), .load none (.tmp 22), none, [6, 5], false⟩,
    ⟨(some 24), .conv .i64 (.tmp 23), none, [7, 6, 5], false⟩,
    ⟨(some 25), .bin .or (.tmp 20) (.tmp 24), none, [4, 8, 3, 2, 1, 0, 7, 6, 5], true⟩,
    ⟨(some 6), .move (.tmp 25), none, [9, 0, 1, 2, 3, 4, 5, 6, 7, 8], true⟩])
  (.seq (.seq (.drawn [
    ⟨(some 26), .move (.tmp 6), none, [], true⟩,
    ⟨(some 27), .move (.tmp 5), none, [], true⟩,
    ⟨(some 28), .lenSlice (.tmp 27), none, [1], true⟩,
    ⟨(some 29), .bin .sub (.tmp 28) (.const (.int .i64 5)), none, [2, 1], true⟩,
    ⟨(some 30), .bin .gtr (.tmp 26) (.tmp 29), none, [0, 3, 2, 1], true⟩,
    ⟨(some 31), .move (.tmp 30), none, [4, 0, 3, 2, 1], true⟩,
    ⟨(some 32), .move (.tmp 4), (some (31, false)), [5, 4, 0, 3, 2, 1], false⟩,
    ⟨(some 33), .move (.tmp 5), (some (31, false)), [5, 4, 0, 3, 2, 1], false⟩,
    ⟨(some 34), .indexAddr 1 (.tmp 33) (.const (.int .i64 0)), (some (31, false)), [7, 5, 4, 0, 3, 2, 1], false⟩,
    ⟨(some 35), .load none (.tmp 34), (some (31, false)), [8, 5, 7, 4, 0, 3, 2, 1], false⟩,
    ⟨(some 36), .conv .i64 (.tmp 35), (some (31, false)), [9, 5, 8, 7, 4, 0, 3, 2, 1], false⟩,
    ⟨(some 37), .move (.tmp 5), (some (31, false)), [5, 4, 0, 3, 2, 1], false⟩,
    ⟨(some 38), .indexAddr 1 (.tmp 37) (.const (.int .i64 1)), (some (31, false)), [11, 5, 4, 0, 3, 2, 1], false⟩,
    ⟨(some 39), .load none (.tmp 38), (some (31, false)), [12, 5, 11, 4, 0, 3, 2, 1], false⟩,
    ⟨(some 40), .conv .i64 (.tmp 39), (some (31, false)), [13, 5, 12, 11, 4, 0, 3, 2, 1], false⟩,
    ⟨(some 41), .bin .shl (.tmp 40) (.const (.int .u64 8)), (some (31, false)), [14, 5, 13, 12, 11, 4, 0, 3, 2, 1], false⟩,
    ⟨(some 42), .move (.tmp 5), (some (31, false)), [5, 4, 0, 3, 2, 1], false⟩,
    ⟨(some 43), .indexAddr 1 (.tmp 42) (.const (.int .i64 2)), (some (31, false)), [16, 5, 4, 0, 3, 2, 1], false⟩,
    ⟨(some 44), .load none (.tmp 43), (some (31, false)), [17, 5, 16, 4, 0, 3, 2, 1], false⟩,
    ⟨(some 45), .conv .i64 (.tmp 44), (some (31, false)), [18, 5, 17, 16, 4, 0, 3, 2, 1], false⟩,
    ⟨(some 46), .bin .or (.tmp 41) (.tmp 45), (some (31, false)), [15, 19, 5, 14, 13, 12, 11, 4, 0, 3, 2, 1, 18, 17, 16], false⟩,
    ⟨(some 47), .move (.tmp 5), (some (31, false)), [5, 4, 0, 3, 2, 1], false⟩,
    ⟨(some 48), .move (.tmp 6), (some (31, false)), [5, 4, 0, 3, 2, 1], false⟩,
    ⟨(some 49), .bin .add (.const (.int .i64 5)) (.tmp 48), (some (31, false)), [22, 5, 4, 0, 3, 2, 1], false⟩,
    ⟨(some 50), .slice 1 (.tmp 47) (some (.const (.int .i64 5))) (some (.tmp 49)) none, (some (31, false)), [21, 23, 5, 4, 0, 3, 2, 1, 22], false⟩,
    ⟨(some 51), .build [(.int .i64 0), (.int .i64 0), (.slice none 0 0)] [(0, 1, (.tmp 36)), (1, 1, (.tmp 46)), (2, 1, (.tmp 50))], (some (31, false)), [10, 20, 24, 5, 9, 8, 7, 4, 0, 3, 2, 1, 15, 19, 14, 13, 12, 11, 18, 17, 16, 21, 23, 22], true⟩,
    ⟨(some 52), .call (.const (.func (.func 18) #[] #[])) [(.tmp 32), (.tmp 51)], (some (31, false)), [6, 25, 5, 4, 0, 3, 2, 1, 10, 20, 24, 9, 8, 7, 15, 19, 14, 13, 12, 11, 18, 17, 16, 21, 23, 22], true⟩,
    ⟨(some 53), .bin .neq (.tmp 52) (.const (.int .i64 0)), (some (31, false)), [26, 5, 6, 25, 4, 0, 3, 2, 1, 10, 20, 24, 9, 8, 7, 15, 19, 14, 13, 12, 11, 18, 17, 16, 21, 23, 22], true⟩,
    ⟨(some 54), .pick (.tmp 31) (.const (.bool true)) (.tmp 53), none, [5, 27, 4, 0, 3, 2, 1, 26, 6, 25, 10, 20, 24, 9, 8, 7, 15, 19, 14, 13, 12, 11, 18, 17, 16, 21, 23, 22], true⟩])
  (.cond (.tmp 54)
   (.seq (.region [
     ⟨(some 2), .move (.const (.pointer none)), none, [], true⟩,
     ⟨(some 3), .move (.const (.int .i64 131)), none, [], true⟩])
   .ret)
   .skip))
  (.region [
    ⟨(some 55), .move (.tmp 5), none, [], true⟩,
    ⟨(some 56), .move (.tmp 6), none, [], true⟩,
    ⟨(some 57), .bin .add (.const (.int .i64 5)) (.tmp 56), none, [], true⟩,
    ⟨(some 58), .slice 1 (.tmp 55) (some (.tmp 57)) none none, none, [], true⟩,
    ⟨(some 5), .move (.tmp 58), none, [], true⟩])))))))))
  (.seq (.seq (.region [
    ⟨(some 59), .move (.tmp 4), none, [], true⟩,
    ⟨(some 60), .call (.const (.func (.func 25) #[] #[])) [(.tmp 59)], none, [], true⟩,
    ⟨(some 61), .move (.tmp 0), none, [], true⟩,
    ⟨(some 62), .call (.const (.func (.func 27) #[] #[])) [(.tmp 60), (.tmp 61)], none, [], true⟩,
    ⟨(some 63), .un .not (.tmp 62), none, [], true⟩])
  (.cond (.tmp 63)
   (.seq (.region [
     ⟨(some 2), .move (.const (.pointer none)), none, [], true⟩,
     ⟨(some 3), .move (.const (.int .i64 131)), none, [], true⟩])
   .ret)
   .skip))
  (.seq (.region [
    ⟨(some 64), .move (.tmp 4), none, [], true⟩,
    ⟨(some 2), .move (.tmp 64), none, [], true⟩,
    ⟨(some 3), .move (.const (.int .i64 0)), none, [], true⟩])
  .ret))))) }
theorem ir9_eq : funcC Try.prog 9 = some ir9 := by kernel_rfl
/-- wagonway/wagonwayref13.Read -/
def ir10 : IFunc :=
{ ntmps := 108, results := [.tmp 2, .tmp 3], body :=
  (.seq (.region [
    ⟨(some 2), .move (.const (.slice none 0 0)), none, [], true⟩,
    ⟨(some 3), .move (.const (.int .i64 0)), none, [], true⟩])
  (.seq (.region [
    ⟨(some 4), .move (.const (.slice none 0 0)), none, [], true⟩])
  (.seq (.region [
    ⟨(some 5), .move (.const (.int .i64 0)), none, [], true⟩])
  (.seq (.block 0 (.loop (.seq (.seq (.region [
    ⟨(some 8), .move (.tmp 5), none, [], true⟩,
    ⟨(some 9), .move (.tmp 0), none, [], true⟩,
    ⟨(some 10), .lenSlice (.tmp 9), none, [], true⟩,
    ⟨(some 11), .bin .lss (.tmp 8) (.tmp 10), none, [], true⟩])
  (.cond (.tmp 11)
   .skip
   (.exit 0)))
  (.block 1 (.seq (.seq (.region [
    ⟨(some 12), .move (.tmp 0), none, [], true⟩,
    ⟨(some 13), .lenSlice (.tmp 12), none, [], true⟩,
    ⟨(some 14), .move (.tmp 5), none, [], true⟩,
    ⟨(some 15), .bin .sub (.tmp 13) (.tmp 14), none, [], true⟩,
    ⟨(some 16), .bin .lss (.tmp 15) (.const (.int .i64 5)), none, [], true⟩])
  (.cond (.tmp 16)
   (.seq (.region [
     ⟨(some 2), .move (.const (.slice none 0 0)), none, [], true⟩,
     ⟨(some 3), .move (.const (.int .i64 131)), none, [], true⟩])
   .ret)
   .skip))
  (.seq (.drawn [
    ⟨(some 17), .move (.tmp 0), none, [], false⟩,
    ⟨(some 18), .move (.tmp 5), none, [], false⟩,
    ⟨(some 19), .indexAddr 1 (.tmp 17) (.tmp 18), none, [0, 1], false⟩,
    ⟨(some 20), .load none (.tmp 19), none, [2, 0, 1], false⟩,
    ⟨(some 21), .conv .i64 (.tmp 20), none, [3, 2, 0, 1], false⟩,
    ⟨(some 22), .move (.tmp 0), none, [], false⟩,
    ⟨(some 23), .move (.tmp 5), none, [], false⟩,
    ⟨(some 24), .bin .add (.tmp 23) (.const (.int .i64 1)), none, [6], false⟩,
    ⟨(some 25), .indexAddr 1 (.tmp 22) (.tmp 24), none, [5, 7, 6], false⟩,
    ⟨(some 26), .load none (.tmp 25), none, [8, 5, 7, 6], false⟩,
    ⟨(some 27), .conv .i64 (.tmp 26), none, [9, 8, 5, 7, 6], false⟩,
    ⟨(some 28), .bin .mul (.tmp 27) (.const (.int .i64 256)), none, [10, 9, 8, 5, 7, 6], false⟩,
    ⟨(some 29), .move (.tmp 0), none, [], false⟩,
    ⟨(some 30), .move (.tmp 5), none, [], false⟩,
    ⟨(some 31), .bin .add (.tmp 30) (.const (.int .i64 2)), none, [13], false⟩,
    ⟨(some 32), .indexAddr 1 (.tmp 29) (.tmp 31), none, [12, 14, 13], false⟩,
    ⟨(some 33), .load none (.tmp 32), none, [15, 12, 14, 13], false⟩,
    ⟨(some 34), .conv .i64 (.tmp 33), none, [16, 15, 12, 14, 13], false⟩,
    ⟨(some 35), .bin .add (.tmp 28) (.tmp 34), none, [11, 17, 10, 9, 8, 5, 7, 6, 16, 15, 12, 14, 13], false⟩,
    ⟨(some 36), .build [(.int .i64 0), (.int .i64 0), (.slice none 0 0)] [(0, 1, (.tmp 21)), (1, 1, (.tmp 35))], none, [4, 18, 3, 2, 0, 1, 11, 17, 10, 9, 8, 5, 7, 6, 16, 15, 12, 14, 13], false⟩,
    ⟨(some 6), .box (.const (.agg #[(.int .i64 0), (.int .i64 0), (.slice none 0 0)])), none, [], false⟩,
    ⟨none, .store 3 (.tmp 6) (.tmp 36), none, [20, 19, 0, 1, 2, 3, 4, 5, 6, 7, 8, 9, 10, 11, 12, 13, 14, 15, 16, 17, 18], true⟩])
  (.seq (.drawn [
    ⟨(some 37), .move (.tmp 0), none, [], false⟩,
    ⟨(some 38), .move (.tmp 5), none, [], false⟩,
    ⟨(some 39), .bin .add (.tmp 38) (.const (.int .i64 3)), none, [1], false⟩,
    ⟨(some 40), .indexAddr 1 (.tmp 37) (.tmp 39), none, [0, 2, 1], false⟩,
    ⟨(some 41), .load none (.tmp 40), none, [3, 0, 2, 1], false⟩,
    ⟨(some 42), .conv .i64 (.tmp 41), none, [4, 3, 0, 2, 1], false⟩,
    ⟨(some 43), .bin .mul (.tmp 42) (.const (.int .i64 256)), none, [5, 4, 3, 0, 2, 1], false⟩,
    ⟨(some 44), .move (.tmp 0), none, [], false⟩,
    ⟨(some 45), .move (.tmp 5), none, [], false⟩,
    ⟨(some 46), .bin .add (.tmp 45) (.const (.int .i64 4)), none, [8], false⟩,
    ⟨(some 47), .indexAddr 1 (.tmp 44) (.tmp 46), none, [7, 9, 8], false⟩,
    ⟨(some 48), .load none (.tmp 47), none, [10, 7, 9, 8], false⟩,
    ⟨(some 49), .conv .i64 (.tmp 48), none, [11, 10, 7, 9, 8], false⟩,
    ⟨(some 50), .bin .add (.tmp 43) (.tmp 49), none, [6, 12, 5, 4, 3, 0, 2, 1, 11, 10, 7, 9, 8], true⟩,
    ⟨(some 7), .move (.tmp 50), none, [13, 0, 1, 2, 3, 4, 5, 6, 7, 8, 9, 10, 11, 12], true⟩])
  (.seq (.region [
    ⟨(some 51), .move (.tmp 5), none, [], true⟩,
    ⟨(some 52), .bin .add (.tmp 51) (.const (.int .i64 5)), none, [], true⟩,
    ⟨(some 5), .move (.tmp 52), none, [], true⟩])
  (.seq (.seq (.drawn [
    ⟨(some 53), .move (.tmp 7), none, [], true⟩,
    ⟨(some 54), .bin .eql (.tmp 53) (.const (.int .i64 0)), none, [0], true⟩,
    ⟨(some 55), .move (.tmp 54), none, [1, 0], true⟩,
    ⟨(some 56), .move (.tmp 7), (some (55, false)), [2, 1, 0], true⟩,
    ⟨(some 57), .move (.tmp 0), (some (55, false)), [2, 1, 0], true⟩,
    ⟨(some 58), .lenSlice (.tmp 57), (some (55, false)), [4, 2, 1, 0], true⟩,
    ⟨(some 59), .move (.tmp 5), (some (55, false)), [2, 1, 0], true⟩,
    ⟨(some 60), .bin .sub (.tmp 58) (.tmp 59), (some (55, false)), [5, 6, 2, 4, 1, 0], true⟩,
    ⟨(some 61), .bin .gtr (.tmp 56) (.tmp 60), (some (55, false)), [3, 7, 2, 1, 0, 5, 6, 4], true⟩,
    ⟨(some 62), .pick (.tmp 55) (.const (.bool true)) (.tmp 61), none, [2, 8, 1, 0, 3, 7, 5, 6, 4], true⟩,
    ⟨(some 63), .move (.tmp 62), none, [9, 2, 8, 1, 0, 3, 7, 5, 6, 4], true⟩,
    ⟨(some 64), .move (.tmp 7), (some (63, false)), [10, 9, 2, 8, 1, 0, 3, 7, 5, 6, 4], true⟩,
    ⟨(some 65), .bin .gtr (.tmp 64) (.const (.int .i64 1024)), (some (63, false)), [11, 10, 9, 2, 8, 1, 0, 3, 7, 5, 6, 4], true⟩,
    ⟨(some 66), .pick (.tmp 63) (.const (.bool true)) (.tmp 65), none, [10, 12, 9, 2, 8, 1, 0, 3, 7, 5, 6, 4, 11], true⟩,
    ⟨(some 67), .move (.tmp 66), none, [13, 10, 12, 9, 2, 8, 1, 0, 3, 7, 5, 6, 4, 11], true⟩,
    ⟨(some 68), .fieldAddr 1 (.tmp 6), (some (67, false)), [14, 13, 10, 12, 9, 2, 8, 1, 0, 3, 7, 5, 6, 4, 11], true⟩,
    ⟨(some 69), .load none (.tmp 68), (some (67, false)), [15, 14, 13, 10, 12, 9, 2, 8, 1, 0, 3, 7, 5, 6, 4, 11], true⟩,
    ⟨(some 70), .bin .gtr (.tmp 69) (.const (.int .i64 1024)), (some (67, false)), [16, 14, 15, 13, 10, 12, 9, 2, 8, 1, 0, 3, 7, 5, 6, 4, 11], true⟩,
    ⟨(some 71), .pick (.tmp 67) (.const (.bool true)) (.tmp 70), none, [14, 17, 13, 10, 12, 9, 2, 8, 1, 0, 3, 7, 5, 6, 4, 11, 16, 15], true⟩,
    ⟨(some 72), .move (.tmp 71), none, [18, 14, 17, 13, 10, 12, 9, 2, 8, 1, 0, 3, 7, 5, 6, 4, 11, 16, 15], true⟩,
    ⟨(some 73), .move (.tmp 4), (some (72, false)), [19, 18, 14, 17, 13, 10, 12, 9, 2, 8, 1, 0, 3, 7, 5, 6, 4, 11, 16, 15], true⟩,
    ⟨(some 74), .lenSlice (.tmp 73), (some (72, false)), [20, 19, 18, 14, 17, 13, 10, 12, 9, 2, 8, 1, 0, 3, 7, 5, 6, 4, 11, 16, 15], true⟩,
    ⟨(some 75), .bin .gtr (.tmp 74) (.const (.int .i64 0)), (some (72, false)), [21, 19, 20, 18, 14, 17, 13, 10, 12, 9, 2, 8, 1, 0, 3, 7, 5, 6, 4, 11, 16, 15], true⟩,
    ⟨(some 76), .move (.tmp 75), (some (72, false)), [22, 19, 21, 20, 18, 14, 17, 13, 10, 12, 9, 2, 8, 1, 0, 3, 7, 5, 6, 4, 11, 16, 15], true⟩,
    ⟨(some 77), .move (.tmp 4), (some (76, true)), [23, 22, 19, 21, 20, 18, 14, 17, 13, 10, 12, 9, 2, 8, 1, 0, 3, 7, 5, 6, 4, 11, 16, 15], false⟩,
    ⟨(some 78), .move (.tmp 4), (some (76, true)), [23, 22, 19, 21, 20, 18, 14, 17, 13, 10, 12, 9, 2, 8, 1, 0, 3, 7, 5, 6, 4, 11, 16, 15], false⟩,
    ⟨(some 79), .lenSlice (.tmp 78), (some (76, true)), [25, 23, 22, 19, 21, 20, 18, 14, 17, 13, 10, 12, 9, 2, 8, 1, 0, 3, 7, 5, 6, 4, 11, 16, 15], false⟩,
    ⟨(some 80), .bin .sub (.tmp 79) (.const (.int .i64 1)), (some (76, true)), [26, 23, 25, 22, 19, 21, 20, 18, 14, 17, 13, 10, 12, 9, 2, 8, 1, 0, 3, 7, 5, 6, 4, 11, 16, 15], false⟩,
    ⟨(some 81), .indexAddr 3 (.tmp 77) (.tmp 80), (some (76, true)), [24, 27, 23, 22, 19, 21, 20, 18, 14, 17, 13, 10, 12, 9, 2, 8, 1, 0, 3, 7, 5, 6, 4, 11, 16, 15, 26, 25], false⟩,
    ⟨(some 82), .load (some 3) (.tmp 81), (some (76, true)), [28, 23, 24, 27, 22, 19, 21, 20, 18, 14, 17, 13, 10, 12, 9, 2, 8, 1, 0, 3, 7, 5, 6, 4, 11, 16, 15, 26, 25], false⟩,
    ⟨(some 83), .load (some 3) (.tmp 6), (some (76, true)), [23, 22, 19, 21, 20, 18, 14, 17, 13, 10, 12, 9, 2, 8, 1, 0, 3, 7, 5, 6, 4, 11, 16, 15], false⟩,
    ⟨(some 84), .call (.const (.func (.func 28) #[] #[])) [(.tmp 82), (.tmp 83)], (some (76, true)), [29, 30, 23, 28, 24, 27, 22, 19, 21, 20, 18, 14, 17, 13, 10, 12, 9, 2, 8, 1, 0, 3, 7, 5, 6, 4, 11, 16, 15, 26, 25], true⟩,
    ⟨(some 85), .un .not (.tmp 84), (some (76, true)), [31, 23, 29, 30, 28, 24, 27, 22, 19, 21, 20, 18, 14, 17, 13, 10, 12, 9, 2, 8, 1, 0, 3, 7, 5, 6, 4, 11, 16, 15, 26, 25], true⟩,
    ⟨(some 86), .pick (.tmp 76) (.tmp 85) (.const (.bool false)), (some (72, false)), [23, 32, 19, 22, 21, 20, 18, 14, 17, 13, 10, 12, 9, 2, 8, 1, 0, 3, 7, 5, 6, 4, 11, 16, 15, 31, 29, 30, 28, 24, 27, 26, 25], true⟩,
    ⟨(some 87), .pick (.tmp 72) (.const (.bool true)) (.tmp 86), none, [19, 33, 18, 14, 17, 13, 10, 12, 9, 2, 8, 1, 0, 3, 7, 5, 6, 4, 11, 16, 15, 23, 32, 22, 21, 20, 31, 29, 30, 28, 24, 27, 26, 25], true⟩,
    ⟨(some 88), .move (.tmp 87), none, [34, 31, 19, 33, 18, 14, 17, 13, 10, 12, 9, 2, 8, 1, 0, 3, 7, 5, 6, 4, 11, 16, 15, 23, 32, 22, 21, 20, 29, 30, 28, 24, 27, 26, 25], true⟩,
    ⟨(some 89), .move (.tmp 4), (some (88, false)), [35, 34, 31, 19, 33, 18, 14, 17, 13, 10, 12, 9, 2, 8, 1, 0, 3, 7, 5, 6, 4, 11, 16, 15, 23, 32, 22, 21, 20, 29, 30, 28, 24, 27, 26, 25], true⟩,
    ⟨(some 90), .lenSlice (.tmp 89), (some (88, false)), [36, 35, 34, 31, 19, 33, 18, 14, 17, 13, 10, 12, 9, 2, 8, 1, 0, 3, 7, 5, 6, 4, 11, 16, 15, 23, 32, 22, 21, 20, 29, 30, 28, 24, 27, 26, 25], true⟩,
    ⟨(some 91), .bin .geq (.tmp 90) (.const (.int .i64 4096)), (some (88, false)), [37, 35, 36, 34, 31, 19, 33, 18, 14, 17, 13, 10, 12, 9, 2, 8, 1, 0, 3, 7, 5, 6, 4, 11, 16, 15, 23, 32, 22, 21, 20, 29, 30, 28, 24, 27, 26, 25], true⟩,
    ⟨(some 92), .pick (.tmp 88) (.const (.bool true)) (.tmp 91), none, [35, 38, 34, 31, 19, 33, 18, 14, 17, 13, 10, 12, 9, 2, 8, 1, 0, 3, 7, 5, 6, 4, 11, 16, 15, 23, 32, 22, 21, 20, 29, 30, 28, 24, 27, 26, 25, 37, 36], true⟩])
  (.cond (.tmp 92)
   (.seq (.region [
     ⟨(some 2), .move (.const (.slice none 0 0)), none, [], true⟩,
     ⟨(some 3), .move (.const (.int .i64 131)), none, [], true⟩])
   .ret)
   .skip))
  (.seq (.region [
    ⟨(some 93), .move (.tmp 0), none, [], true⟩,
    ⟨(some 94), .move (.tmp 5), none, [], true⟩,
    ⟨(some 95), .move (.tmp 5), none, [], true⟩,
    ⟨(some 96), .move (.tmp 7), none, [], true⟩,
    ⟨(some 97), .bin .add (.tmp 95) (.tmp 96), none, [], true⟩,
    ⟨(some 98), .slice 1 (.tmp 93) (some (.tmp 94)) (some (.tmp 97)) none, none, [], true⟩,
    ⟨(some 99), .fieldAddr 2 (.tmp 6), none, [], true⟩,
    ⟨none, .store 1 (.tmp 99) (.tmp 98), none, [], true⟩])
  (.seq (.region [
    ⟨(some 100), .move (.tmp 5), none, [], true⟩,
    ⟨(some 101), .move (.tmp 7), none, [], true⟩,
    ⟨(some 102), .bin .add (.tmp 100) (.tmp 101), none, [], true⟩,
    ⟨(some 5), .move (.tmp 102), none, [], true⟩])
  (.region [
    ⟨(some 103), .move (.tmp 4), none, [], true⟩,
    ⟨(some 104), .load (some 3) (.tmp 6), none, [], true⟩,
    ⟨(some 105), .buildSlice 3 1 [(.int .i64 0), (.int .i64 0), (.slice none 0 0)] [(0, (.tmp 104))], none, [], true⟩,
    ⟨(some 106), .append 3 40 (.tmp 103) (.tmp 105), none, [], true⟩,
    ⟨(some 4), .move (.tmp 106), none, [], true⟩]))))))))))))
  (.seq (.region [
    ⟨(some 107), .move (.tmp 4), none, [], true⟩,
    ⟨(some 2), .move (.tmp 107), none, [], true⟩,
    ⟨(some 3), .move (.const (.int .i64 0)), none, [], true⟩])
  .ret))))) }
theorem ir10_eq : funcC Try.prog 10 = some ir10 := by kernel_rfl
/-- wagonway/wagonwayref13.Same -/
def ir11 : IFunc :=
{ ntmps := 19, results := [.tmp 4], body :=
  (.seq (.region [
    ⟨(some 4), .move (.const (.bool false)), none, [], true⟩])
  (.seq (.drawn [
    ⟨(some 5), .move (.tmp 0), none, [], true⟩,
    ⟨(some 6), .lenSlice (.tmp 5), none, [0], true⟩,
    ⟨(some 7), .move (.tmp 1), none, [], true⟩,
    ⟨(some 8), .lenSlice (.tmp 7), none, [2], true⟩,
    ⟨(some 9), .bin .eql (.tmp 6) (.tmp 8), none, [1, 3, 0, 2], true⟩,
    ⟨(some 10), .move (.tmp 9), none, [4, 1, 3, 0, 2], true⟩,
    ⟨(some 11), .move (.tmp 0), (some (10, true)), [5, 4, 1, 3, 0, 2], true⟩,
    ⟨(some 12), .call (.const (.func (.func 26) #[] #[])) [(.tmp 11)], (some (10, true)), [6, 5, 4, 1, 3, 0, 2], true⟩,
    ⟨(some 13), .bytesStr (.tmp 12), (some (10, true)), [7, 5, 6, 4, 1, 3, 0, 2], false⟩,
    ⟨(some 14), .move (.tmp 1), (some (10, true)), [5, 4, 1, 3, 0, 2], false⟩,
    ⟨(some 15), .call (.const (.func (.func 26) #[] #[])) [(.tmp 14)], (some (10, true)), [9, 7, 5, 4, 1, 3, 0, 2, 6], false⟩,
    ⟨(some 16), .bytesStr (.tmp 15), (some (10, true)), [10, 5, 9, 7, 4, 1, 3, 0, 2, 6], false⟩,
    ⟨(some 17), .bin .eql (.tmp 13) (.tmp 16), (some (10, true)), [8, 11, 5, 7, 6, 4, 1, 3, 0, 2, 10, 9], true⟩,
    ⟨(some 18), .pick (.tmp 10) (.tmp 17) (.const (.bool false)), none, [5, 12, 4, 1, 3, 0, 2, 8, 11, 7, 6, 10, 9], true⟩,
    ⟨(some 4), .move (.tmp 18), none, [13, 10, 0, 1, 2, 3, 4, 5, 6, 7, 8, 9, 11, 12], true⟩])
  .ret)) }
theorem ir11_eq : funcC Try.prog 11 = some ir11 := by kernel_rfl
/-- (*wagonway/shelf.Shelf).All -/
def ir12 : IFunc :=
{ ntmps := 15, results := [.tmp 2], body :=
  (.seq (.region [
    ⟨(some 1), .box (.tmp 0), none, [], true⟩,
    ⟨(some 2), .move (.const (.slice none 0 0)), none, [], true⟩])
  (.seq (.region [
    ⟨(some 3), .box (.const (.slice none 0 0)), none, [], true⟩])
  (.seq (.seq (.region [
    ⟨(some 5), .load none (.tmp 1), none, [], true⟩,
    ⟨(some 6), .call (.const (.func (.func 29) #[] #[])) [(.tmp 5)], none, [], true⟩])
  (.block 0 (.rangeFunc (.tmp 6) [7]
   (.region [
     ⟨(some 4), .box (.const (.agg #[(.int .i64 0), (.int .i64 0)])), none, [], true⟩,
     ⟨none, .store 2 (.tmp 4) (.tmp 7), none, [], true⟩])
   (.block 1 (.drawn [
     ⟨(some 8), .load none (.tmp 3), none, [], false⟩,
     ⟨(some 9), .load none (.tmp 1), none, [], false⟩,
     ⟨(some 10), .load (some 2) (.tmp 4), none, [], false⟩,
     ⟨(some 11), .call (.const (.func (.func 30) #[] #[])) [(.tmp 9), (.tmp 10)], none, [1, 2], false⟩,
     ⟨(some 12), .buildSlice 3 1 [(.int .i64 0), (.int .i64 0), (.slice none 0 0)] [(0, (.tmp 11))], none, [3, 1, 2], false⟩,
     ⟨(some 13), .append 3 40 (.tmp 8) (.tmp 12), none, [0, 4, 3, 1, 2], true⟩,
     ⟨none, .store 1 (.tmp 3) (.tmp 13), none, [5, 0, 1, 2, 3, 4], true⟩])))))
  (.seq (.region [
    ⟨(some 14), .load none (.tmp 3), none, [], true⟩,
    ⟨(some 2), .move (.tmp 14), none, [], true⟩])
  .ret)))) }
theorem ir12_eq : funcC Try.prog 12 = some ir12 := by kernel_rfl
/-- wagonway/wagonwaylaw13.alive -/
def ir13 : IFunc :=
{ ntmps := 51, results := [.tmp 0], body :=
  (.seq (.region [
    ⟨(some 0), .move (.const (.bool false)), none, [], true⟩])
  (.seq (.region [
    ⟨(some 8), .build [(.map none)] [], none, [], true⟩,
    ⟨(some 9), .box (.tmp 8), none, [], true⟩,
    ⟨(some 10), .call (.const (.func (.func 31) #[] #[])) [], none, [], true⟩,
    ⟨(some 11), .call (.const (.func (.func 15) #[] #[])) [(.tmp 9), (.tmp 10), (.const (.int .i64 3))], none, [], true⟩,
    ⟨(some 7), .move (.tmp 11), none, [], true⟩,
    ⟨(some 12), .extract (.tmp 7) 0, none, [], true⟩,
    ⟨(some 13), .extract (.tmp 7) 1, none, [], true⟩,
    ⟨(some 1), .move (.tmp 12), none, [], true⟩,
    ⟨(some 2), .move (.tmp 13), none, [], true⟩])
  (.seq (.region [
    ⟨(some 15), .build [(.map none)] [], none, [], true⟩,
    ⟨(some 16), .box (.tmp 15), none, [], true⟩,
    ⟨(some 17), .call (.const (.func (.func 31) #[] #[])) [], none, [], true⟩,
    ⟨(some 18), .call (.const (.func (.func 15) #[] #[])) [(.tmp 16), (.tmp 17), (.const (.int .i64 2))], none, [], true⟩,
    ⟨(some 14), .move (.tmp 18), none, [], true⟩,
    ⟨(some 19), .extract (.tmp 14) 0, none, [], true⟩,
    ⟨(some 20), .extract (.tmp 14) 1, none, [], true⟩,
    ⟨(some 3), .move (.tmp 19), none, [], true⟩,
    ⟨(some 4), .move (.tmp 20), none, [], true⟩])
  (.seq (.region [
    ⟨(some 22), .move (.tmp 3), none, [], true⟩,
    ⟨(some 23), .call (.const (.func (.func 17) #[] #[])) [(.tmp 22), (.const (.int .i64 1)), (.const (.int .i64 5))], none, [], true⟩,
    ⟨(some 21), .move (.tmp 23), none, [], true⟩,
    ⟨(some 24), .extract (.tmp 21) 0, none, [], true⟩,
    ⟨(some 25), .extract (.tmp 21) 1, none, [], true⟩,
    ⟨(some 5), .move (.tmp 24), none, [], true⟩,
    ⟨(some 6), .move (.tmp 25), none, [], true⟩])
  (.seq (.region [
    ⟨(some 26), .move (.tmp 2), none, [], true⟩,
    ⟨(some 27), .bin .eql (.tmp 26) (.const (.int .i64 0)), none, [], true⟩,
    ⟨(some 28), .move (.tmp 27), none, [], true⟩,
    ⟨(some 29), .move (.tmp 1), (some (28, true)), [], true⟩,
    ⟨(some 30), .call (.const (.func (.func 25) #[] #[])) [(.tmp 29)], (some (28, true)), [], true⟩,
    ⟨(some 31), .bytesStr (.tmp 30), (some (28, true)), [], true⟩,
    ⟨(some 32), .bin .eql (.tmp 31) (.const (.string ⟨#[1, 0, 2, 0, 1, 99]⟩)), (some (28, true)), [], true⟩,
    ⟨(some 33), .pick (.tmp 28) (.tmp 32) (.const (.bool false)), none, [], true⟩,
    ⟨(some 34), .move (.tmp 33), none, [], true⟩,
    ⟨(some 35), .move (.tmp 4), (some (34, true)), [], true⟩,
    ⟨(some 36), .bin .eql (.tmp 35) (.const (.int .i64 0)), (some (34, true)), [], true⟩,
    ⟨(some 37), .pick (.tmp 34) (.tmp 36) (.const (.bool false)), none, [], true⟩,
    ⟨(some 38), .move (.tmp 37), none, [], true⟩,
    ⟨(some 39), .move (.tmp 3), (some (38, true)), [], true⟩,
    ⟨(some 40), .call (.const (.func (.func 23) #[] #[])) [(.tmp 39)], (some (38, true)), [], true⟩,
    ⟨(some 41), .bin .eql (.tmp 40) (.const (.int .i64 2)), (some (38, true)), [], true⟩,
    ⟨(some 42), .pick (.tmp 38) (.tmp 41) (.const (.bool false)), none, [], true⟩,
    ⟨(some 43), .move (.tmp 42), none, [], true⟩,
    ⟨(some 44), .move (.tmp 6), (some (43, true)), [], true⟩,
    ⟨(some 45), .pick (.tmp 43) (.tmp 44) (.const (.bool false)), none, [], true⟩,
    ⟨(some 46), .move (.tmp 45), none, [], true⟩,
    ⟨(some 47), .move (.tmp 5), (some (46, true)), [], true⟩,
    ⟨(some 48), .bytesStr (.tmp 47), (some (46, true)), [], true⟩,
    ⟨(some 49), .bin .eql (.tmp 48) (.const (.string ⟨#[97, 98]⟩)), (some (46, true)), [], true⟩,
    ⟨(some 50), .pick (.tmp 46) (.tmp 49) (.const (.bool false)), none, [], true⟩,
    ⟨(some 0), .move (.tmp 50), none, [], true⟩])
  .ret))))) }
theorem ir13_eq : funcC Try.prog 13 = some ir13 := by kernel_rfl
/-- wagonway/wagonwayref13.Great -/
def ir14 : IFunc :=
{ ntmps := 22, results := [.tmp 2], body :=
  (.seq (.region [
    ⟨(some 2), .move (.const (.int .i64 0)), none, [], true⟩])
  (.seq (.region [
    ⟨(some 3), .move (.const (.int .i64 0)), none, [], true⟩])
  (.seq (.seq (.region [
    ⟨(some 4), .move (.const (.int .i64 0)), none, [], true⟩])
  (.block 0 (.loop (.seq (.seq (.region [
    ⟨(some 5), .move (.tmp 4), none, [], true⟩,
    ⟨(some 6), .move (.tmp 0), none, [], true⟩,
    ⟨(some 7), .lenSlice (.tmp 6), none, [], true⟩,
    ⟨(some 8), .bin .lss (.tmp 5) (.tmp 7), none, [], true⟩])
  (.cond (.tmp 8)
   .skip
   (.exit 0)))
  (.seq (.block 1 (.region [
    ⟨(some 11), .move (.tmp 3), none, [], true⟩,
    ⟨(some 12), .bin .add (.tmp 11) (.const (.int .i64 10)), none, [], true⟩,
    ⟨(some 13), .move (.tmp 0), none, [], true⟩,
    ⟨(some 14), .move (.tmp 4), none, [], true⟩,
    ⟨(some 15), .indexAddr 3 (.tmp 13) (.tmp 14), none, [], true⟩,
    ⟨(some 16), .fieldAddr 2 (.tmp 15), none, [], true⟩,
    ⟨(some 17), .load none (.tmp 16), none, [], true⟩,
    ⟨(some 18), .lenSlice (.tmp 17), none, [], true⟩,
    ⟨(some 19), .bin .add (.tmp 12) (.tmp 18), none, [], true⟩,
    ⟨(some 3), .move (.tmp 19), none, [], true⟩]))
  (.region [
    ⟨(some 9), .move (.tmp 4), none, [], true⟩,
    ⟨(some 10), .bin .add (.tmp 9) (.const (.int .i64 1)), none, [], true⟩,
    ⟨(some 4), .move (.tmp 10), none, [], true⟩]))))))
  (.seq (.seq (.region [
    ⟨(some 20), .move (.tmp 3), none, [], true⟩,
    ⟨(some 21), .bin .gtr (.tmp 20) (.const (.int .i64 4000)), none, [], true⟩])
  (.cond (.tmp 21)
   (.seq (.region [
     ⟨(some 2), .move (.const (.int .i64 1)), none, [], true⟩])
   .ret)
   .skip))
  (.seq (.region [
    ⟨(some 2), .move (.const (.int .i64 0)), none, [], true⟩])
  .ret))))) }
theorem ir14_eq : funcC Try.prog 14 = some ir14 := by kernel_rfl
/-- wagonway/shelf.Behind -/
def ir15 : IFunc :=
{ ntmps := 36, results := [.tmp 6, .tmp 7], body :=
  (.seq (.region [
    ⟨(some 6), .move (.const (.pointer none)), none, [], true⟩,
    ⟨(some 7), .move (.const (.int .i64 0)), none, [], true⟩])
  (.seq (.seq (.region [
    ⟨(some 12), .move (.tmp 0), none, [], true⟩,
    ⟨(some 13), .eqPtr false (.tmp 12) (.const (.pointer none)), none, [], true⟩])
  (.cond (.tmp 13)
   (.seq (.region [
     ⟨(some 6), .move (.const (.pointer none)), none, [], true⟩,
     ⟨(some 7), .move (.const (.int .i64 1)), none, [], true⟩])
   .ret)
   .skip))
  (.seq (.region [
    ⟨(some 14), .move (.tmp 0), none, [], true⟩,
    ⟨(some 15), .call (.const (.func (.func 19) #[] #[])) [(.tmp 14)], none, [], true⟩,
    ⟨(some 8), .move (.tmp 15), none, [], true⟩])
  (.seq (.seq (.region [
    ⟨(some 16), .move (.tmp 1), none, [], true⟩,
    ⟨(some 17), .move (.tmp 2), none, [], true⟩,
    ⟨(some 18), .move (.tmp 1), none, [], true⟩,
    ⟨(some 19), .lenSlice (.tmp 18), none, [], true⟩,
    ⟨(some 20), .minmax false [(.tmp 17), (.tmp 19)], none, [], true⟩,
    ⟨(some 21), .minmax true [(.const (.int .i64 0)), (.tmp 20)], none, [], true⟩,
    ⟨(some 22), .slice 3 (.tmp 16) none (some (.tmp 21)) none, none, [], true⟩,
    ⟨(some 23), .lenSlice (.tmp 22), none, [], true⟩,
    ⟨(some 24), .move (.const (.int .i64 0)), none, [], true⟩])
  (.block 0 (.loop (.seq (.region [
    ⟨(some 25), .bin .lss (.tmp 24) (.tmp 23), none, [], true⟩])
  (.seq (.cond (.tmp 25)
   .skip
   (.exit 0))
  (.seq (.block 1 (.seq (.region [
    ⟨(some 26), .indexAddr 3 (.tmp 22) (.tmp 24), none, [], true⟩,
    ⟨(some 27), .load (some 3) (.tmp 26), none, [], true⟩,
    ⟨(some 10), .box (.const (.agg #[(.int .i64 0), (.int .i64 0), (.slice none 0 0)])), none, [], true⟩,
    ⟨none, .store 3 (.tmp 10) (.tmp 27), none, [], true⟩])
  (.seq (.region [
    ⟨(some 28), .move (.tmp 8), none, [], true⟩,
    ⟨(some 29), .load (some 3) (.tmp 10), none, [], true⟩,
    ⟨(some 30), .call (.const (.func (.func 18) #[] #[])) [(.tmp 28), (.tmp 29)], none, [], true⟩,
    ⟨(some 11), .move (.tmp 30), none, [], true⟩])
  (.seq (.region [
    ⟨(some 31), .move (.tmp 11), none, [], true⟩,
    ⟨(some 32), .bin .neq (.tmp 31) (.const (.int .i64 0)), none, [], true⟩])
  (.cond (.tmp 32)
   (.seq (.region [
     ⟨(some 33), .move (.tmp 11), none, [], true⟩,
     ⟨(some 6), .move (.const (.pointer none)), none, [], true⟩,
     ⟨(some 7), .move (.tmp 33), none, [], true⟩])
   .ret)
   .skip)))))
  (.region [
    ⟨(some 34), .bin .add (.tmp 24) (.const (.int .i64 1)), none, [], true⟩,
    ⟨(some 24), .move (.tmp 34), none, [], true⟩])))))))
  (.seq (.region [
    ⟨(some 35), .move (.tmp 8), none, [], true⟩,
    ⟨(some 6), .move (.tmp 35), none, [], true⟩,
    ⟨(some 7), .move (.const (.int .i64 0)), none, [], true⟩])
  .ret))))) }
theorem ir15_eq : funcC Try.prog 15 = some ir15 := by kernel_rfl
/-- wagonway/shelf.Same -/
def ir16 : IFunc :=
{ ntmps := 10, results := [.tmp 4], body :=
  (.seq (.region [
    ⟨(some 4), .move (.const (.bool false)), none, [], true⟩])
  (.seq (.region [
    ⟨(some 5), .move (.tmp 0), none, [], true⟩,
    ⟨(some 6), .call (.const (.func (.func 25) #[] #[])) [(.tmp 5)], none, [], true⟩,
    ⟨(some 7), .move (.tmp 1), none, [], true⟩,
    ⟨(some 8), .call (.const (.func (.func 25) #[] #[])) [(.tmp 7)], none, [], true⟩,
    ⟨(some 9), .call (.const (.func (.func 27) #[] #[])) [(.tmp 6), (.tmp 8)], none, [], true⟩,
    ⟨(some 4), .move (.tmp 9), none, [], true⟩])
  .ret)) }
theorem ir16_eq : funcC Try.prog 16 = some ir16 := by kernel_rfl
/-- (*wagonway/shelf.Shelf).Get -/
def ir17 : IFunc :=
{ ntmps := 26, results := [.tmp 6, .tmp 7], body :=
  (.seq (.region [
    ⟨(some 6), .move (.const (.slice none 0 0)), none, [], true⟩,
    ⟨(some 7), .move (.const (.bool false)), none, [], true⟩])
  (.seq (.seq (.region [
    ⟨(some 10), .move (.tmp 0), none, [], true⟩,
    ⟨(some 11), .eqPtr false (.tmp 10) (.const (.pointer none)), none, [], true⟩])
  (.cond (.tmp 11)
   (.seq (.region [
     ⟨(some 6), .move (.const (.slice none 0 0)), none, [], true⟩,
     ⟨(some 7), .move (.const (.bool false)), none, [], true⟩])
   .ret)
   .skip))
  (.seq (.region [
    ⟨(some 13), .move (.tmp 0), none, [], true⟩,
    ⟨(some 14), .nilCheck (.tmp 13), none, [], true⟩,
    ⟨(some 15), .fieldAddr 0 (.tmp 14), none, [], true⟩,
    ⟨(some 16), .load none (.tmp 15), none, [], true⟩,
    ⟨(some 17), .move (.tmp 1), none, [], true⟩,
    ⟨(some 18), .move (.tmp 2), none, [], true⟩,
    ⟨(some 19), .build [(.int .i64 0), (.int .i64 0)] [(0, 1, (.tmp 17)), (1, 1, (.tmp 18))], none, [], true⟩,
    ⟨(some 20), .lookup (some [.int, .int]) (.slice none 0 0) true (.tmp 16) (.tmp 19), none, [], true⟩,
    ⟨(some 12), .move (.tmp 20), none, [], true⟩,
    ⟨(some 21), .extract (.tmp 12) 0, none, [], true⟩,
    ⟨(some 22), .extract (.tmp 12) 1, none, [], true⟩,
    ⟨(some 8), .move (.tmp 21), none, [], true⟩,
    ⟨(some 9), .move (.tmp 22), none, [], true⟩])
  (.seq (.region [
    ⟨(some 23), .move (.tmp 8), none, [], true⟩,
    ⟨(some 24), .call (.const (.func (.func 32) #[] #[])) [(.tmp 23)], none, [], true⟩,
    ⟨(some 25), .move (.tmp 9), none, [], true⟩,
    ⟨(some 6), .move (.tmp 24), none, [], true⟩,
    ⟨(some 7), .move (.tmp 25), none, [], true⟩])
  .ret)))) }
theorem ir17_eq : funcC Try.prog 17 = some ir17 := by kernel_rfl
/-- (*wagonway/shelf.Shelf).Write -/
def ir18 : IFunc :=
{ ntmps := 66, results := [.tmp 4], body :=
  (.seq (.region [
    ⟨(some 3), .box (.tmp 1), none, [], true⟩,
    ⟨(some 4), .move (.const (.int .i64 0)), none, [], true⟩])
  (.seq (.seq (.region [
    ⟨(some 9), .move (.tmp 0), none, [], true⟩,
    ⟨(some 10), .eqPtr false (.tmp 9) (.const (.pointer none)), none, [], true⟩])
  (.cond (.tmp 10)
   (.seq (.region [
     ⟨(some 4), .move (.const (.int .i64 1)), none, [], true⟩])
   .ret)
   .skip))
  (.seq (.seq (.region [
    ⟨(some 11), .load (some 3) (.tmp 3), none, [], true⟩,
    ⟨(some 12), .call (.const (.func (.func 20) #[] #[])) [(.tmp 11)], none, [], true⟩,
    ⟨(some 5), .move (.tmp 12), none, [], true⟩])
  (.seq (.region [
    ⟨(some 13), .move (.tmp 5), none, [], true⟩,
    ⟨(some 14), .bin .neq (.tmp 13) (.const (.int .i64 0)), none, [], true⟩])
  (.cond (.tmp 14)
   (.seq (.region [
     ⟨(some 15), .move (.tmp 5), none, [], true⟩,
     ⟨(some 4), .move (.tmp 15), none, [], true⟩])
   .ret)
   .skip)))
  (.seq (.region [
    ⟨(some 16), .fieldAddr 0 (.tmp 3), none, [], true⟩,
    ⟨(some 17), .load none (.tmp 16), none, [], true⟩,
    ⟨(some 18), .fieldAddr 1 (.tmp 3), none, [], true⟩,
    ⟨(some 19), .load none (.tmp 18), none, [], true⟩,
    ⟨(some 20), .build [(.int .i64 0), (.int .i64 0)] [(0, 1, (.tmp 17)), (1, 1, (.tmp 19))], none, [], true⟩,
    ⟨(some 6), .box (.const (.agg #[(.int .i64 0), (.int .i64 0)])), none, [], true⟩,
    ⟨none, .store 2 (.tmp 6) (.tmp 20), none, [], true⟩])
  (.seq (.seq (.region [
    ⟨(some 21), .fieldAddr 2 (.tmp 3), none, [], true⟩,
    ⟨(some 22), .load none (.tmp 21), none, [], true⟩,
    ⟨(some 23), .lenSlice (.tmp 22), none, [], true⟩,
    ⟨(some 24), .bin .eql (.tmp 23) (.const (.int .i64 0)), none, [], true⟩])
  (.cond (.tmp 24)
   (.seq (.drawn [
     ⟨(some 25), .move (.tmp 0), none, [], false⟩,
     ⟨(some 26), .nilCheck (.tmp 25), none, [0], false⟩,
     ⟨(some 27), .fieldAddr 0 (.tmp 26), none, [1, 0], false⟩,
     ⟨(some 28), .load none (.tmp 27), none, [2, 1, 0], false⟩,
     ⟨(some 29), .load (some 2) (.tmp 6), none, [], false⟩,
     ⟨none, .delete (some [.int, .int]) (.tmp 28) (.tmp 29), none, [3, 4, 2, 1, 0], true⟩])
   (.seq (.region [
     ⟨(some 4), .move (.const (.int .i64 0)), none, [], true⟩])
   .ret))
   .skip))
  (.seq (.seq (.drawn [
    ⟨(some 31), .move (.tmp 0), none, [], false⟩,
    ⟨(some 32), .nilCheck (.tmp 31), none, [0], false⟩,
    ⟨(some 33), .fieldAddr 0 (.tmp 32), none, [1, 0], false⟩,
    ⟨(some 34), .load none (.tmp 33), none, [2, 1, 0], false⟩,
    ⟨(some 35), .load (some 2) (.tmp 6), none, [], false⟩,
    ⟨(some 36), .lookup (some [.int, .int]) (.slice none 0 0) true (.tmp 34) (.tmp 35), none, [3, 4, 2, 1, 0], true⟩,
    ⟨(some 30), .move (.tmp 36), none, [5, 3, 4, 2, 1, 0], true⟩,
    ⟨(some 37), .extract (.tmp 30) 0, none, [6, 5, 3, 4, 2, 1, 0], true⟩,
    ⟨(some 38), .extract (.tmp 30) 1, none, [6, 5, 3, 4, 2, 1, 0], true⟩,
    ⟨(some 7), .move (.tmp 37), none, [7, 0, 1, 2, 3, 4, 5, 6], true⟩,
    ⟨(some 8), .move (.tmp 38), none, [8, 9, 0, 1, 2, 3, 4, 5, 6, 7], true⟩])
  (.seq (.region [
    ⟨(some 39), .move (.tmp 8), none, [], true⟩,
    ⟨(some 40), .un .not (.tmp 39), none, [], true⟩,
    ⟨(some 41), .move (.tmp 40), none, [], true⟩,
    ⟨(some 42), .move (.tmp 0), (some (41, true)), [], true⟩,
    ⟨(some 43), .nilCheck (.tmp 42), (some (41, true)), [], true⟩,
    ⟨(some 44), .fieldAddr 0 (.tmp 43), (some (41, true)), [], true⟩,
    ⟨(some 45), .load none (.tmp 44), (some (41, true)), [], true⟩,
    ⟨(some 46), .lenMap (.tmp 45), (some (41, true)), [], true⟩,
    ⟨(some 47), .bin .geq (.tmp 46) (.const (.int .i64 4096)), (some (41, true)), [], true⟩,
    ⟨(some 48), .pick (.tmp 41) (.tmp 47) (.const (.bool false)), none, [], true⟩])
  (.cond (.tmp 48)
   (.seq (.region [
     ⟨(some 4), .move (.const (.int .i64 131)), none, [], true⟩])
   .ret)
   .skip)))
  (.seq (.seq (.region [
    ⟨(some 49), .move (.tmp 0), none, [], true⟩,
    ⟨(some 50), .nilCheck (.tmp 49), none, [], true⟩,
    ⟨(some 51), .fieldAddr 0 (.tmp 50), none, [], true⟩,
    ⟨(some 52), .load none (.tmp 51), none, [], true⟩,
    ⟨(some 53), .eqMap false (.tmp 52) (.const (.map none)), none, [], true⟩])
  (.cond (.tmp 53)
   (.region [
     ⟨(some 54), .move (.tmp 0), none, [], true⟩,
     ⟨(some 55), .makeMap, none, [], true⟩,
     ⟨(some 56), .nilCheck (.tmp 54), none, [], true⟩,
     ⟨(some 57), .fieldAddr 0 (.tmp 56), none, [], true⟩,
     ⟨none, .store 1 (.tmp 57) (.tmp 55), none, [], true⟩])
   .skip))
  (.seq (.drawn [
    ⟨(some 58), .move (.tmp 0), none, [], false⟩,
    ⟨(some 59), .nilCheck (.tmp 58), none, [0], false⟩,
    ⟨(some 60), .fieldAddr 0 (.tmp 59), none, [1, 0], false⟩,
    ⟨(some 61), .load none (.tmp 60), none, [2, 1, 0], false⟩,
    ⟨(some 62), .load (some 2) (.tmp 6), none, [], false⟩,
    ⟨(some 63), .fieldAddr 2 (.tmp 3), none, [], false⟩,
    ⟨(some 64), .load none (.tmp 63), none, [5], false⟩,
    ⟨(some 65), .call (.const (.func (.func 32) #[] #[])) [(.tmp 64)], none, [6, 5], false⟩,
    ⟨none, .mapUpdate (some [.int, .int]) (.tmp 61) (.tmp 62) (.tmp 65), none, [3, 4, 7, 0, 1, 2, 5, 6], true⟩])
  (.seq (.region [
    ⟨(some 4), .move (.const (.int .i64 0)), none, [], true⟩])
  .ret))))))))) }
theorem ir18_eq : funcC Try.prog 18 = some ir18 := by kernel_rfl
/-- (*wagonway/shelf.Shelf).Copy -/
def ir19 : IFunc :=
{ ntmps := 22, results := [.tmp 2], body :=
  (.seq (.region [
    ⟨(some 2), .move (.const (.pointer none)), none, [], true⟩])
  (.seq (.seq (.region [
    ⟨(some 6), .move (.tmp 0), none, [], true⟩,
    ⟨(some 7), .eqPtr false (.tmp 6) (.const (.pointer none)), none, [], true⟩])
  (.cond (.tmp 7)
   (.seq (.region [
     ⟨(some 2), .move (.const (.pointer none)), none, [], true⟩])
   .ret)
   .skip))
  (.seq (.region [
    ⟨(some 8), .build [(.map none)] [], none, [], true⟩,
    ⟨(some 9), .box (.tmp 8), none, [], true⟩,
    ⟨(some 3), .move (.tmp 9), none, [], true⟩])
  (.seq (.seq (.region [
    ⟨(some 10), .move (.tmp 0), none, [], true⟩,
    ⟨(some 11), .call (.const (.func (.func 12) #[] #[])) [(.tmp 10)], none, [], true⟩,
    ⟨(some 12), .lenSlice (.tmp 11), none, [], true⟩,
    ⟨(some 13), .move (.const (.int .i64 0)), none, [], true⟩])
  (.block 0 (.loop (.seq (.region [
    ⟨(some 14), .bin .lss (.tmp 13) (.tmp 12), none, [], true⟩])
  (.seq (.cond (.tmp 14)
   .skip
   (.exit 0))
  (.seq (.block 1 (.seq (.region [
    ⟨(some 15), .indexAddr 3 (.tmp 11) (.tmp 13), none, [], true⟩,
    ⟨(some 16), .load (some 3) (.tmp 15), none, [], true⟩,
    ⟨(some 5), .box (.const (.agg #[(.int .i64 0), (.int .i64 0), (.slice none 0 0)])), none, [], true⟩,
    ⟨none, .store 3 (.tmp 5) (.tmp 16), none, [], true⟩])
  (.region [
    ⟨(some 17), .move (.tmp 3), none, [], true⟩,
    ⟨(some 18), .load (some 3) (.tmp 5), none, [], true⟩,
    ⟨(some 19), .call (.const (.func (.func 18) #[] #[])) [(.tmp 17), (.tmp 18)], none, [], true⟩])))
  (.region [
    ⟨(some 20), .bin .add (.tmp 13) (.const (.int .i64 1)), none, [], true⟩,
    ⟨(some 13), .move (.tmp 20), none, [], true⟩])))))))
  (.seq (.region [
    ⟨(some 21), .move (.tmp 3), none, [], true⟩,
    ⟨(some 2), .move (.tmp 21), none, [], true⟩])
  .ret))))) }
theorem ir19_eq : funcC Try.prog 19 = some ir19 := by kernel_rfl
/-- wagonway/shelf.Check -/
def ir20 : IFunc :=
{ ntmps := 27, results := [.tmp 2], body :=
  (.seq (.region [
    ⟨(some 1), .box (.tmp 0), none, [], true⟩,
    ⟨(some 2), .move (.const (.int .i64 0)), none, [], true⟩])
  (.seq (.seq (.region [
    ⟨(some 3), .fieldAddr 0 (.tmp 1), none, [], true⟩,
    ⟨(some 4), .load none (.tmp 3), none, [], true⟩,
    ⟨(some 5), .bin .lss (.tmp 4) (.const (.int .i64 0)), none, [], true⟩,
    ⟨(some 6), .move (.tmp 5), none, [], true⟩,
    ⟨(some 7), .fieldAddr 0 (.tmp 1), (some (6, false)), [], true⟩,
    ⟨(some 8), .load none (.tmp 7), (some (6, false)), [], true⟩,
    ⟨(some 9), .bin .gtr (.tmp 8) (.const (.int .i64 255)), (some (6, false)), [], true⟩,
    ⟨(some 10), .pick (.tmp 6) (.const (.bool true)) (.tmp 9), none, [], true⟩,
    ⟨(some 11), .move (.tmp 10), none, [], true⟩,
    ⟨(some 12), .fieldAddr 1 (.tmp 1), (some (11, false)), [], true⟩,
    ⟨(some 13), .load none (.tmp 12), (some (11, false)), [], true⟩,
    ⟨(some 14), .bin .lss (.tmp 13) (.const (.int .i64 0)), (some (11, false)), [], true⟩,
    ⟨(some 15), .pick (.tmp 11) (.const (.bool true)) (.tmp 14), none, [], true⟩,
    ⟨(some 16), .move (.tmp 15), none, [], true⟩,
    ⟨(some 17), .fieldAddr 1 (.tmp 1), (some (16, false)), [], true⟩,
    ⟨(some 18), .load none (.tmp 17), (some (16, false)), [], true⟩,
    ⟨(some 19), .bin .gtr (.tmp 18) (.const (.int .i64 1024)), (some (16, false)), [], true⟩,
    ⟨(some 20), .pick (.tmp 16) (.const (.bool true)) (.tmp 19), none, [], true⟩,
    ⟨(some 21), .move (.tmp 20), none, [], true⟩,
    ⟨(some 22), .fieldAddr 2 (.tmp 1), (some (21, false)), [], true⟩,
    ⟨(some 23), .load none (.tmp 22), (some (21, false)), [], true⟩,
    ⟨(some 24), .lenSlice (.tmp 23), (some (21, false)), [], true⟩,
    ⟨(some 25), .bin .gtr (.tmp 24) (.const (.int .i64 1024)), (some (21, false)), [], true⟩,
    ⟨(some 26), .pick (.tmp 21) (.const (.bool true)) (.tmp 25), none, [], true⟩])
  (.cond (.tmp 26)
   (.seq (.region [
     ⟨(some 2), .move (.const (.int .i64 130)), none, [], true⟩])
   .ret)
   .skip))
  (.seq (.region [
    ⟨(some 2), .move (.const (.int .i64 0)), none, [], true⟩])
  .ret))) }
theorem ir20_eq : funcC Try.prog 20 = some ir20 := by kernel_rfl
/-- wagonway/wagonwayref13.Write -/
def ir21 : IFunc :=
{ ntmps := 82, results := [.tmp 4, .tmp 5], body :=
  (.seq (.region [
    ⟨(some 3), .box (.tmp 1), none, [], true⟩,
    ⟨(some 4), .move (.const (.slice none 0 0)), none, [], true⟩,
    ⟨(some 5), .move (.const (.int .i64 0)), none, [], true⟩])
  (.seq (.region [
    ⟨(some 10), .load (some 3) (.tmp 3), none, [], true⟩,
    ⟨(some 11), .call (.const (.func (.func 22) #[] #[])) [(.tmp 10)], none, [], true⟩,
    ⟨(some 6), .move (.tmp 11), none, [], true⟩])
  (.seq (.seq (.region [
    ⟨(some 12), .move (.tmp 6), none, [], true⟩,
    ⟨(some 13), .bin .neq (.tmp 12) (.const (.int .i64 0)), none, [], true⟩])
  (.cond (.tmp 13)
   (.seq (.region [
     ⟨(some 14), .move (.tmp 0), none, [], true⟩,
     ⟨(some 15), .move (.tmp 6), none, [], true⟩,
     ⟨(some 4), .move (.tmp 14), none, [], true⟩,
     ⟨(some 5), .move (.tmp 15), none, [], true⟩])
   .ret)
   .skip))
  (.seq (.region [
    ⟨(some 7), .move (.const (.slice none 0 0)), none, [], true⟩])
  (.seq (.region [
    ⟨(some 16), .fieldAddr 2 (.tmp 3), none, [], true⟩,
    ⟨(some 17), .load none (.tmp 16), none, [], true⟩,
    ⟨(some 18), .lenSlice (.tmp 17), none, [], true⟩,
    ⟨(some 19), .bin .eql (.tmp 18) (.const (.int .i64 0)), none, [], true⟩,
    ⟨(some 8), .move (.tmp 19), none, [], true⟩])
  (.seq (.seq (.region [
    ⟨(some 9), .move (.const (.int .i64 0)), none, [], true⟩])
  (.block 0 (.loop (.seq (.seq (.region [
    ⟨(some 20), .move (.tmp 9), none, [], true⟩,
    ⟨(some 21), .move (.tmp 0), none, [], true⟩,
    ⟨(some 22), .lenSlice (.tmp 21), none, [], true⟩,
    ⟨(some 23), .bin .lss (.tmp 20) (.tmp 22), none, [], true⟩])
  (.cond (.tmp 23)
   .skip
   (.exit 0)))
  (.seq (.block 1 (.seq (.seq (.drawn [
    ⟨(some 26), .move (.tmp 8), none, [], true⟩,
    ⟨(some 27), .un .not (.tmp 26), none, [0], true⟩,
    ⟨(some 28), .move (.tmp 27), none, [1, 0], true⟩,
    ⟨(some 29), .load (some 3) (.tmp 3), (some (28, true)), [2, 1, 0], false⟩,
    ⟨(some 30), .move (.tmp 0), (some (28, true)), [2, 1, 0], false⟩,
    ⟨(some 31), .move (.tmp 9), (some (28, true)), [2, 1, 0], false⟩,
    ⟨(some 32), .indexAddr 3 (.tmp 30) (.tmp 31), (some (28, true)), [4, 5, 2, 1, 0], false⟩,
    ⟨(some 33), .load (some 3) (.tmp 32), (some (28, true)), [6, 2, 4, 5, 1, 0], false⟩,
    ⟨(some 34), .call (.const (.func (.func 28) #[] #[])) [(.tmp 29), (.tmp 33)], (some (28, true)), [3, 7, 2, 1, 0, 6, 4, 5], true⟩,
    ⟨(some 35), .pick (.tmp 28) (.tmp 34) (.const (.bool false)), none, [2, 8, 1, 0, 3, 7, 6, 4, 5], true⟩])
  (.cond (.tmp 35)
   (.seq (.region [
     ⟨(some 36), .move (.tmp 7), none, [], true⟩,
     ⟨(some 37), .load (some 3) (.tmp 3), none, [], true⟩,
     ⟨(some 38), .buildSlice 3 1 [(.int .i64 0), (.int .i64 0), (.slice none 0 0)] [(0, (.tmp 37))], none, [], true⟩,
     ⟨(some 39), .append 3 40 (.tmp 36) (.tmp 38), none, [], true⟩,
     ⟨(some 7), .move (.tmp 39), none, [], true⟩])
   (.region [
     ⟨(some 8), .move (.const (.bool true)), none, [], true⟩]))
   .skip))
  (.seq (.seq (.drawn [
    ⟨(some 40), .move (.tmp 0), none, [], false⟩,
    ⟨(some 41), .move (.tmp 9), none, [], false⟩,
    ⟨(some 42), .indexAddr 3 (.tmp 40) (.tmp 41), none, [0, 1], false⟩,
    ⟨(some 43), .fieldAddr 0 (.tmp 42), none, [2, 0, 1], false⟩,
    ⟨(some 44), .load none (.tmp 43), none, [3, 2, 0, 1], false⟩,
    ⟨(some 45), .fieldAddr 0 (.tmp 3), none, [], false⟩,
    ⟨(some 46), .load none (.tmp 45), none, [5], false⟩,
    ⟨(some 47), .bin .eql (.tmp 44) (.tmp 46), none, [4, 6, 3, 2, 0, 1, 5], true⟩,
    ⟨(some 48), .move (.tmp 47), none, [7, 4, 6, 3, 2, 0, 1, 5], true⟩,
    ⟨(some 49), .move (.tmp 0), (some (48, true)), [8, 7, 4, 6, 3, 2, 0, 1, 5], false⟩,
    ⟨(some 50), .move (.tmp 9), (some (48, true)), [8, 7, 4, 6, 3, 2, 0, 1, 5], false⟩,
    ⟨(some 51), .indexAddr 3 (.tmp 49) (.tmp 50), (some (48, true)), [9, 10, 8, 7, 4, 6, 3, 2, 0, 1, 5], false⟩,
    ⟨(some 52), .fieldAddr 1 (.tmp 51), (some (48, true)), [11, 8, 9, 10, 7, 4, 6, 3, 2, 0, 1, 5], false⟩,
    ⟨(some 53), .load none (.tmp 52), (some (48, true)), [12, 8, 11, 9, 10, 7, 4, 6, 3, 2, 0, 1, 5], false⟩,
    ⟨(some 54), .fieldAddr 1 (.tmp 3), (some (48, true)), [8, 7, 4, 6, 3, 2, 0, 1, 5], false⟩,
    ⟨(some 55), .load none (.tmp 54), (some (48, true)), [14, 8, 7, 4, 6, 3, 2, 0, 1, 5], false⟩,
    ⟨(some 56), .bin .eql (.tmp 53) (.tmp 55), (some (48, true)), [13, 15, 8, 12, 11, 9, 10, 7, 4, 6, 3, 2, 0, 1, 5, 14], true⟩,
    ⟨(some 57), .pick (.tmp 48) (.tmp 56) (.const (.bool false)), none, [8, 16, 7, 4, 6, 3, 2, 0, 1, 5, 13, 15, 12, 11, 9, 10, 14], true⟩])
  (.cond (.tmp 57)
   (.seq (.seq (.region [
     ⟨(some 58), .move (.tmp 8), none, [], true⟩,
     ⟨(some 59), .un .not (.tmp 58), none, [], true⟩])
   (.cond (.tmp 59)
    (.seq (.region [
      ⟨(some 60), .move (.tmp 7), none, [], true⟩,
      ⟨(some 61), .load (some 3) (.tmp 3), none, [], true⟩,
      ⟨(some 62), .buildSlice 3 1 [(.int .i64 0), (.int .i64 0), (.slice none 0 0)] [(0, (.tmp 61))], none, [], true⟩,
      ⟨(some 63), .append 3 40 (.tmp 60) (.tmp 62), none, [], true⟩,
      ⟨(some 7), .move (.tmp 63), none, [], true⟩])
    (.region [
      ⟨(some 8), .move (.const (.bool true)), none, [], true⟩]))
    .skip))
   (.exit 1))
   .skip))
  (.region [
    ⟨(some 64), .move (.tmp 7), none, [], true⟩,
    ⟨(some 65), .move (.tmp 0), none, [], true⟩,
    ⟨(some 66), .move (.tmp 9), none, [], true⟩,
    ⟨(some 67), .indexAddr 3 (.tmp 65) (.tmp 66), none, [], true⟩,
    ⟨(some 68), .load (some 3) (.tmp 67), none, [], true⟩,
    ⟨(some 69), .buildSlice 3 1 [(.int .i64 0), (.int .i64 0), (.slice none 0 0)] [(0, (.tmp 68))], none, [], true⟩,
    ⟨(some 70), .append 3 40 (.tmp 64) (.tmp 69), none, [], true⟩,
    ⟨(some 7), .move (.tmp 70), none, [], true⟩]))))
  (.region [
    ⟨(some 24), .move (.tmp 9), none, [], true⟩,
    ⟨(some 25), .bin .add (.tmp 24) (.const (.int .i64 1)), none, [], true⟩,
    ⟨(some 9), .move (.tmp 25), none, [], true⟩]))))))
  (.seq (.seq (.region [
    ⟨(some 71), .move (.tmp 8), none, [], true⟩,
    ⟨(some 72), .un .not (.tmp 71), none, [], true⟩])
  (.cond (.tmp 72)
   (.region [
     ⟨(some 73), .move (.tmp 7), none, [], true⟩,
     ⟨(some 74), .load (some 3) (.tmp 3), none, [], true⟩,
     ⟨(some 75), .buildSlice 3 1 [(.int .i64 0), (.int .i64 0), (.slice none 0 0)] [(0, (.tmp 74))], none, [], true⟩,
     ⟨(some 76), .append 3 40 (.tmp 73) (.tmp 75), none, [], true⟩,
     ⟨(some 7), .move (.tmp 76), none, [], true⟩])
   .skip))
  (.seq (.seq (.region [
    ⟨(some 77), .move (.tmp 7), none, [], true⟩,
    ⟨(some 78), .lenSlice (.tmp 77), none, [], true⟩,
    ⟨(some 79), .bin .gtr (.tmp 78) (.const (.int .i64 4096)), none, [], true⟩])
  (.cond (.tmp 79)
   (.seq (.region [
     ⟨(some 80), .move (.tmp 0), none, [], true⟩,
     ⟨(some 4), .move (.tmp 80), none, [], true⟩,
     ⟨(some 5), .move (.const (.int .i64 131)), none, [], true⟩])
   .ret)
   .skip))
  (.seq (.region [
    ⟨(some 81), .move (.tmp 7), none, [], true⟩,
    ⟨(some 4), .move (.tmp 81), none, [], true⟩,
    ⟨(some 5), .move (.const (.int .i64 0)), none, [], true⟩])
  .ret))))))))) }
theorem ir21_eq : funcC Try.prog 21 = some ir21 := by kernel_rfl
/-- wagonway/wagonwayref13.Check -/
def ir22 : IFunc :=
{ ntmps := 27, results := [.tmp 2], body :=
  (.seq (.region [
    ⟨(some 1), .box (.tmp 0), none, [], true⟩,
    ⟨(some 2), .move (.const (.int .i64 0)), none, [], true⟩])
  (.seq (.seq (.region [
    ⟨(some 3), .fieldAddr 0 (.tmp 1), none, [], true⟩,
    ⟨(some 4), .load none (.tmp 3), none, [], true⟩,
    ⟨(some 5), .bin .lss (.tmp 4) (.const (.int .i64 0)), none, [], true⟩,
    ⟨(some 6), .move (.tmp 5), none, [], true⟩,
    ⟨(some 7), .fieldAddr 0 (.tmp 1), (some (6, false)), [], true⟩,
    ⟨(some 8), .load none (.tmp 7), (some (6, false)), [], true⟩,
    ⟨(some 9), .bin .gtr (.tmp 8) (.const (.int .i64 255)), (some (6, false)), [], true⟩,
    ⟨(some 10), .pick (.tmp 6) (.const (.bool true)) (.tmp 9), none, [], true⟩,
    ⟨(some 11), .move (.tmp 10), none, [], true⟩,
    ⟨(some 12), .fieldAddr 1 (.tmp 1), (some (11, false)), [], true⟩,
    ⟨(some 13), .load none (.tmp 12), (some (11, false)), [], true⟩,
    ⟨(some 14), .bin .lss (.tmp 13) (.const (.int .i64 0)), (some (11, false)), [], true⟩,
    ⟨(some 15), .pick (.tmp 11) (.const (.bool true)) (.tmp 14), none, [], true⟩,
    ⟨(some 16), .move (.tmp 15), none, [], true⟩,
    ⟨(some 17), .fieldAddr 1 (.tmp 1), (some (16, false)), [], true⟩,
    ⟨(some 18), .load none (.tmp 17), (some (16, false)), [], true⟩,
    ⟨(some 19), .bin .gtr (.tmp 18) (.const (.int .i64 1024)), (some (16, false)), [], true⟩,
    ⟨(some 20), .pick (.tmp 16) (.const (.bool true)) (.tmp 19), none, [], true⟩,
    ⟨(some 21), .move (.tmp 20), none, [], true⟩,
    ⟨(some 22), .fieldAddr 2 (.tmp 1), (some (21, false)), [], true⟩,
    ⟨(some 23), .load none (.tmp 22), (some (21, false)), [], true⟩,
    ⟨(some 24), .lenSlice (.tmp 23), (some (21, false)), [], true⟩,
    ⟨(some 25), .bin .gtr (.tmp 24) (.const (.int .i64 1024)), (some (21, false)), [], true⟩,
    ⟨(some 26), .pick (.tmp 21) (.const (.bool true)) (.tmp 25), none, [], true⟩])
  (.cond (.tmp 26)
   (.seq (.region [
     ⟨(some 2), .move (.const (.int .i64 130)), none, [], true⟩])
   .ret)
   .skip))
  (.seq (.region [
    ⟨(some 2), .move (.const (.int .i64 0)), none, [], true⟩])
  .ret))) }
theorem ir22_eq : funcC Try.prog 22 = some ir22 := by kernel_rfl
/-- (*wagonway/shelf.Shelf).Len -/
def ir23 : IFunc :=
{ ntmps := 10, results := [.tmp 2], body :=
  (.seq (.region [
    ⟨(some 2), .move (.const (.int .i64 0)), none, [], true⟩])
  (.seq (.seq (.region [
    ⟨(some 3), .move (.tmp 0), none, [], true⟩,
    ⟨(some 4), .eqPtr false (.tmp 3) (.const (.pointer none)), none, [], true⟩])
  (.cond (.tmp 4)
   (.seq (.region [
     ⟨(some 2), .move (.const (.int .i64 0)), none, [], true⟩])
   .ret)
   .skip))
  (.seq (.region [
    ⟨(some 5), .move (.tmp 0), none, [], true⟩,
    ⟨(some 6), .nilCheck (.tmp 5), none, [], true⟩,
    ⟨(some 7), .fieldAddr 0 (.tmp 6), none, [], true⟩,
    ⟨(some 8), .load none (.tmp 7), none, [], true⟩,
    ⟨(some 9), .lenMap (.tmp 8), none, [], true⟩,
    ⟨(some 2), .move (.tmp 9), none, [], true⟩])
  .ret))) }
theorem ir23_eq : funcC Try.prog 23 = some ir23 := by kernel_rfl
/-- (*wagonway/shelf.Shelf).Of -/
def ir24 : IFunc :=
{ ntmps := 25, results := [.tmp 4], body :=
  (.seq (.region [
    ⟨(some 2), .box (.tmp 0), none, [], true⟩,
    ⟨(some 3), .box (.tmp 1), none, [], true⟩,
    ⟨(some 4), .move (.const (.slice none 0 0)), none, [], true⟩])
  (.seq (.region [
    ⟨(some 5), .box (.const (.slice none 0 0)), none, [], true⟩])
  (.seq .skip
  (.seq (.seq (.region [
    ⟨(some 7), .load none (.tmp 2), none, [], true⟩,
    ⟨(some 8), .call (.const (.func (.func 29) #[] #[])) [(.tmp 7)], none, [], true⟩])
  (.block 0 (.rangeFunc (.tmp 8) [9]
   (.region [
     ⟨(some 6), .box (.const (.agg #[(.int .i64 0), (.int .i64 0)])), none, [], true⟩,
     ⟨none, .store 2 (.tmp 6) (.tmp 9), none, [], true⟩])
   (.block 1 (.seq (.seq (.region [
     ⟨(some 10), .fieldAddr 0 (.tmp 6), none, [], true⟩,
     ⟨(some 11), .load none (.tmp 10), none, [], true⟩,
     ⟨(some 12), .load none (.tmp 3), none, [], true⟩,
     ⟨(some 13), .bin .gtr (.tmp 11) (.tmp 12), none, [], true⟩])
   (.cond (.tmp 13)
    (.exit 0)
    .skip))
   (.seq (.region [
     ⟨(some 14), .fieldAddr 0 (.tmp 6), none, [], true⟩,
     ⟨(some 15), .load none (.tmp 14), none, [], true⟩,
     ⟨(some 16), .load none (.tmp 3), none, [], true⟩,
     ⟨(some 17), .bin .eql (.tmp 15) (.tmp 16), none, [], true⟩])
   (.cond (.tmp 17)
    (.drawn [
      ⟨(some 18), .load none (.tmp 5), none, [], false⟩,
      ⟨(some 19), .load none (.tmp 2), none, [], false⟩,
      ⟨(some 20), .load (some 2) (.tmp 6), none, [], false⟩,
      ⟨(some 21), .call (.const (.func (.func 30) #[] #[])) [(.tmp 19), (.tmp 20)], none, [1, 2], false⟩,
      ⟨(some 22), .buildSlice 3 1 [(.int .i64 0), (.int .i64 0), (.slice none 0 0)] [(0, (.tmp 21))], none, [3, 1, 2], false⟩,
      ⟨(some 23), .append 3 40 (.tmp 18) (.tmp 22), none, [0, 4, 3, 1, 2], true⟩,
      ⟨none, .store 1 (.tmp 5) (.tmp 23), none, [5, 0, 1, 2, 3, 4], true⟩])
    .skip)))))))
  (.seq (.region [
    ⟨(some 24), .load none (.tmp 5), none, [], true⟩,
    ⟨(some 4), .move (.tmp 24), none, [], true⟩])
  .ret))))) }
theorem ir24_eq : funcC Try.prog 24 = some ir24 := by kernel_rfl
/-- (*wagonway/shelf.Shelf).Bytes -/
def ir25 : IFunc :=
{ ntmps := 41, results := [.tmp 2], body :=
  (.seq (.region [
    ⟨(some 2), .move (.const (.slice none 0 0)), none, [], true⟩])
  (.seq (.region [
    ⟨(some 3), .move (.const (.slice none 0 0)), none, [], true⟩])
  (.seq (.seq (.region [
    ⟨(some 7), .move (.tmp 0), none, [], true⟩,
    ⟨(some 8), .call (.const (.func (.func 12) #[] #[])) [(.tmp 7)], none, [], true⟩,
    ⟨(some 9), .lenSlice (.tmp 8), none, [], true⟩,
    ⟨(some 10), .move (.const (.int .i64 0)), none, [], true⟩])
  (.block 0 (.loop (.seq (.region [
    ⟨(some 11), .bin .lss (.tmp 10) (.tmp 9), none, [], true⟩])
  (.seq (.cond (.tmp 11)
   .skip
   (.exit 0))
  (.seq (.block 1 (.seq (.region [
    ⟨(some 12), .indexAddr 3 (.tmp 8) (.tmp 10), none, [], true⟩,
    ⟨(some 13), .load (some 3) (.tmp 12), none, [], true⟩,
    ⟨(some 5), .box (.const (.agg #[(.int .i64 0), (.int .i64 0), (.slice none 0 0)])), none, [], true⟩,
    ⟨none, .store 3 (.tmp 5) (.tmp 13), none, [], true⟩])
  (.seq (.region [
    ⟨(some 14), .fieldAddr 2 (.tmp 5), none, [], true⟩,
    ⟨(some 15), .load none (.tmp 14), none, [], true⟩,
    ⟨(some 16), .lenSlice (.tmp 15), none, [], true⟩,
    ⟨(some 6), .move (.tmp 16), none, [], true⟩])
  (.seq (.region [
    ⟨(some 17), .move (.tmp 3), none, [], true⟩,
    ⟨(some 18), .fieldAddr 0 (.tmp 5), none, [], true⟩,
    ⟨(some 19), .load none (.tmp 18), none, [], true⟩,
    ⟨(some 20), .conv .u8 (.tmp 19), none, [], true⟩,
    ⟨(some 21), .fieldAddr 1 (.tmp 5), none, [], true⟩,
    ⟨(some 22), .load none (.tmp 21), none, [], true⟩,
    ⟨(some 23), .bin .shr (.tmp 22) (.const (.int .u64 8)), none, [], true⟩,
    ⟨(some 24), .conv .u8 (.tmp 23), none, [], true⟩,
    ⟨(some 25), .fieldAddr 1 (.tmp 5), none, [], true⟩,
    ⟨(some 26), .load none (.tmp 25), none, [], true⟩,
    ⟨(some 27), .conv .u8 (.tmp 26), none, [], true⟩,
    ⟨(some 28), .move (.tmp 6), none, [], true⟩,
    ⟨(some 29), .bin .shr (.tmp 28) (.const (.int .u64 8)), none, [], true⟩,
    ⟨(some 30), .conv .u8 (.tmp 29), none, [], true⟩,
    ⟨(some 31), .move (.tmp 6), none, [], true⟩,
    ⟨(some 32), .conv .u8 (.tmp 31), none, [], true⟩,
    ⟨(some 33), .buildSlice 1 5 [(.int .u8 0)] [(0, (.tmp 20)), (1, (.tmp 24)), (2, (.tmp 27)), (3, (.tmp 30)), (4, (.tmp 32))], none, [], true⟩,
    ⟨(some 34), .append 1 1 (.tmp 17) (.tmp 33), none, [], true⟩,
    ⟨(some 3), .move (.tmp 34), none, [], true⟩])
  (.region [
    ⟨(some 35), .move (.tmp 3), none, [], true⟩,
    ⟨(some 36), .fieldAddr 2 (.tmp 5), none, [], true⟩,
    ⟨(some 37), .load none (.tmp 36), none, [], true⟩,
    ⟨(some 38), .append 1 1 (.tmp 35) (.tmp 37), none, [], true⟩,
    ⟨(some 3), .move (.tmp 38), none, [], true⟩])))))
  (.region [
    ⟨(some 39), .bin .add (.tmp 10) (.const (.int .i64 1)), none, [], true⟩,
    ⟨(some 10), .move (.tmp 39), none, [], true⟩])))))))
  (.seq (.region [
    ⟨(some 40), .move (.tmp 3), none, [], true⟩,
    ⟨(some 2), .move (.tmp 40), none, [], true⟩])
  .ret)))) }
theorem ir25_eq : funcC Try.prog 25 = some ir25 := by kernel_rfl
/-- wagonway/wagonwayref13.Bytes -/
def ir26 : IFunc :=
{ ntmps := 55, results := [.tmp 2], body :=
  (.seq (.region [
    ⟨(some 2), .move (.const (.slice none 0 0)), none, [], true⟩])
  (.seq (.region [
    ⟨(some 3), .move (.const (.slice none 0 0)), none, [], true⟩])
  (.seq (.seq (.region [
    ⟨(some 4), .move (.const (.int .i64 0)), none, [], true⟩])
  (.block 0 (.loop (.seq (.seq (.region [
    ⟨(some 6), .move (.tmp 4), none, [], true⟩,
    ⟨(some 7), .move (.tmp 0), none, [], true⟩,
    ⟨(some 8), .lenSlice (.tmp 7), none, [], true⟩,
    ⟨(some 9), .bin .lss (.tmp 6) (.tmp 8), none, [], true⟩])
  (.cond (.tmp 9)
   .skip
   (.exit 0)))
  (.seq (.block 1 (.seq (.region [
    ⟨(some 12), .move (.tmp 0), none, [], true⟩,
    ⟨(some 13), .move (.tmp 4), none, [], true⟩,
    ⟨(some 14), .indexAddr 3 (.tmp 12) (.tmp 13), none, [], true⟩,
    ⟨(some 15), .fieldAddr 2 (.tmp 14), none, [], true⟩,
    ⟨(some 16), .load none (.tmp 15), none, [], true⟩,
    ⟨(some 17), .lenSlice (.tmp 16), none, [], true⟩,
    ⟨(some 5), .move (.tmp 17), none, [], true⟩])
  (.seq (.drawn [
    ⟨(some 18), .move (.tmp 3), none, [], false⟩,
    ⟨(some 19), .move (.tmp 0), none, [], false⟩,
    ⟨(some 20), .move (.tmp 4), none, [], false⟩,
    ⟨(some 21), .indexAddr 3 (.tmp 19) (.tmp 20), none, [1, 2], false⟩,
    ⟨(some 22), .fieldAddr 0 (.tmp 21), none, [3, 1, 2], false⟩,
    ⟨(some 23), .load none (.tmp 22), none, [4, 3, 1, 2], false⟩,
    ⟨(some 24), .conv .u8 (.tmp 23), none, [5, 4, 3, 1, 2], false⟩,
    ⟨(some 25), .move (.tmp 0), none, [], false⟩,
    ⟨(some 26), .move (.tmp 4), none, [], false⟩,
    ⟨(some 27), .indexAddr 3 (.tmp 25) (.tmp 26), none, [7, 8], false⟩,
    ⟨(some 28), .fieldAddr 1 (.tmp 27), none, [9, 7, 8], false⟩,
    ⟨(some 29), .load none (.tmp 28), none, [10, 9, 7, 8], false⟩,
    ⟨(some 30), .bin .quo (.tmp 29) (.const (.int .i64 256)), none, [11, 10, 9, 7, 8], false⟩,
    ⟨(some 31), .conv .u8 (.tmp 30), none, [12, 11, 10, 9, 7, 8], false⟩,
    ⟨(some 32), .move (.tmp 0), none, [], false⟩,
    ⟨(some 33), .move (.tmp 4), none, [], false⟩,
    ⟨(some 34), .indexAddr 3 (.tmp 32) (.tmp 33), none, [14, 15], false⟩,
    ⟨(some 35), .fieldAddr 1 (.tmp 34), none, [16, 14, 15], false⟩,
    ⟨(some 36), .load none (.tmp 35), none, [17, 16, 14, 15], false⟩,
    ⟨(some 37), .bin .rem (.tmp 36) (.const (.int .i64 256)), none, [18, 17, 16, 14, 15], false⟩,
    ⟨(some 38), .conv .u8 (.tmp 37), none, [19, 18, 17, 16, 14, 15], false⟩,
    ⟨(some 39), .move (.tmp 5), none, [], false⟩,
    ⟨(some 40), .bin .quo (.tmp 39) (.const (.int .i64 256)), none, [21], false⟩,
    ⟨(some 41), .conv .u8 (.tmp 40), none, [22, 21], false⟩,
    ⟨(some 42), .move (.tmp 5), none, [], false⟩,
    ⟨(some 43), .bin .rem (.tmp 42) (.const (.int .i64 256)), none, [24], false⟩,
    ⟨(some 44), .conv .u8 (.tmp 43), none, [25, 24], false⟩,
    ⟨(some 45), .buildSlice 1 5 [(.int .u8 0)] [(0, (.tmp 24)), (1, (.tmp 31)), (2, (.tmp 38)), (3, (.tmp 41)), (4, (.tmp 44))], none, [6, 13, 20, 23, 26, 5, 4, 3, 1, 2, 12, 11, 10, 9, 7, 8, 19, 18, 17, 16, 14, 15, 22, 21, 25, 24], true⟩,
    ⟨(some 46), .append 1 1 (.tmp 18) (.tmp 45), none, [0, 27, 6, 13, 20, 23, 26, 5, 4, 3, 1, 2, 12, 11, 10, 9, 7, 8, 19, 18, 17, 16, 14, 15, 22, 21, 25, 24], true⟩,
    ⟨(some 3), .move (.tmp 46), none, [28, 0, 1, 2, 3, 4, 5, 6, 7, 8, 9, 10, 11, 12, 13, 14, 15, 16, 17, 18, 19, 20, 21, 22, 23, 24, 25, 26, 27], true⟩])
  (.region [
    ⟨(some 47), .move (.tmp 3), none, [], true⟩,
    ⟨(some 48), .move (.tmp 0), none, [], true⟩,
    ⟨(some 49), .move (.tmp 4), none, [], true⟩,
    ⟨(some 50), .indexAddr 3 (.tmp 48) (.tmp 49), none, [], true⟩,
    ⟨(some 51), .fieldAddr 2 (.tmp 50), none, [], true⟩,
    ⟨(some 52), .load none (.tmp 51), none, [], true⟩,
    ⟨(some 53), .append 1 1 (.tmp 47) (.tmp 52), none, [], true⟩,
    ⟨(some 3), .move (.tmp 53), none, [], true⟩]))))
  (.region [
    ⟨(some 10), .move (.tmp 4), none, [], true⟩,
    ⟨(some 11), .bin .add (.tmp 10) (.const (.int .i64 1)), none, [], true⟩,
    ⟨(some 4), .move (.tmp 11), none, [], true⟩]))))))
  (.seq (.region [
    ⟨(some 54), .move (.tmp 3), none, [], true⟩,
    ⟨(some 2), .move (.tmp 54), none, [], true⟩])
  .ret)))) }
theorem ir26_eq : funcC Try.prog 26 = some ir26 := by kernel_rfl
/-- bytes.Equal -/
def ir27 : IFunc :=
{ ntmps := 10, results := [.tmp 4], body :=
  (.seq (.region [
    ⟨(some 4), .move (.const (.bool false)), none, [], true⟩])
  (.seq (.region [
    ⟨(some 5), .move (.tmp 0), none, [], true⟩,
    ⟨(some 6), .bytesStr (.tmp 5), none, [], true⟩,
    ⟨(some 7), .move (.tmp 1), none, [], true⟩,
    ⟨(some 8), .bytesStr (.tmp 7), none, [], true⟩,
    ⟨(some 9), .bin .eql (.tmp 6) (.tmp 8), none, [], true⟩,
    ⟨(some 4), .move (.tmp 9), none, [], true⟩])
  .ret)) }
theorem ir27_eq : funcC Try.prog 27 = some ir27 := by kernel_rfl
/-- wagonway/wagonwayref13.ahead -/
def ir28 : IFunc :=
{ ntmps := 24, results := [.tmp 4], body :=
  (.seq (.region [
    ⟨(some 2), .box (.tmp 0), none, [], true⟩,
    ⟨(some 3), .box (.tmp 1), none, [], true⟩,
    ⟨(some 4), .move (.const (.bool false)), none, [], true⟩])
  (.seq (.region [
    ⟨(some 5), .fieldAddr 0 (.tmp 2), none, [], true⟩,
    ⟨(some 6), .load none (.tmp 5), none, [], true⟩,
    ⟨(some 7), .fieldAddr 0 (.tmp 3), none, [], true⟩,
    ⟨(some 8), .load none (.tmp 7), none, [], true⟩,
    ⟨(some 9), .bin .lss (.tmp 6) (.tmp 8), none, [], true⟩,
    ⟨(some 10), .move (.tmp 9), none, [], true⟩,
    ⟨(some 11), .fieldAddr 0 (.tmp 2), (some (10, false)), [], true⟩,
    ⟨(some 12), .load none (.tmp 11), (some (10, false)), [], true⟩,
    ⟨(some 13), .fieldAddr 0 (.tmp 3), (some (10, false)), [], true⟩,
    ⟨(some 14), .load none (.tmp 13), (some (10, false)), [], true⟩,
    ⟨(some 15), .bin .eql (.tmp 12) (.tmp 14), (some (10, false)), [], true⟩,
    ⟨(some 16), .move (.tmp 15), (some (10, false)), [], true⟩,
    ⟨(some 17), .fieldAddr 1 (.tmp 2), (some (16, true)), [], true⟩,
    ⟨(some 18), .load none (.tmp 17), (some (16, true)), [], true⟩,
    ⟨(some 19), .fieldAddr 1 (.tmp 3), (some (16, true)), [], true⟩,
    ⟨(some 20), .load none (.tmp 19), (some (16, true)), [], true⟩,
    ⟨(some 21), .bin .lss (.tmp 18) (.tmp 20), (some (16, true)), [], true⟩,
    ⟨(some 22), .pick (.tmp 16) (.tmp 21) (.const (.bool false)), (some (10, false)), [], true⟩,
    ⟨(some 23), .pick (.tmp 10) (.const (.bool true)) (.tmp 22), none, [], true⟩,
    ⟨(some 4), .move (.tmp 23), none, [], true⟩])
  .ret)) }
theorem ir28_eq : funcC Try.prog 28 = some ir28 := by kernel_rfl
/-- (*wagonway/shelf.Shelf).keys -/
def ir29 : IFunc :=
{ ntmps := 4, results := [.tmp 2], body :=
  (.seq (.region [
    ⟨(some 1), .box (.tmp 0), none, [], true⟩,
    ⟨(some 2), .move (.const .nilFunc), none, [], true⟩])
  (.seq (.region [
    ⟨(some 3), .func (.func 33) [] [(.tmp 1)], none, [], true⟩,
    ⟨(some 2), .move (.tmp 3), none, [], true⟩])
  .ret)) }
theorem ir29_eq : funcC Try.prog 29 = some ir29 := by kernel_rfl
/-- (*wagonway/shelf.Shelf).record -/
def ir30 : IFunc :=
{ ntmps := 17, results := [.cell 4 (some 3)], body :=
  (.seq (.region [
    ⟨(some 3), .box (.tmp 1), none, [], true⟩,
    ⟨(some 4), .box (.const (.agg #[(.int .i64 0), (.int .i64 0), (.slice none 0 0)])), none, [], true⟩])
  (.seq (.drawn [
    ⟨(some 5), .fieldAddr 0 (.tmp 3), none, [], false⟩,
    ⟨(some 6), .load none (.tmp 5), none, [0], false⟩,
    ⟨(some 7), .fieldAddr 1 (.tmp 3), none, [], false⟩,
    ⟨(some 8), .load none (.tmp 7), none, [2], false⟩,
    ⟨(some 9), .move (.tmp 0), none, [], false⟩,
    ⟨(some 10), .nilCheck (.tmp 9), none, [4], false⟩,
    ⟨(some 11), .fieldAddr 0 (.tmp 10), none, [5, 4], false⟩,
    ⟨(some 12), .load none (.tmp 11), none, [6, 5, 4], false⟩,
    ⟨(some 13), .load (some 2) (.tmp 3), none, [], false⟩,
    ⟨(some 14), .lookup (some [.int, .int]) (.slice none 0 0) false (.tmp 12) (.tmp 13), none, [7, 8, 6, 5, 4], false⟩,
    ⟨(some 15), .call (.const (.func (.func 32) #[] #[])) [(.tmp 14)], none, [9, 7, 8, 6, 5, 4], false⟩,
    ⟨(some 16), .build [(.int .i64 0), (.int .i64 0), (.slice none 0 0)] [(0, 1, (.tmp 6)), (1, 1, (.tmp 8)), (2, 1, (.tmp 15))], none, [1, 3, 10, 0, 2, 9, 7, 8, 6, 5, 4], true⟩,
    ⟨none, .store 3 (.tmp 4) (.tmp 16), none, [11, 10, 0, 1, 2, 3, 4, 5, 6, 7, 8, 9], true⟩])
  .ret)) }
theorem ir30_eq : funcC Try.prog 30 = some ir30 := by kernel_rfl
/-- wagonway/wagonwaylaw13.three -/
def ir31 : IFunc :=
{ ntmps := 9, results := [.tmp 0], body :=
  (.seq (.region [
    ⟨(some 0), .move (.const (.slice none 0 0)), none, [], true⟩])
  (.seq (.region [
    ⟨(some 1), .buildSlice 1 2 [(.int .u8 0)] [(0, (.const (.int .u8 97))), (1, (.const (.int .u8 98)))], none, [], true⟩,
    ⟨(some 2), .convBytes (.tmp 1), none, [], true⟩,
    ⟨(some 3), .build [(.int .i64 0), (.int .i64 0), (.slice none 0 0)] [(0, 1, (.const (.int .i64 1))), (1, 1, (.const (.int .i64 5))), (2, 1, (.tmp 2))], none, [], true⟩,
    ⟨(some 4), .buildSlice 1 1 [(.int .u8 0)] [(0, (.const (.int .u8 99)))], none, [], true⟩,
    ⟨(some 5), .convBytes (.tmp 4), none, [], true⟩,
    ⟨(some 6), .build [(.int .i64 0), (.int .i64 0), (.slice none 0 0)] [(0, 1, (.const (.int .i64 1))), (1, 1, (.const (.int .i64 2))), (2, 1, (.tmp 5))], none, [], true⟩,
    ⟨(some 7), .build [(.int .i64 0), (.int .i64 0), (.slice none 0 0)] [(0, 1, (.const (.int .i64 1))), (1, 1, (.const (.int .i64 5)))], none, [], true⟩,
    ⟨(some 8), .buildSlice 3 3 [(.int .i64 0), (.int .i64 0), (.slice none 0 0)] [(0, (.tmp 3)), (1, (.tmp 6)), (2, (.tmp 7))], none, [], true⟩,
    ⟨(some 0), .move (.tmp 8), none, [], true⟩])
  .ret)) }
theorem ir31_eq : funcC Try.prog 31 = some ir31 := by kernel_rfl
/-- slices.Clone[[]byte,byte] -/
def ir32 : IFunc :=
{ ntmps := 8, results := [.tmp 2], body :=
  (.seq (.region [
    ⟨(some 2), .move (.const (.slice none 0 0)), none, [], true⟩])
  (.seq (.seq (.region [
    ⟨(some 3), .move (.tmp 0), none, [], true⟩,
    ⟨(some 4), .eqSlice false (.tmp 3) (.const (.slice none 0 0)), none, [], true⟩])
  (.cond (.tmp 4)
   (.seq (.region [
     ⟨(some 2), .move (.const (.slice none 0 0)), none, [], true⟩])
   .ret)
   .skip))
  (.seq (.region [
    ⟨(some 5), .buildSlice 1 0 [(.int .u8 0)] [], none, [], true⟩,
    ⟨(some 6), .move (.tmp 0), none, [], true⟩,
    ⟨(some 7), .append 1 1 (.tmp 5) (.tmp 6), none, [], true⟩,
    ⟨(some 2), .move (.tmp 7), none, [], true⟩])
  .ret))) }
theorem ir32_eq : funcC Try.prog 32 = some ir32 := by kernel_rfl
/-- (*wagonway/shelf.Shelf).keys$1 -/
def ir33 : IFunc :=
{ ntmps := 23, results := [], body :=
  (.seq (.seq (.region [
    ⟨(some 5), .load none (.tmp 1), none, [], true⟩,
    ⟨(some 6), .eqPtr false (.tmp 5) (.const (.pointer none)), none, [], true⟩])
  (.cond (.tmp 6)
   .ret
   .skip))
  (.seq (.region [
    ⟨(some 7), .load none (.tmp 1), none, [], true⟩,
    ⟨(some 8), .nilCheck (.tmp 7), none, [], true⟩,
    ⟨(some 9), .fieldAddr 0 (.tmp 8), none, [], true⟩,
    ⟨(some 10), .load none (.tmp 9), none, [], true⟩,
    ⟨(some 11), .call (.const (.func (.func 35) #[] #[])) [(.tmp 10)], none, [], true⟩,
    ⟨(some 12), .call (.const (.func (.func 34) #[] #[])) [(.tmp 11), (.const (.func (.func 36) #[] #[]))], none, [], true⟩,
    ⟨(some 13), .lenSlice (.tmp 12), none, [], true⟩,
    ⟨(some 14), .move (.const (.int .i64 0)), none, [], true⟩])
  (.block 0 (.loop (.seq (.region [
    ⟨(some 15), .bin .lss (.tmp 14) (.tmp 13), none, [], true⟩])
  (.seq (.cond (.tmp 15)
   .skip
   (.exit 0))
  (.seq (.block 1 (.seq (.region [
    ⟨(some 16), .indexAddr 2 (.tmp 12) (.tmp 14), none, [], true⟩,
    ⟨(some 17), .load (some 2) (.tmp 16), none, [], true⟩,
    ⟨(some 4), .box (.const (.agg #[(.int .i64 0), (.int .i64 0)])), none, [], true⟩,
    ⟨none, .store 2 (.tmp 4) (.tmp 17), none, [], true⟩])
  (.seq (.region [
    ⟨(some 18), .move (.tmp 0), none, [], true⟩,
    ⟨(some 19), .load (some 2) (.tmp 4), none, [], true⟩,
    ⟨(some 20), .call (.tmp 18) [(.tmp 19)], none, [], true⟩,
    ⟨(some 21), .un .not (.tmp 20), none, [], true⟩])
  (.cond (.tmp 21)
   .ret
   .skip))))
  (.region [
    ⟨(some 22), .bin .add (.tmp 14) (.const (.int .i64 1)), none, [], true⟩,
    ⟨(some 14), .move (.tmp 22), none, [], true⟩])))))))) }
theorem ir33_eq : funcC Try.prog 33 = some ir33 := by kernel_rfl
/-- slices.SortedFunc[wagonway/shelf.key] -/
def ir34 : IFunc :=
{ ntmps := 12, results := [.tmp 4], body :=
  (.seq (.region [
    ⟨(some 4), .move (.const (.slice none 0 0)), none, [], true⟩])
  (.seq (.region [
    ⟨(some 6), .move (.tmp 0), none, [], true⟩,
    ⟨(some 7), .call (.const (.func (.func 39) #[] #[])) [(.tmp 6)], none, [], true⟩,
    ⟨(some 5), .move (.tmp 7), none, [], true⟩])
  (.seq (.region [
    ⟨(some 8), .move (.tmp 5), none, [], true⟩,
    ⟨(some 9), .move (.tmp 1), none, [], true⟩,
    ⟨(some 10), .call (.const (.func (.func 40) #[] #[])) [(.tmp 8), (.tmp 9)], none, [], true⟩])
  (.seq (.region [
    ⟨(some 11), .move (.tmp 5), none, [], true⟩,
    ⟨(some 4), .move (.tmp 11), none, [], true⟩])
  .ret)))) }
theorem ir34_eq : funcC Try.prog 34 = some ir34 := by kernel_rfl
/-- maps.Keys[map[wagonway/shelf.key][]byte,wagonway/shelf.key,[]byte] -/
def ir35 : IFunc :=
{ ntmps := 4, results := [.tmp 2], body :=
  (.seq (.region [
    ⟨(some 1), .box (.tmp 0), none, [], true⟩,
    ⟨(some 2), .move (.const .nilFunc), none, [], true⟩])
  (.seq (.region [
    ⟨(some 3), .func (.func 41) [] [(.tmp 1)], none, [], true⟩,
    ⟨(some 2), .move (.tmp 3), none, [], true⟩])
  .ret)) }
theorem ir35_eq : funcC Try.prog 35 = some ir35 := by kernel_rfl
/-- (*wagonway/shelf.Shelf).keys$1$1 -/
def ir36 : IFunc :=
{ ntmps := 17, results := [.tmp 4], body :=
  (.seq (.region [
    ⟨(some 2), .box (.tmp 0), none, [], true⟩,
    ⟨(some 3), .box (.tmp 1), none, [], true⟩,
    ⟨(some 4), .move (.const (.int .i64 0)), none, [], true⟩])
  (.seq (.drawn [
    ⟨(some 5), .fieldAddr 0 (.tmp 2), none, [], false⟩,
    ⟨(some 6), .load none (.tmp 5), none, [0], false⟩,
    ⟨(some 7), .fieldAddr 0 (.tmp 3), none, [], false⟩,
    ⟨(some 8), .load none (.tmp 7), none, [2], false⟩,
    ⟨(some 9), .call (.const (.func (.func 38) #[] #[])) [(.tmp 6), (.tmp 8)], none, [1, 3, 0, 2], false⟩,
    ⟨(some 10), .fieldAddr 1 (.tmp 2), none, [], false⟩,
    ⟨(some 11), .load none (.tmp 10), none, [5], false⟩,
    ⟨(some 12), .fieldAddr 1 (.tmp 3), none, [], false⟩,
    ⟨(some 13), .load none (.tmp 12), none, [7], false⟩,
    ⟨(some 14), .call (.const (.func (.func 38) #[] #[])) [(.tmp 11), (.tmp 13)], none, [6, 8, 4, 5, 7, 1, 3, 0, 2], true⟩,
    ⟨(some 15), .buildSlice 1 2 [(.int .i64 0)] [(0, (.tmp 9)), (1, (.tmp 14))], none, [4, 9, 1, 3, 0, 2, 6, 8, 5, 7], true⟩,
    ⟨(some 16), .call (.const (.func (.func 37) #[] #[])) [(.tmp 15)], none, [10, 9, 4, 1, 3, 0, 2, 6, 8, 5, 7], true⟩,
    ⟨(some 4), .move (.tmp 16), none, [11, 0, 1, 2, 3, 4, 5, 6, 7, 8, 9, 10], true⟩])
  .ret)) }
theorem ir36_eq : funcC Try.prog 36 = some ir36 := by kernel_rfl
/-- cmp.Or[int] -/
def ir37 : IFunc :=
{ ntmps := 18, results := [.tmp 2], body :=
  (.seq (.region [
    ⟨(some 2), .move (.const (.int .i64 0)), none, [], true⟩])
  (.seq (.region [
    ⟨(some 3), .move (.const (.int .i64 0)), none, [], true⟩])
  (.seq (.seq (.region [
    ⟨(some 6), .move (.tmp 0), none, [], true⟩,
    ⟨(some 7), .lenSlice (.tmp 6), none, [], true⟩,
    ⟨(some 8), .move (.const (.int .i64 0)), none, [], true⟩])
  (.block 0 (.loop (.seq (.region [
    ⟨(some 9), .bin .lss (.tmp 8) (.tmp 7), none, [], true⟩])
  (.seq (.cond (.tmp 9)
   .skip
   (.exit 0))
  (.seq (.block 1 (.seq (.region [
    ⟨(some 10), .indexAddr 1 (.tmp 6) (.tmp 8), none, [], true⟩,
    ⟨(some 11), .load none (.tmp 10), none, [], true⟩,
    ⟨(some 5), .move (.tmp 11), none, [], true⟩])
  (.seq (.region [
    ⟨(some 12), .move (.tmp 5), none, [], true⟩,
    ⟨(some 13), .move (.tmp 3), none, [], true⟩,
    ⟨(some 14), .bin .neq (.tmp 12) (.tmp 13), none, [], true⟩])
  (.cond (.tmp 14)
   (.seq (.region [
     ⟨(some 15), .move (.tmp 5), none, [], true⟩,
     ⟨(some 2), .move (.tmp 15), none, [], true⟩])
   .ret)
   .skip))))
  (.region [
    ⟨(some 16), .bin .add (.tmp 8) (.const (.int .i64 1)), none, [], true⟩,
    ⟨(some 8), .move (.tmp 16), none, [], true⟩])))))))
  (.seq (.region [
    ⟨(some 17), .move (.tmp 3), none, [], true⟩,
    ⟨(some 2), .move (.tmp 17), none, [], true⟩])
  .ret)))) }
theorem ir37_eq : funcC Try.prog 37 = some ir37 := by kernel_rfl
/-- cmp.Compare[int] -/
def ir38 : IFunc :=
{ ntmps := 20, results := [.tmp 4], body :=
  (.seq (.region [
    ⟨(some 4), .move (.const (.int .i64 0)), none, [], true⟩])
  (.seq (.region [
    ⟨(some 7), .move (.tmp 0), none, [], true⟩,
    ⟨(some 8), .call (.const (.func (.func 42) #[] #[])) [(.tmp 7)], none, [], true⟩,
    ⟨(some 5), .move (.tmp 8), none, [], true⟩])
  (.seq (.region [
    ⟨(some 9), .move (.tmp 1), none, [], true⟩,
    ⟨(some 10), .call (.const (.func (.func 42) #[] #[])) [(.tmp 9)], none, [], true⟩,
    ⟨(some 6), .move (.tmp 10), none, [], true⟩])
  (.seq (.seq (.region [
    ⟨(some 11), .move (.tmp 5), none, [], true⟩])
  (.cond (.tmp 11)
   (.seq (.seq (.region [
     ⟨(some 12), .move (.tmp 6), none, [], true⟩])
   (.cond (.tmp 12)
    (.seq (.region [
      ⟨(some 4), .move (.const (.int .i64 0)), none, [], true⟩])
    .ret)
    .skip))
   (.seq (.region [
     ⟨(some 4), .move (.const (.int .i64 (-1))), none, [], true⟩])
   .ret))
   .skip))
  (.seq (.seq (.region [
    ⟨(some 13), .move (.tmp 6), none, [], true⟩])
  (.cond (.tmp 13)
   (.seq (.region [
     ⟨(some 4), .move (.const (.int .i64 1)), none, [], true⟩])
   .ret)
   .skip))
  (.seq (.seq (.region [
    ⟨(some 14), .move (.tmp 0), none, [], true⟩,
    ⟨(some 15), .move (.tmp 1), none, [], true⟩,
    ⟨(some 16), .bin .lss (.tmp 14) (.tmp 15), none, [], true⟩])
  (.cond (.tmp 16)
   (.seq (.region [
     ⟨(some 4), .move (.const (.int .i64 (-1))), none, [], true⟩])
   .ret)
   .skip))
  (.seq (.seq (.region [
    ⟨(some 17), .move (.tmp 0), none, [], true⟩,
    ⟨(some 18), .move (.tmp 1), none, [], true⟩,
    ⟨(some 19), .bin .gtr (.tmp 17) (.tmp 18), none, [], true⟩])
  (.cond (.tmp 19)
   (.seq (.region [
     ⟨(some 4), .move (.const (.int .i64 1)), none, [], true⟩])
   .ret)
   .skip))
  (.seq (.region [
    ⟨(some 4), .move (.const (.int .i64 0)), none, [], true⟩])
  .ret)))))))) }
theorem ir38_eq : funcC Try.prog 38 = some ir38 := by kernel_rfl
/-- slices.Collect[wagonway/shelf.key] -/
def ir39 : IFunc :=
{ ntmps := 5, results := [.tmp 2], body :=
  (.seq (.region [
    ⟨(some 2), .move (.const (.slice none 0 0)), none, [], true⟩])
  (.seq (.region [
    ⟨(some 3), .move (.tmp 0), none, [], true⟩,
    ⟨(some 4), .call (.const (.func (.func 43) #[] #[])) [(.const (.slice none 0 0)), (.tmp 3)], none, [], true⟩,
    ⟨(some 2), .move (.tmp 4), none, [], true⟩])
  .ret)) }
theorem ir39_eq : funcC Try.prog 39 = some ir39 := by kernel_rfl
/-- slices.SortFunc[[]wagonway/shelf.key,wagonway/shelf.key] -/
def ir40 : IFunc :=
{ ntmps := 14, results := [], body :=
  (.seq (.region [
    ⟨(some 5), .move (.tmp 0), none, [], true⟩,
    ⟨(some 6), .lenSlice (.tmp 5), none, [], true⟩,
    ⟨(some 4), .move (.tmp 6), none, [], true⟩])
  (.region [
    ⟨(some 7), .move (.tmp 0), none, [], true⟩,
    ⟨(some 8), .move (.tmp 4), none, [], true⟩,
    ⟨(some 9), .move (.tmp 4), none, [], true⟩,
    ⟨(some 10), .conv .u64 (.tmp 9), none, [], true⟩,
    ⟨(some 11), .call (.const (.func (.func 45) #[] #[])) [(.tmp 10)], none, [], true⟩,
    ⟨(some 12), .move (.tmp 1), none, [], true⟩,
    ⟨(some 13), .call (.const (.func (.func 44) #[] #[])) [(.tmp 7), (.const (.int .i64 0)), (.tmp 8), (.tmp 11), (.tmp 12)], none, [], true⟩])) }
theorem ir40_eq : funcC Try.prog 40 = some ir40 := by kernel_rfl
/-- maps.Keys[map[wagonway/shelf.key][]byte,wagonway/shelf.key,[]byte]$1 -/
def ir41 : IFunc :=
{ ntmps := 14, results := [], body :=
  (.seq (.region [
    ⟨(some 4), .load none (.tmp 1), none, [], true⟩,
    ⟨(some 5), .rangeMap (.tmp 4), none, [], true⟩])
  (.block 0 (.loop (.seq (.region [
    ⟨(some 6), .nextMap (.tmp 5), none, [], true⟩,
    ⟨(some 7), .extract (.tmp 6) 0, none, [], true⟩])
  (.seq (.cond (.tmp 7)
   .skip
   (.exit 0))
  (.block 1 (.seq (.region [
    ⟨(some 8), .entryMap (.tmp 5), none, [], true⟩,
    ⟨(some 9), .extract (.tmp 8) 0, none, [], true⟩,
    ⟨(some 3), .box (.const (.agg #[(.int .i64 0), (.int .i64 0)])), none, [], true⟩,
    ⟨none, .store 2 (.tmp 3) (.tmp 9), none, [], true⟩])
  (.seq (.region [
    ⟨(some 10), .move (.tmp 0), none, [], true⟩,
    ⟨(some 11), .load (some 2) (.tmp 3), none, [], true⟩,
    ⟨(some 12), .call (.tmp 10) [(.tmp 11)], none, [], true⟩,
    ⟨(some 13), .un .not (.tmp 12), none, [], true⟩])
  (.cond (.tmp 13)
   .ret
   .skip))))))))) }
theorem ir41_eq : funcC Try.prog 41 = some ir41 := by kernel_rfl
/-- cmp.isNaN[int] -/
def ir42 : IFunc :=
{ ntmps := 6, results := [.tmp 2], body :=
  (.seq (.region [
    ⟨(some 2), .move (.const (.bool false)), none, [], true⟩])
  (.seq (.region [
    ⟨(some 3), .move (.tmp 0), none, [], true⟩,
    ⟨(some 4), .move (.tmp 0), none, [], true⟩,
    ⟨(some 5), .bin .neq (.tmp 3) (.tmp 4), none, [], true⟩,
    ⟨(some 2), .move (.tmp 5), none, [], true⟩])
  .ret)) }
theorem ir42_eq : funcC Try.prog 42 = some ir42 := by kernel_rfl
/-- slices.AppendSeq[[]wagonway/shelf.key,wagonway/shelf.key] -/
def ir43 : IFunc :=
{ ntmps := 13, results := [.tmp 4], body :=
  (.seq (.region [
    ⟨(some 2), .box (.tmp 0), none, [], true⟩,
    ⟨(some 4), .move (.const (.slice none 0 0)), none, [], true⟩])
  (.seq (.seq (.region [
    ⟨(some 6), .move (.tmp 1), none, [], true⟩])
  (.block 0 (.rangeFunc (.tmp 6) [7]
   (.region [
     ⟨(some 5), .box (.const (.agg #[(.int .i64 0), (.int .i64 0)])), none, [], true⟩,
     ⟨none, .store 2 (.tmp 5) (.tmp 7), none, [], true⟩])
   (.block 1 (.region [
     ⟨(some 8), .load none (.tmp 2), none, [], true⟩,
     ⟨(some 9), .load (some 2) (.tmp 5), none, [], true⟩,
     ⟨(some 10), .buildSlice 2 1 [(.int .i64 0), (.int .i64 0)] [(0, (.tmp 9))], none, [], true⟩,
     ⟨(some 11), .append 2 16 (.tmp 8) (.tmp 10), none, [], true⟩,
     ⟨none, .store 1 (.tmp 2) (.tmp 11), none, [], true⟩])))))
  (.seq (.region [
    ⟨(some 12), .load none (.tmp 2), none, [], true⟩,
    ⟨(some 4), .move (.tmp 12), none, [], true⟩])
  .ret))) }
theorem ir43_eq : funcC Try.prog 43 = some ir43 := by kernel_rfl
/-- slices.pdqsortCmpFunc[wagonway/shelf.key] -/
def ir44 : IFunc :=
{ ntmps := 148, results := [], body :=
  (.seq (.region [
    ⟨(some 10), .move (.const (.bool true)), none, [], true⟩])
  (.seq (.region [
    ⟨(some 11), .move (.const (.bool true)), none, [], true⟩])
  (.block 0 (.loop (.block 1 (.seq (.region [
    ⟨(some 21), .move (.tmp 2), none, [], true⟩,
    ⟨(some 22), .move (.tmp 1), none, [], true⟩,
    ⟨(some 23), .bin .sub (.tmp 21) (.tmp 22), none, [], true⟩,
    ⟨(some 12), .move (.tmp 23), none, [], true⟩])
  (.seq (.seq (.region [
    ⟨(some 24), .move (.tmp 12), none, [], true⟩,
    ⟨(some 25), .bin .leq (.tmp 24) (.const (.int .i64 12)), none, [], true⟩])
  (.cond (.tmp 25)
   (.seq (.region [
     ⟨(some 26), .move (.tmp 0), none, [], true⟩,
     ⟨(some 27), .move (.tmp 1), none, [], true⟩,
     ⟨(some 28), .move (.tmp 2), none, [], true⟩,
     ⟨(some 29), .move (.tmp 4), none, [], true⟩,
     ⟨(some 30), .call (.const (.func (.func 46) #[] #[])) [(.tmp 26), (.tmp 27), (.tmp 28), (.tmp 29)], none, [], true⟩])
   .ret)
   .skip))
  (.seq (.seq (.region [
    ⟨(some 31), .move (.tmp 3), none, [], true⟩,
    ⟨(some 32), .bin .eql (.tmp 31) (.const (.int .i64 0)), none, [], true⟩])
  (.cond (.tmp 32)
   (.seq (.region [
     ⟨(some 33), .move (.tmp 0), none, [], true⟩,
     ⟨(some 34), .move (.tmp 1), none, [], true⟩,
     ⟨(some 35), .move (.tmp 2), none, [], true⟩,
     ⟨(some 36), .move (.tmp 4), none, [], true⟩,
     ⟨(some 37), .call (.const (.func (.func 47) #[] #[])) [(.tmp 33), (.tmp 34), (.tmp 35), (.tmp 36)], none, [], true⟩])
   .ret)
   .skip))
  (.seq (.seq (.region [
    ⟨(some 38), .move (.tmp 10), none, [], true⟩,
    ⟨(some 39), .un .not (.tmp 38), none, [], true⟩])
  (.cond (.tmp 39)
   (.seq (.region [
     ⟨(some 40), .move (.tmp 0), none, [], true⟩,
     ⟨(some 41), .move (.tmp 1), none, [], true⟩,
     ⟨(some 42), .move (.tmp 2), none, [], true⟩,
     ⟨(some 43), .move (.tmp 4), none, [], true⟩,
     ⟨(some 44), .call (.const (.func (.func 48) #[] #[])) [(.tmp 40), (.tmp 41), (.tmp 42), (.tmp 43)], none, [], true⟩])
   (.region [
     ⟨(some 45), .move (.tmp 3), none, [], true⟩,
     ⟨(some 46), .bin .sub (.tmp 45) (.const (.int .i64 1)), none, [], true⟩,
     ⟨(some 3), .move (.tmp 46), none, [], true⟩]))
   .skip))
  (.seq (.region [
    ⟨(some 48), .move (.tmp 0), none, [], true⟩,
    ⟨(some 49), .move (.tmp 1), none, [], true⟩,
    ⟨(some 50), .move (.tmp 2), none, [], true⟩,
    ⟨(some 51), .move (.tmp 4), none, [], true⟩,
    ⟨(some 52), .call (.const (.func (.func 49) #[] #[])) [(.tmp 48), (.tmp 49), (.tmp 50), (.tmp 51)], none, [], true⟩,
    ⟨(some 47), .move (.tmp 52), none, [], true⟩,
    ⟨(some 53), .extract (.tmp 47) 0, none, [], true⟩,
    ⟨(some 54), .extract (.tmp 47) 1, none, [], true⟩,
    ⟨(some 13), .move (.tmp 53), none, [], true⟩,
    ⟨(some 14), .move (.tmp 54), none, [], true⟩])
  (.seq (.seq (.region [
    ⟨(some 55), .move (.tmp 14), none, [], true⟩,
    ⟨(some 56), .bin .eql (.tmp 55) (.const (.int .i64 2)), none, [], true⟩])
  (.cond (.tmp 56)
   (.seq (.region [
     ⟨(some 57), .move (.tmp 0), none, [], true⟩,
     ⟨(some 58), .move (.tmp 1), none, [], true⟩,
     ⟨(some 59), .move (.tmp 2), none, [], true⟩,
     ⟨(some 60), .move (.tmp 4), none, [], true⟩,
     ⟨(some 61), .call (.const (.func (.func 50) #[] #[])) [(.tmp 57), (.tmp 58), (.tmp 59), (.tmp 60)], none, [], true⟩])
   (.seq (.region [
     ⟨(some 62), .move (.tmp 2), none, [], true⟩,
     ⟨(some 63), .bin .sub (.tmp 62) (.const (.int .i64 1)), none, [], true⟩,
     ⟨(some 64), .move (.tmp 13), none, [], true⟩,
     ⟨(some 65), .move (.tmp 1), none, [], true⟩,
     ⟨(some 66), .bin .sub (.tmp 64) (.tmp 65), none, [], true⟩,
     ⟨(some 67), .bin .sub (.tmp 63) (.tmp 66), none, [], true⟩,
     ⟨(some 13), .move (.tmp 67), none, [], true⟩])
   (.region [
     ⟨(some 14), .move (.const (.int .i64 1)), none, [], true⟩])))
   .skip))
  (.seq (.seq (.region [
    ⟨(some 68), .move (.tmp 10), none, [], true⟩,
    ⟨(some 69), .move (.tmp 68), none, [], true⟩,
    ⟨(some 70), .move (.tmp 11), (some (69, true)), [], true⟩,
    ⟨(some 71), .pick (.tmp 69) (.tmp 70) (.const (.bool false)), none, [], true⟩,
    ⟨(some 72), .move (.tmp 71), none, [], true⟩,
    ⟨(some 73), .move (.tmp 14), (some (72, true)), [], true⟩,
    ⟨(some 74), .bin .eql (.tmp 73) (.const (.int .i64 1)), (some (72, true)), [], true⟩,
    ⟨(some 75), .pick (.tmp 72) (.tmp 74) (.const (.bool false)), none, [], true⟩])
  (.cond (.tmp 75)
   (.seq (.region [
     ⟨(some 76), .move (.tmp 0), none, [], true⟩,
     ⟨(some 77), .move (.tmp 1), none, [], true⟩,
     ⟨(some 78), .move (.tmp 2), none, [], true⟩,
     ⟨(some 79), .move (.tmp 4), none, [], true⟩,
     ⟨(some 80), .call (.const (.func (.func 51) #[] #[])) [(.tmp 76), (.tmp 77), (.tmp 78), (.tmp 79)], none, [], true⟩])
   (.cond (.tmp 80)
    .ret
    .skip))
   .skip))
  (.seq (.seq (.drawn [
    ⟨(some 81), .move (.tmp 1), none, [], true⟩,
    ⟨(some 82), .bin .gtr (.tmp 81) (.const (.int .i64 0)), none, [0], true⟩,
    ⟨(some 83), .move (.tmp 82), none, [1, 0], true⟩,
    ⟨(some 84), .move (.tmp 4), (some (83, true)), [2, 1, 0], false⟩,
    ⟨(some 85), .move (.tmp 0), (some (83, true)), [2, 1, 0], false⟩,
    ⟨(some 86), .move (.tmp 1), (some (83, true)), [2, 1, 0], false⟩,
    ⟨(some 87), .bin .sub (.tmp 86) (.const (.int .i64 1)), (some (83, true)), [5, 2, 1, 0], false⟩,
    ⟨(some 88), .indexAddr 2 (.tmp 85) (.tmp 87), (some (83, true)), [4, 6, 2, 1, 0, 5], false⟩,
    ⟨(some 89), .load (some 2) (.tmp 88), (some (83, true)), [7, 2, 4, 6, 1, 0, 5], false⟩,
    ⟨(some 90), .move (.tmp 0), (some (83, true)), [2, 1, 0], false⟩,
    ⟨(some 91), .move (.tmp 13), (some (83, true)), [2, 1, 0], false⟩,
    ⟨(some 92), .indexAddr 2 (.tmp 90) (.tmp 91), (some (83, true)), [9, 10, 2, 1, 0], false⟩,
    ⟨(some 93), .load (some 2) (.tmp 92), (some (83, true)), [11, 2, 9, 10, 1, 0], false⟩,
    ⟨(some 94), .call (.tmp 84) [(.tmp 89), (.tmp 93)], (some (83, true)), [3, 8, 12, 2, 1, 0, 7, 4, 6, 5, 11, 9, 10], true⟩,
    ⟨(some 95), .bin .lss (.tmp 94) (.const (.int .i64 0)), (some (83, true)), [13, 2, 3, 8, 12, 1, 0, 7, 4, 6, 5, 11, 9, 10], true⟩,
    ⟨(some 96), .un .not (.tmp 95), (some (83, true)), [14, 2, 13, 3, 8, 12, 1, 0, 7, 4, 6, 5, 11, 9, 10], true⟩,
    ⟨(some 97), .pick (.tmp 83) (.tmp 96) (.const (.bool false)), none, [2, 15, 1, 0, 14, 13, 3, 8, 12, 7, 4, 6, 5, 11, 9, 10], true⟩])
  (.cond (.tmp 97)
   (.seq (.region [
     ⟨(some 98), .move (.tmp 0), none, [], true⟩,
     ⟨(some 99), .move (.tmp 1), none, [], true⟩,
     ⟨(some 100), .move (.tmp 2), none, [], true⟩,
     ⟨(some 101), .move (.tmp 13), none, [], true⟩,
     ⟨(some 102), .move (.tmp 4), none, [], true⟩,
     ⟨(some 103), .call (.const (.func (.func 52) #[] #[])) [(.tmp 98), (.tmp 99), (.tmp 100), (.tmp 101), (.tmp 102)], none, [], true⟩,
     ⟨(some 15), .move (.tmp 103), none, [], true⟩])
   (.seq (.region [
     ⟨(some 104), .move (.tmp 15), none, [], true⟩,
     ⟨(some 1), .move (.tmp 104), none, [], true⟩])
   (.exit 1)))
   .skip))
  (.seq (.region [
    ⟨(some 106), .move (.tmp 0), none, [], true⟩,
    ⟨(some 107), .move (.tmp 1), none, [], true⟩,
    ⟨(some 108), .move (.tmp 2), none, [], true⟩,
    ⟨(some 109), .move (.tmp 13), none, [], true⟩,
    ⟨(some 110), .move (.tmp 4), none, [], true⟩,
    ⟨(some 111), .call (.const (.func (.func 53) #[] #[])) [(.tmp 106), (.tmp 107), (.tmp 108), (.tmp 109), (.tmp 110)], none, [], true⟩,
    ⟨(some 105), .move (.tmp 111), none, [], true⟩,
    ⟨(some 112), .extract (.tmp 105) 0, none, [], true⟩,
    ⟨(some 113), .extract (.tmp 105) 1, none, [], true⟩,
    ⟨(some 16), .move (.tmp 112), none, [], true⟩,
    ⟨(some 17), .move (.tmp 113), none, [], true⟩])
  (.seq (.region [
    ⟨(some 114), .move (.tmp 17), none, [], true⟩,
    ⟨(some 11), .move (.tmp 114), none, [], true⟩])
  (.seq (.region [
    ⟨(some 115), .move (.tmp 16), none, [], true⟩,
    ⟨(some 116), .move (.tmp 1), none, [], true⟩,
    ⟨(some 117), .bin .sub (.tmp 115) (.tmp 116), none, [], true⟩,
    ⟨(some 118), .move (.tmp 2), none, [], true⟩,
    ⟨(some 119), .move (.tmp 16), none, [], true⟩,
    ⟨(some 120), .bin .sub (.tmp 118) (.tmp 119), none, [], true⟩,
    ⟨(some 18), .move (.tmp 117), none, [], true⟩,
    ⟨(some 19), .move (.tmp 120), none, [], true⟩])
  (.seq (.region [
    ⟨(some 121), .move (.tmp 12), none, [], true⟩,
    ⟨(some 122), .bin .quo (.tmp 121) (.const (.int .i64 8)), none, [], true⟩,
    ⟨(some 20), .move (.tmp 122), none, [], true⟩])
  (.seq (.region [
    ⟨(some 123), .move (.tmp 18), none, [], true⟩,
    ⟨(some 124), .move (.tmp 19), none, [], true⟩,
    ⟨(some 125), .bin .lss (.tmp 123) (.tmp 124), none, [], true⟩])
  (.cond (.tmp 125)
   (.seq (.region [
     ⟨(some 126), .move (.tmp 18), none, [], true⟩,
     ⟨(some 127), .move (.tmp 20), none, [], true⟩,
     ⟨(some 128), .bin .geq (.tmp 126) (.tmp 127), none, [], true⟩,
     ⟨(some 10), .move (.tmp 128), none, [], true⟩])
   (.seq (.region [
     ⟨(some 129), .move (.tmp 0), none, [], true⟩,
     ⟨(some 130), .move (.tmp 1), none, [], true⟩,
     ⟨(some 131), .move (.tmp 16), none, [], true⟩,
     ⟨(some 132), .move (.tmp 3), none, [], true⟩,
     ⟨(some 133), .move (.tmp 4), none, [], true⟩,
     ⟨(some 134), .call (.const (.func (.func 44) #[] #[])) [(.tmp 129), (.tmp 130), (.tmp 131), (.tmp 132), (.tmp 133)], none, [], true⟩])
   (.region [
     ⟨(some 135), .move (.tmp 16), none, [], true⟩,
     ⟨(some 136), .bin .add (.tmp 135) (.const (.int .i64 1)), none, [], true⟩,
     ⟨(some 1), .move (.tmp 136), none, [], true⟩])))
   (.seq (.region [
     ⟨(some 137), .move (.tmp 19), none, [], true⟩,
     ⟨(some 138), .move (.tmp 20), none, [], true⟩,
     ⟨(some 139), .bin .geq (.tmp 137) (.tmp 138), none, [], true⟩,
     ⟨(some 10), .move (.tmp 139), none, [], true⟩])
   (.seq (.region [
     ⟨(some 140), .move (.tmp 0), none, [], true⟩,
     ⟨(some 141), .move (.tmp 16), none, [], true⟩,
     ⟨(some 142), .bin .add (.tmp 141) (.const (.int .i64 1)), none, [], true⟩,
     ⟨(some 143), .move (.tmp 2), none, [], true⟩,
     ⟨(some 144), .move (.tmp 3), none, [], true⟩,
     ⟨(some 145), .move (.tmp 4), none, [], true⟩,
     ⟨(some 146), .call (.const (.func (.func 44) #[] #[])) [(.tmp 140), (.tmp 142), (.tmp 143), (.tmp 144), (.tmp 145)], none, [], true⟩])
   (.region [
     ⟨(some 147), .move (.tmp 16), none, [], true⟩,
     ⟨(some 2), .move (.tmp 147), none, [], true⟩])))))))))))))))))))))) }
theorem ir44_eq : funcC Try.prog 44 = some ir44 := by kernel_rfl
/-- math/bits.Len -/
def ir45 : IFunc :=
{ ntmps := 8, results := [.tmp 2], body :=
  (.seq (.region [
    ⟨(some 2), .move (.const (.int .i64 0)), none, [], true⟩])
  (.seq (.cond (.const (.bool false))
   (.seq (.region [
     ⟨(some 3), .move (.tmp 0), none, [], true⟩,
     ⟨(some 4), .conv .u32 (.tmp 3), none, [], true⟩,
     ⟨(some 5), .call (.const (.func (.func 54) #[] #[])) [(.tmp 4)], none, [], true⟩,
     ⟨(some 2), .move (.tmp 5), none, [], true⟩])
   .ret)
   .skip)
  (.seq (.region [
    ⟨(some 6), .move (.tmp 0), none, [], true⟩,
    ⟨(some 7), .call (.const (.func (.func 55) #[] #[])) [(.tmp 6)], none, [], true⟩,
    ⟨(some 2), .move (.tmp 7), none, [], true⟩])
  .ret))) }
theorem ir45_eq : funcC Try.prog 45 = some ir45 := by kernel_rfl
/-- slices.insertionSortCmpFunc[wagonway/shelf.key] -/
def ir46 : IFunc :=
{ ntmps := 53, results := [], body :=
  (.seq (.region [
    ⟨(some 10), .move (.tmp 1), none, [], true⟩,
    ⟨(some 11), .bin .add (.tmp 10) (.const (.int .i64 1)), none, [], true⟩,
    ⟨(some 8), .move (.tmp 11), none, [], true⟩])
  (.block 0 (.loop (.seq (.seq (.region [
    ⟨(some 12), .move (.tmp 8), none, [], true⟩,
    ⟨(some 13), .move (.tmp 2), none, [], true⟩,
    ⟨(some 14), .bin .lss (.tmp 12) (.tmp 13), none, [], true⟩])
  (.cond (.tmp 14)
   .skip
   (.exit 0)))
  (.seq (.block 1 (.seq (.region [
    ⟨(some 17), .move (.tmp 8), none, [], true⟩,
    ⟨(some 9), .move (.tmp 17), none, [], true⟩])
  (.block 2 (.loop (.seq (.seq (.drawn [
    ⟨(some 18), .move (.tmp 9), none, [], true⟩,
    ⟨(some 19), .move (.tmp 1), none, [], true⟩,
    ⟨(some 20), .bin .gtr (.tmp 18) (.tmp 19), none, [0, 1], true⟩,
    ⟨(some 21), .move (.tmp 20), none, [2, 0, 1], true⟩,
    ⟨(some 22), .move (.tmp 3), (some (21, true)), [3, 2, 0, 1], false⟩,
    ⟨(some 23), .move (.tmp 0), (some (21, true)), [3, 2, 0, 1], false⟩,
    ⟨(some 24), .move (.tmp 9), (some (21, true)), [3, 2, 0, 1], false⟩,
    ⟨(some 25), .indexAddr 2 (.tmp 23) (.tmp 24), (some (21, true)), [5, 6, 3, 2, 0, 1], false⟩,
    ⟨(some 26), .load (some 2) (.tmp 25), (some (21, true)), [7, 3, 5, 6, 2, 0, 1], false⟩,
    ⟨(some 27), .move (.tmp 0), (some (21, true)), [3, 2, 0, 1], false⟩,
    ⟨(some 28), .move (.tmp 9), (some (21, true)), [3, 2, 0, 1], false⟩,
    ⟨(some 29), .bin .sub (.tmp 28) (.const (.int .i64 1)), (some (21, true)), [10, 3, 2, 0, 1], false⟩,
    ⟨(some 30), .indexAddr 2 (.tmp 27) (.tmp 29), (some (21, true)), [9, 11, 3, 2, 0, 1, 10], false⟩,
    ⟨(some 31), .load (some 2) (.tmp 30), (some (21, true)), [12, 3, 9, 11, 2, 0, 1, 10], false⟩,
    ⟨(some 32), .call (.tmp 22) [(.tmp 26), (.tmp 31)], (some (21, true)), [4, 8, 13, 3, 2, 0, 1, 7, 5, 6, 12, 9, 11, 10], true⟩,
    ⟨(some 33), .bin .lss (.tmp 32) (.const (.int .i64 0)), (some (21, true)), [14, 3, 4, 8, 13, 2, 0, 1, 7, 5, 6, 12, 9, 11, 10], true⟩,
    ⟨(some 34), .pick (.tmp 21) (.tmp 33) (.const (.bool false)), none, [3, 15, 2, 0, 1, 14, 4, 8, 13, 7, 5, 6, 12, 9, 11, 10], true⟩])
  (.cond (.tmp 34)
   .skip
   (.exit 2)))
  (.seq (.block 3 (.drawn [
    ⟨(some 37), .move (.tmp 0), none, [], false⟩,
    ⟨(some 38), .move (.tmp 9), none, [], false⟩,
    ⟨(some 39), .move (.tmp 0), none, [], false⟩,
    ⟨(some 40), .move (.tmp 9), none, [], false⟩,
    ⟨(some 41), .bin .sub (.tmp 40) (.const (.int .i64 1)), none, [3], false⟩,
    ⟨(some 42), .move (.tmp 0), none, [], false⟩,
    ⟨(some 43), .move (.tmp 9), none, [], false⟩,
    ⟨(some 44), .bin .sub (.tmp 43) (.const (.int .i64 1)), none, [6], false⟩,
    ⟨(some 45), .indexAddr 2 (.tmp 42) (.tmp 44), none, [5, 7, 6], false⟩,
    ⟨(some 46), .load (some 2) (.tmp 45), none, [8, 5, 7, 6], false⟩,
    ⟨(some 47), .move (.tmp 0), none, [], false⟩,
    ⟨(some 48), .move (.tmp 9), none, [], false⟩,
    ⟨(some 49), .indexAddr 2 (.tmp 47) (.tmp 48), none, [10, 11], false⟩,
    ⟨(some 50), .load (some 2) (.tmp 49), none, [12, 10, 11], false⟩,
    ⟨(some 51), .indexAddr 2 (.tmp 37) (.tmp 38), none, [0, 1, 5, 6, 7, 8, 9, 13, 12, 10, 11], true⟩,
    ⟨none, .store 2 (.tmp 51) (.tmp 46), none, [14, 9, 0, 1, 5, 6, 7, 8, 13, 12, 10, 11], true⟩,
    ⟨(some 52), .indexAddr 2 (.tmp 39) (.tmp 41), none, [2, 4, 0, 1, 3, 5, 6, 7, 8, 9, 10, 11, 12, 13, 14, 15], true⟩,
    ⟨none, .store 2 (.tmp 52) (.tmp 50), none, [16, 13, 15, 0, 1, 2, 3, 4, 5, 6, 7, 8, 9, 10, 11, 12, 14], true⟩]))
  (.region [
    ⟨(some 35), .move (.tmp 9), none, [], true⟩,
    ⟨(some 36), .bin .sub (.tmp 35) (.const (.int .i64 1)), none, [], true⟩,
    ⟨(some 9), .move (.tmp 36), none, [], true⟩])))))))
  (.region [
    ⟨(some 15), .move (.tmp 8), none, [], true⟩,
    ⟨(some 16), .bin .add (.tmp 15) (.const (.int .i64 1)), none, [], true⟩,
    ⟨(some 8), .move (.tmp 16), none, [], true⟩])))))) }
theorem ir46_eq : funcC Try.prog 46 = some ir46 := by kernel_rfl
/-- slices.heapSortCmpFunc[wagonway/shelf.key] -/
def ir47 : IFunc :=
{ ntmps := 60, results := [], body :=
  (.seq (.region [
    ⟨(some 13), .move (.tmp 1), none, [], true⟩,
    ⟨(some 8), .move (.tmp 13), none, [], true⟩])
  (.seq (.region [
    ⟨(some 9), .move (.const (.int .i64 0)), none, [], true⟩])
  (.seq (.region [
    ⟨(some 14), .move (.tmp 2), none, [], true⟩,
    ⟨(some 15), .move (.tmp 1), none, [], true⟩,
    ⟨(some 16), .bin .sub (.tmp 14) (.tmp 15), none, [], true⟩,
    ⟨(some 10), .move (.tmp 16), none, [], true⟩])
  (.seq (.seq (.region [
    ⟨(some 17), .move (.tmp 10), none, [], true⟩,
    ⟨(some 18), .bin .sub (.tmp 17) (.const (.int .i64 1)), none, [], true⟩,
    ⟨(some 19), .bin .quo (.tmp 18) (.const (.int .i64 2)), none, [], true⟩,
    ⟨(some 11), .move (.tmp 19), none, [], true⟩])
  (.block 0 (.loop (.seq (.seq (.region [
    ⟨(some 20), .move (.tmp 11), none, [], true⟩,
    ⟨(some 21), .bin .geq (.tmp 20) (.const (.int .i64 0)), none, [], true⟩])
  (.cond (.tmp 21)
   .skip
   (.exit 0)))
  (.seq (.block 1 (.region [
    ⟨(some 24), .move (.tmp 0), none, [], true⟩,
    ⟨(some 25), .move (.tmp 11), none, [], true⟩,
    ⟨(some 26), .move (.tmp 10), none, [], true⟩,
    ⟨(some 27), .move (.tmp 8), none, [], true⟩,
    ⟨(some 28), .move (.tmp 3), none, [], true⟩,
    ⟨(some 29), .call (.const (.func (.func 56) #[] #[])) [(.tmp 24), (.tmp 25), (.tmp 26), (.tmp 27), (.tmp 28)], none, [], true⟩]))
  (.region [
    ⟨(some 22), .move (.tmp 11), none, [], true⟩,
    ⟨(some 23), .bin .sub (.tmp 22) (.const (.int .i64 1)), none, [], true⟩,
    ⟨(some 11), .move (.tmp 23), none, [], true⟩]))))))
  (.seq (.region [
    ⟨(some 30), .move (.tmp 10), none, [], true⟩,
    ⟨(some 31), .bin .sub (.tmp 30) (.const (.int .i64 1)), none, [], true⟩,
    ⟨(some 12), .move (.tmp 31), none, [], true⟩])
  (.block 2 (.loop (.seq (.seq (.region [
    ⟨(some 32), .move (.tmp 12), none, [], true⟩,
    ⟨(some 33), .bin .geq (.tmp 32) (.const (.int .i64 0)), none, [], true⟩])
  (.cond (.tmp 33)
   .skip
   (.exit 2)))
  (.seq (.block 3 (.seq (.drawn [
    ⟨(some 36), .move (.tmp 0), none, [], false⟩,
    ⟨(some 37), .move (.tmp 8), none, [], false⟩,
    ⟨(some 38), .move (.tmp 0), none, [], false⟩,
    ⟨(some 39), .move (.tmp 8), none, [], false⟩,
    ⟨(some 40), .move (.tmp 12), none, [], false⟩,
    ⟨(some 41), .bin .add (.tmp 39) (.tmp 40), none, [3, 4], false⟩,
    ⟨(some 42), .move (.tmp 0), none, [], false⟩,
    ⟨(some 43), .move (.tmp 8), none, [], false⟩,
    ⟨(some 44), .move (.tmp 12), none, [], false⟩,
    ⟨(some 45), .bin .add (.tmp 43) (.tmp 44), none, [7, 8], false⟩,
    ⟨(some 46), .indexAddr 2 (.tmp 42) (.tmp 45), none, [6, 9, 7, 8], false⟩,
    ⟨(some 47), .load (some 2) (.tmp 46), none, [10, 6, 9, 7, 8], false⟩,
    ⟨(some 48), .move (.tmp 0), none, [], false⟩,
    ⟨(some 49), .move (.tmp 8), none, [], false⟩,
    ⟨(some 50), .indexAddr 2 (.tmp 48) (.tmp 49), none, [12, 13], false⟩,
    ⟨(some 51), .load (some 2) (.tmp 50), none, [14, 12, 13], false⟩,
    ⟨(some 52), .indexAddr 2 (.tmp 36) (.tmp 37), none, [0, 1, 6, 7, 8, 9, 10, 11, 15, 14, 12, 13], true⟩,
    ⟨none, .store 2 (.tmp 52) (.tmp 47), none, [16, 11, 0, 1, 6, 7, 8, 9, 10, 15, 14, 12, 13], true⟩,
    ⟨(some 53), .indexAddr 2 (.tmp 38) (.tmp 41), none, [2, 5, 0, 1, 3, 4, 6, 7, 8, 9, 10, 11, 12, 13, 14, 15, 16, 17], true⟩,
    ⟨none, .store 2 (.tmp 53) (.tmp 51), none, [18, 15, 17, 0, 1, 2, 3, 4, 5, 6, 7, 8, 9, 10, 11, 12, 13, 14, 16], true⟩])
  (.region [
    ⟨(some 54), .move (.tmp 0), none, [], true⟩,
    ⟨(some 55), .move (.tmp 9), none, [], true⟩,
    ⟨(some 56), .move (.tmp 12), none, [], true⟩,
    ⟨(some 57), .move (.tmp 8), none, [], true⟩,
    ⟨(some 58), .move (.tmp 3), none, [], true⟩,
    ⟨(some 59), .call (.const (.func (.func 56) #[] #[])) [(.tmp 54), (.tmp 55), (.tmp 56), (.tmp 57), (.tmp 58)], none, [], true⟩])))
  (.region [
    ⟨(some 34), .move (.tmp 12), none, [], true⟩,
    ⟨(some 35), .bin .sub (.tmp 34) (.const (.int .i64 1)), none, [], true⟩,
    ⟨(some 12), .move (.tmp 35), none, [], true⟩])))))))))) }
theorem ir47_eq : funcC Try.prog 47 = some ir47 := by kernel_rfl
/-- slices.breakPatternsCmpFunc[wagonway/shelf.key] -/
def ir48 : IFunc :=
{ ntmps := 67, results := [], body :=
  (.seq (.region [
    ⟨(some 13), .move (.tmp 2), none, [], true⟩,
    ⟨(some 14), .move (.tmp 1), none, [], true⟩,
    ⟨(some 15), .bin .sub (.tmp 13) (.tmp 14), none, [], true⟩,
    ⟨(some 8), .move (.tmp 15), none, [], true⟩])
  (.seq (.region [
    ⟨(some 16), .move (.tmp 8), none, [], true⟩,
    ⟨(some 17), .bin .geq (.tmp 16) (.const (.int .i64 8)), none, [], true⟩])
  (.cond (.tmp 17)
   (.seq (.region [
     ⟨(some 18), .move (.tmp 8), none, [], true⟩,
     ⟨(some 19), .conv .u64 (.tmp 18), none, [], true⟩,
     ⟨(some 9), .box (.const (.int .u64 0)), none, [], true⟩,
     ⟨none, .store 1 (.tmp 9) (.tmp 19), none, [], true⟩])
   (.seq (.region [
     ⟨(some 20), .move (.tmp 8), none, [], true⟩,
     ⟨(some 21), .call (.const (.func (.func 57) #[] #[])) [(.tmp 20)], none, [], true⟩,
     ⟨(some 10), .move (.tmp 21), none, [], true⟩])
   (.seq (.region [
     ⟨(some 22), .move (.tmp 1), none, [], true⟩,
     ⟨(some 23), .move (.tmp 8), none, [], true⟩,
     ⟨(some 24), .bin .quo (.tmp 23) (.const (.int .i64 4)), none, [], true⟩,
     ⟨(some 25), .bin .mul (.tmp 24) (.const (.int .i64 2)), none, [], true⟩,
     ⟨(some 26), .bin .add (.tmp 22) (.tmp 25), none, [], true⟩,
     ⟨(some 27), .bin .sub (.tmp 26) (.const (.int .i64 1)), none, [], true⟩,
     ⟨(some 11), .move (.tmp 27), none, [], true⟩])
   (.block 0 (.loop (.seq (.seq (.region [
     ⟨(some 28), .move (.tmp 11), none, [], true⟩,
     ⟨(some 29), .move (.tmp 1), none, [], true⟩,
     ⟨(some 30), .move (.tmp 8), none, [], true⟩,
     ⟨(some 31), .bin .quo (.tmp 30) (.const (.int .i64 4)), none, [], true⟩,
     ⟨(some 32), .bin .mul (.tmp 31) (.const (.int .i64 2)), none, [], true⟩,
     ⟨(some 33), .bin .add (.tmp 29) (.tmp 32), none, [], true⟩,
     ⟨(some 34), .bin .add (.tmp 33) (.const (.int .i64 1)), none, [], true⟩,
     ⟨(some 35), .bin .leq (.tmp 28) (.tmp 34), none, [], true⟩])
   (.cond (.tmp 35)
    .skip
    (.exit 0)))
   (.seq (.block 1 (.seq (.region [
     ⟨(some 38), .call (.const (.func (.func 58) #[] #[])) [(.tmp 9)], none, [], true⟩,
     ⟨(some 39), .move (.tmp 10), none, [], true⟩,
     ⟨(some 40), .bin .sub (.tmp 39) (.const (.int .u64 1)), none, [], true⟩,
     ⟨(some 41), .bin .and (.tmp 38) (.tmp 40), none, [], true⟩,
     ⟨(some 42), .conv .i64 (.tmp 41), none, [], true⟩,
     ⟨(some 12), .move (.tmp 42), none, [], true⟩])
   (.seq (.seq (.region [
     ⟨(some 43), .move (.tmp 12), none, [], true⟩,
     ⟨(some 44), .move (.tmp 8), none, [], true⟩,
     ⟨(some 45), .bin .geq (.tmp 43) (.tmp 44), none, [], true⟩])
   (.cond (.tmp 45)
    (.region [
      ⟨(some 46), .move (.tmp 12), none, [], true⟩,
      ⟨(some 47), .move (.tmp 8), none, [], true⟩,
      ⟨(some 48), .bin .sub (.tmp 46) (.tmp 47), none, [], true⟩,
      ⟨(some 12), .move (.tmp 48), none, [], true⟩])
    .skip))
   (.drawn [
     ⟨(some 49), .move (.tmp 0), none, [], false⟩,
     ⟨(some 50), .move (.tmp 11), none, [], false⟩,
     ⟨(some 51), .move (.tmp 0), none, [], false⟩,
     ⟨(some 52), .move (.tmp 1), none, [], false⟩,
     ⟨(some 53), .move (.tmp 12), none, [], false⟩,
     ⟨(some 54), .bin .add (.tmp 52) (.tmp 53), none, [3, 4], false⟩,
     ⟨(some 55), .move (.tmp 0), none, [], false⟩,
     ⟨(some 56), .move (.tmp 1), none, [], false⟩,
     ⟨(some 57), .move (.tmp 12), none, [], false⟩,
     ⟨(some 58), .bin .add (.tmp 56) (.tmp 57), none, [7, 8], false⟩,
     ⟨(some 59), .indexAddr 2 (.tmp 55) (.tmp 58), none, [6, 9, 7, 8], false⟩,
     ⟨(some 60), .load (some 2) (.tmp 59), none, [10, 6, 9, 7, 8], false⟩,
     ⟨(some 61), .move (.tmp 0), none, [], false⟩,
     ⟨(some 62), .move (.tmp 11), none, [], false⟩,
     ⟨(some 63), .indexAddr 2 (.tmp 61) (.tmp 62), none, [12, 13], false⟩,
     ⟨(some 64), .load (some 2) (.tmp 63), none, [14, 12, 13], false⟩,
     ⟨(some 65), .indexAddr 2 (.tmp 49) (.tmp 50), none, [0, 1, 6, 7, 8, 9, 10, 11, 15, 14, 12, 13], true⟩,
     ⟨none, .store 2 (.tmp 65) (.tmp 60), none, [16, 11, 0, 1, 6, 7, 8, 9, 10, 15, 14, 12, 13], true⟩,
     ⟨(some 66), .indexAddr 2 (.tmp 51) (.tmp 54), none, [2, 5, 0, 1, 3, 4, 6, 7, 8, 9, 10, 11, 12, 13, 14, 15, 16, 17], true⟩,
     ⟨none, .store 2 (.tmp 66) (.tmp 64), none, [18, 15, 17, 0, 1, 2, 3, 4, 5, 6, 7, 8, 9, 10, 11, 12, 13, 14, 16], true⟩]))))
   (.region [
     ⟨(some 36), .move (.tmp 11), none, [], true⟩,
     ⟨(some 37), .bin .add (.tmp 36) (.const (.int .i64 1)), none, [], true⟩,
     ⟨(some 11), .move (.tmp 37), none, [], true⟩]))))))))
   .skip))) }
theorem ir48_eq : funcC Try.prog 48 = some ir48 := by kernel_rfl
/-- slices.choosePivotCmpFunc[wagonway/shelf.key] -/
def ir49 : IFunc :=
{ ntmps := 63, results := [.tmp 8, .tmp 9], body :=
  (.seq (.region [
    ⟨(some 8), .move (.const (.int .i64 0)), none, [], true⟩,
    ⟨(some 9), .move (.const (.int .i64 0)), none, [], true⟩])
  (.seq (.region [
    ⟨(some 15), .move (.tmp 2), none, [], true⟩,
    ⟨(some 16), .move (.tmp 1), none, [], true⟩,
    ⟨(some 17), .bin .sub (.tmp 15) (.tmp 16), none, [], true⟩,
    ⟨(some 10), .move (.tmp 17), none, [], true⟩])
  (.seq (.region [
    ⟨(some 11), .box (.const (.int .i64 0)), none, [], true⟩])
  (.seq (.region [
    ⟨(some 18), .move (.tmp 1), none, [], true⟩,
    ⟨(some 19), .move (.tmp 10), none, [], true⟩,
    ⟨(some 20), .bin .quo (.tmp 19) (.const (.int .i64 4)), none, [], true⟩,
    ⟨(some 21), .bin .mul (.tmp 20) (.const (.int .i64 1)), none, [], true⟩,
    ⟨(some 22), .bin .add (.tmp 18) (.tmp 21), none, [], true⟩,
    ⟨(some 12), .move (.tmp 22), none, [], true⟩])
  (.seq (.region [
    ⟨(some 23), .move (.tmp 1), none, [], true⟩,
    ⟨(some 24), .move (.tmp 10), none, [], true⟩,
    ⟨(some 25), .bin .quo (.tmp 24) (.const (.int .i64 4)), none, [], true⟩,
    ⟨(some 26), .bin .mul (.tmp 25) (.const (.int .i64 2)), none, [], true⟩,
    ⟨(some 27), .bin .add (.tmp 23) (.tmp 26), none, [], true⟩,
    ⟨(some 13), .move (.tmp 27), none, [], true⟩])
  (.seq (.region [
    ⟨(some 28), .move (.tmp 1), none, [], true⟩,
    ⟨(some 29), .move (.tmp 10), none, [], true⟩,
    ⟨(some 30), .bin .quo (.tmp 29) (.const (.int .i64 4)), none, [], true⟩,
    ⟨(some 31), .bin .mul (.tmp 30) (.const (.int .i64 3)), none, [], true⟩,
    ⟨(some 32), .bin .add (.tmp 28) (.tmp 31), none, [], true⟩,
    ⟨(some 14), .move (.tmp 32), none, [], true⟩])
  (.seq (.seq (.region [
    ⟨(some 33), .move (.tmp 10), none, [], true⟩,
    ⟨(some 34), .bin .geq (.tmp 33) (.const (.int .i64 8)), none, [], true⟩])
  (.cond (.tmp 34)
   (.seq (.seq (.region [
     ⟨(some 35), .move (.tmp 10), none, [], true⟩,
     ⟨(some 36), .bin .geq (.tmp 35) (.const (.int .i64 50)), none, [], true⟩])
   (.cond (.tmp 36)
    (.seq (.region [
      ⟨(some 37), .move (.tmp 0), none, [], true⟩,
      ⟨(some 38), .move (.tmp 12), none, [], true⟩,
      ⟨(some 39), .move (.tmp 3), none, [], true⟩,
      ⟨(some 40), .call (.const (.func (.func 59) #[] #[])) [(.tmp 37), (.tmp 38), (.tmp 11), (.tmp 39)], none, [], true⟩,
      ⟨(some 12), .move (.tmp 40), none, [], true⟩])
    (.seq (.region [
      ⟨(some 41), .move (.tmp 0), none, [], true⟩,
      ⟨(some 42), .move (.tmp 13), none, [], true⟩,
      ⟨(some 43), .move (.tmp 3), none, [], true⟩,
      ⟨(some 44), .call (.const (.func (.func 59) #[] #[])) [(.tmp 41), (.tmp 42), (.tmp 11), (.tmp 43)], none, [], true⟩,
      ⟨(some 13), .move (.tmp 44), none, [], true⟩])
    (.region [
      ⟨(some 45), .move (.tmp 0), none, [], true⟩,
      ⟨(some 46), .move (.tmp 14), none, [], true⟩,
      ⟨(some 47), .move (.tmp 3), none, [], true⟩,
      ⟨(some 48), .call (.const (.func (.func 59) #[] #[])) [(.tmp 45), (.tmp 46), (.tmp 11), (.tmp 47)], none, [], true⟩,
      ⟨(some 14), .move (.tmp 48), none, [], true⟩])))
    .skip))
   (.region [
     ⟨(some 49), .move (.tmp 0), none, [], true⟩,
     ⟨(some 50), .move (.tmp 12), none, [], true⟩,
     ⟨(some 51), .move (.tmp 13), none, [], true⟩,
     ⟨(some 52), .move (.tmp 14), none, [], true⟩,
     ⟨(some 53), .move (.tmp 3), none, [], true⟩,
     ⟨(some 54), .call (.const (.func (.func 60) #[] #[])) [(.tmp 49), (.tmp 50), (.tmp 51), (.tmp 52), (.tmp 11), (.tmp 53)], none, [], true⟩,
     ⟨(some 13), .move (.tmp 54), none, [], true⟩]))
   .skip))
  (.seq (.region [
    ⟨(some 55), .load none (.tmp 11), none, [], true⟩])
  (.block 0 (.seq (.region [
    ⟨(some 58), .bin .eql (.tmp 55) (.const (.int .i64 0)), none, [], true⟩,
    ⟨(some 57), .move (.tmp 58), none, [], true⟩])
  (.cond (.tmp 57)
   (.seq (.region [
     ⟨(some 59), .move (.tmp 13), none, [], true⟩,
     ⟨(some 8), .move (.tmp 59), none, [], true⟩,
     ⟨(some 9), .move (.const (.int .i64 1)), none, [], true⟩])
   .ret)
   (.seq (.region [
     ⟨(some 61), .bin .eql (.tmp 55) (.const (.int .i64 12)), none, [], true⟩,
     ⟨(some 60), .move (.tmp 61), none, [], true⟩])
   (.cond (.tmp 60)
    (.seq (.region [
      ⟨(some 62), .move (.tmp 13), none, [], true⟩,
      ⟨(some 8), .move (.tmp 62), none, [], true⟩,
      ⟨(some 9), .move (.const (.int .i64 2)), none, [], true⟩])
    .ret)
    (.seq (.region [
      ⟨(some 56), .move (.tmp 13), none, [], true⟩,
      ⟨(some 8), .move (.tmp 56), none, [], true⟩,
      ⟨(some 9), .move (.const (.int .i64 0)), none, [], true⟩])
    .ret)))))))))))))) }
theorem ir49_eq : funcC Try.prog 49 = some ir49 := by kernel_rfl
/-- slices.reverseRangeCmpFunc[wagonway/shelf.key] -/
def ir50 : IFunc :=
{ ntmps := 34, results := [], body :=
  (.seq (.region [
    ⟨(some 10), .move (.tmp 1), none, [], true⟩,
    ⟨(some 8), .move (.tmp 10), none, [], true⟩])
  (.seq (.region [
    ⟨(some 11), .move (.tmp 2), none, [], true⟩,
    ⟨(some 12), .bin .sub (.tmp 11) (.const (.int .i64 1)), none, [], true⟩,
    ⟨(some 9), .move (.tmp 12), none, [], true⟩])
  (.block 0 (.loop (.seq (.seq (.region [
    ⟨(some 13), .move (.tmp 8), none, [], true⟩,
    ⟨(some 14), .move (.tmp 9), none, [], true⟩,
    ⟨(some 15), .bin .lss (.tmp 13) (.tmp 14), none, [], true⟩])
  (.cond (.tmp 15)
   .skip
   (.exit 0)))
  (.block 1 (.seq (.drawn [
    ⟨(some 16), .move (.tmp 0), none, [], false⟩,
    ⟨(some 17), .move (.tmp 8), none, [], false⟩,
    ⟨(some 18), .move (.tmp 0), none, [], false⟩,
    ⟨(some 19), .move (.tmp 9), none, [], false⟩,
    ⟨(some 20), .move (.tmp 0), none, [], false⟩,
    ⟨(some 21), .move (.tmp 9), none, [], false⟩,
    ⟨(some 22), .indexAddr 2 (.tmp 20) (.tmp 21), none, [4, 5], false⟩,
    ⟨(some 23), .load (some 2) (.tmp 22), none, [6, 4, 5], false⟩,
    ⟨(some 24), .move (.tmp 0), none, [], false⟩,
    ⟨(some 25), .move (.tmp 8), none, [], false⟩,
    ⟨(some 26), .indexAddr 2 (.tmp 24) (.tmp 25), none, [8, 9], false⟩,
    ⟨(some 27), .load (some 2) (.tmp 26), none, [10, 8, 9], false⟩,
    ⟨(some 28), .indexAddr 2 (.tmp 16) (.tmp 17), none, [0, 1, 4, 5, 6, 7, 11, 10, 8, 9], true⟩,
    ⟨none, .store 2 (.tmp 28) (.tmp 23), none, [12, 7, 0, 1, 4, 5, 6, 11, 10, 8, 9], true⟩,
    ⟨(some 29), .indexAddr 2 (.tmp 18) (.tmp 19), none, [2, 3, 0, 1, 4, 5, 6, 7, 8, 9, 10, 11, 12, 13], true⟩,
    ⟨none, .store 2 (.tmp 29) (.tmp 27), none, [14, 11, 13, 0, 1, 2, 3, 4, 5, 6, 7, 8, 9, 10, 12], true⟩])
  (.seq (.region [
    ⟨(some 30), .move (.tmp 8), none, [], true⟩,
    ⟨(some 31), .bin .add (.tmp 30) (.const (.int .i64 1)), none, [], true⟩,
    ⟨(some 8), .move (.tmp 31), none, [], true⟩])
  (.region [
    ⟨(some 32), .move (.tmp 9), none, [], true⟩,
    ⟨(some 33), .bin .sub (.tmp 32) (.const (.int .i64 1)), none, [], true⟩,
    ⟨(some 9), .move (.tmp 33), none, [], true⟩]))))))))) }
theorem ir50_eq : funcC Try.prog 50 = some ir50 := by kernel_rfl
/-- slices.partialInsertionSortCmpFunc[wagonway/shelf.key] -/
def ir51 : IFunc :=
{ ntmps := 141, results := [.tmp 8], body :=
  (.seq (.region [
    ⟨(some 8), .move (.const (.bool false)), none, [], true⟩])
  (.seq (.region [
    ⟨(some 13), .move (.tmp 1), none, [], true⟩,
    ⟨(some 14), .bin .add (.tmp 13) (.const (.int .i64 1)), none, [], true⟩,
    ⟨(some 9), .move (.tmp 14), none, [], true⟩])
  (.seq (.seq (.region [
    ⟨(some 10), .move (.const (.int .i64 0)), none, [], true⟩])
  (.block 0 (.loop (.seq (.seq (.region [
    ⟨(some 15), .move (.tmp 10), none, [], true⟩,
    ⟨(some 16), .bin .lss (.tmp 15) (.const (.int .i64 5)), none, [], true⟩])
  (.cond (.tmp 16)
   .skip
   (.exit 0)))
  (.seq (.block 1 (.seq (.block 2 (.loop (.seq (.seq (.drawn [
    ⟨(some 19), .move (.tmp 9), none, [], true⟩,
    ⟨(some 20), .move (.tmp 2), none, [], true⟩,
    ⟨(some 21), .bin .lss (.tmp 19) (.tmp 20), none, [0, 1], true⟩,
    ⟨(some 22), .move (.tmp 21), none, [2, 0, 1], true⟩,
    ⟨(some 23), .move (.tmp 3), (some (22, true)), [3, 2, 0, 1], false⟩,
    ⟨(some 24), .move (.tmp 0), (some (22, true)), [3, 2, 0, 1], false⟩,
    ⟨(some 25), .move (.tmp 9), (some (22, true)), [3, 2, 0, 1], false⟩,
    ⟨(some 26), .indexAddr 2 (.tmp 24) (.tmp 25), (some (22, true)), [5, 6, 3, 2, 0, 1], false⟩,
    ⟨(some 27), .load (some 2) (.tmp 26), (some (22, true)), [7, 3, 5, 6, 2, 0, 1], false⟩,
    ⟨(some 28), .move (.tmp 0), (some (22, true)), [3, 2, 0, 1], false⟩,
    ⟨(some 29), .move (.tmp 9), (some (22, true)), [3, 2, 0, 1], false⟩,
    ⟨(some 30), .bin .sub (.tmp 29) (.const (.int .i64 1)), (some (22, true)), [10, 3, 2, 0, 1], false⟩,
    ⟨(some 31), .indexAddr 2 (.tmp 28) (.tmp 30), (some (22, true)), [9, 11, 3, 2, 0, 1, 10], false⟩,
    ⟨(some 32), .load (some 2) (.tmp 31), (some (22, true)), [12, 3, 9, 11, 2, 0, 1, 10], false⟩,
    ⟨(some 33), .call (.tmp 23) [(.tmp 27), (.tmp 32)], (some (22, true)), [4, 8, 13, 3, 2, 0, 1, 7, 5, 6, 12, 9, 11, 10], true⟩,
    ⟨(some 34), .bin .lss (.tmp 33) (.const (.int .i64 0)), (some (22, true)), [14, 3, 4, 8, 13, 2, 0, 1, 7, 5, 6, 12, 9, 11, 10], true⟩,
    ⟨(some 35), .un .not (.tmp 34), (some (22, true)), [15, 3, 14, 4, 8, 13, 2, 0, 1, 7, 5, 6, 12, 9, 11, 10], true⟩,
    ⟨(some 36), .pick (.tmp 22) (.tmp 35) (.const (.bool false)), none, [3, 16, 2, 0, 1, 15, 14, 4, 8, 13, 7, 5, 6, 12, 9, 11, 10], true⟩])
  (.cond (.tmp 36)
   .skip
   (.exit 2)))
  (.block 3 (.region [
    ⟨(some 37), .move (.tmp 9), none, [], true⟩,
    ⟨(some 38), .bin .add (.tmp 37) (.const (.int .i64 1)), none, [], true⟩,
    ⟨(some 9), .move (.tmp 38), none, [], true⟩])))))
  (.seq (.seq (.region [
    ⟨(some 39), .move (.tmp 9), none, [], true⟩,
    ⟨(some 40), .move (.tmp 2), none, [], true⟩,
    ⟨(some 41), .bin .eql (.tmp 39) (.tmp 40), none, [], true⟩])
  (.cond (.tmp 41)
   (.seq (.region [
     ⟨(some 8), .move (.const (.bool true)), none, [], true⟩])
   .ret)
   .skip))
  (.seq (.seq (.region [
    ⟨(some 42), .move (.tmp 2), none, [], true⟩,
    ⟨(some 43), .move (.tmp 1), none, [], true⟩,
    ⟨(some 44), .bin .sub (.tmp 42) (.tmp 43), none, [], true⟩,
    ⟨(some 45), .bin .lss (.tmp 44) (.const (.int .i64 50)), none, [], true⟩])
  (.cond (.tmp 45)
   (.seq (.region [
     ⟨(some 8), .move (.const (.bool false)), none, [], true⟩])
   .ret)
   .skip))
  (.seq (.drawn [
    ⟨(some 46), .move (.tmp 0), none, [], false⟩,
    ⟨(some 47), .move (.tmp 9), none, [], false⟩,
    ⟨(some 48), .move (.tmp 0), none, [], false⟩,
    ⟨(some 49), .move (.tmp 9), none, [], false⟩,
    ⟨(some 50), .bin .sub (.tmp 49) (.const (.int .i64 1)), none, [3], false⟩,
    ⟨(some 51), .move (.tmp 0), none, [], false⟩,
    ⟨(some 52), .move (.tmp 9), none, [], false⟩,
    ⟨(some 53), .bin .sub (.tmp 52) (.const (.int .i64 1)), none, [6], false⟩,
    ⟨(some 54), .indexAddr 2 (.tmp 51) (.tmp 53), none, [5, 7, 6], false⟩,
    ⟨(some 55), .load (some 2) (.tmp 54), none, [8, 5, 7, 6], false⟩,
    ⟨(some 56), .move (.tmp 0), none, [], false⟩,
    ⟨(some 57), .move (.tmp 9), none, [], false⟩,
    ⟨(some 58), .indexAddr 2 (.tmp 56) (.tmp 57), none, [10, 11], false⟩,
    ⟨(some 59), .load (some 2) (.tmp 58), none, [12, 10, 11], false⟩,
    ⟨(some 60), .indexAddr 2 (.tmp 46) (.tmp 47), none, [0, 1, 5, 6, 7, 8, 9, 13, 12, 10, 11], true⟩,
    ⟨none, .store 2 (.tmp 60) (.tmp 55), none, [14, 9, 0, 1, 5, 6, 7, 8, 13, 12, 10, 11], true⟩,
    ⟨(some 61), .indexAddr 2 (.tmp 48) (.tmp 50), none, [2, 4, 0, 1, 3, 5, 6, 7, 8, 9, 10, 11, 12, 13, 14, 15], true⟩,
    ⟨none, .store 2 (.tmp 61) (.tmp 59), none, [16, 13, 15, 0, 1, 2, 3, 4, 5, 6, 7, 8, 9, 10, 11, 12, 14], true⟩])
  (.seq (.seq (.region [
    ⟨(some 62), .move (.tmp 9), none, [], true⟩,
    ⟨(some 63), .move (.tmp 1), none, [], true⟩,
    ⟨(some 64), .bin .sub (.tmp 62) (.tmp 63), none, [], true⟩,
    ⟨(some 65), .bin .geq (.tmp 64) (.const (.int .i64 2)), none, [], true⟩])
  (.cond (.tmp 65)
   (.seq (.region [
     ⟨(some 66), .move (.tmp 9), none, [], true⟩,
     ⟨(some 67), .bin .sub (.tmp 66) (.const (.int .i64 1)), none, [], true⟩,
     ⟨(some 11), .move (.tmp 67), none, [], true⟩])
   (.block 4 (.loop (.seq (.seq (.region [
     ⟨(some 68), .move (.tmp 11), none, [], true⟩,
     ⟨(some 69), .bin .geq (.tmp 68) (.const (.int .i64 1)), none, [], true⟩])
   (.cond (.tmp 69)
    .skip
    (.exit 4)))
   (.seq (.block 5 (.seq (.seq (.drawn [
     ⟨(some 72), .move (.tmp 3), none, [], false⟩,
     ⟨(some 73), .move (.tmp 0), none, [], false⟩,
     ⟨(some 74), .move (.tmp 11), none, [], false⟩,
     ⟨(some 75), .indexAddr 2 (.tmp 73) (.tmp 74), none, [1, 2], false⟩,
     ⟨(some 76), .load (some 2) (.tmp 75), none, [3, 1, 2], false⟩,
     ⟨(some 77), .move (.tmp 0), none, [], false⟩,
     ⟨(some 78), .move (.tmp 11), none, [], false⟩,
     ⟨(some 79), .bin .sub (.tmp 78) (.const (.int .i64 1)), none, [6], false⟩,
     ⟨(some 80), .indexAddr 2 (.tmp 77) (.tmp 79), none, [5, 7, 6], false⟩,
     ⟨(some 81), .load (some 2) (.tmp 80), none, [8, 5, 7, 6], false⟩,
     ⟨(some 82), .call (.tmp 72) [(.tmp 76), (.tmp 81)], none, [0, 4, 9, 3, 1, 2, 8, 5, 7, 6], true⟩,
     ⟨(some 83), .bin .lss (.tmp 82) (.const (.int .i64 0)), none, [10, 0, 4, 9, 3, 1, 2, 8, 5, 7, 6], true⟩,
     ⟨(some 84), .un .not (.tmp 83), none, [11, 10, 0, 4, 9, 3, 1, 2, 8, 5, 7, 6], true⟩])
   (.cond (.tmp 84)
    (.exit 4)
    .skip))
   (.drawn [
     ⟨(some 85), .move (.tmp 0), none, [], false⟩,
     ⟨(some 86), .move (.tmp 11), none, [], false⟩,
     ⟨(some 87), .move (.tmp 0), none, [], false⟩,
     ⟨(some 88), .move (.tmp 11), none, [], false⟩,
     ⟨(some 89), .bin .sub (.tmp 88) (.const (.int .i64 1)), none, [3], false⟩,
     ⟨(some 90), .move (.tmp 0), none, [], false⟩,
     ⟨(some 91), .move (.tmp 11), none, [], false⟩,
     ⟨(some 92), .bin .sub (.tmp 91) (.const (.int .i64 1)), none, [6], false⟩,
     ⟨(some 93), .indexAddr 2 (.tmp 90) (.tmp 92), none, [5, 7, 6], false⟩,
     ⟨(some 94), .load (some 2) (.tmp 93), none, [8, 5, 7, 6], false⟩,
     ⟨(some 95), .move (.tmp 0), none, [], false⟩,
     ⟨(some 96), .move (.tmp 11), none, [], false⟩,
     ⟨(some 97), .indexAddr 2 (.tmp 95) (.tmp 96), none, [10, 11], false⟩,
     ⟨(some 98), .load (some 2) (.tmp 97), none, [12, 10, 11], false⟩,
     ⟨(some 99), .indexAddr 2 (.tmp 85) (.tmp 86), none, [0, 1, 5, 6, 7, 8, 9, 13, 12, 10, 11], true⟩,
     ⟨none, .store 2 (.tmp 99) (.tmp 94), none, [14, 9, 0, 1, 5, 6, 7, 8, 13, 12, 10, 11], true⟩,
     ⟨(some 100), .indexAddr 2 (.tmp 87) (.tmp 89), none, [2, 4, 0, 1, 3, 5, 6, 7, 8, 9, 10, 11, 12, 13, 14, 15], true⟩,
     ⟨none, .store 2 (.tmp 100) (.tmp 98), none, [16, 13, 15, 0, 1, 2, 3, 4, 5, 6, 7, 8, 9, 10, 11, 12, 14], true⟩])))
   (.region [
     ⟨(some 70), .move (.tmp 11), none, [], true⟩,
     ⟨(some 71), .bin .sub (.tmp 70) (.const (.int .i64 1)), none, [], true⟩,
     ⟨(some 11), .move (.tmp 71), none, [], true⟩]))))))
   .skip))
  (.seq (.region [
    ⟨(some 101), .move (.tmp 2), none, [], true⟩,
    ⟨(some 102), .move (.tmp 9), none, [], true⟩,
    ⟨(some 103), .bin .sub (.tmp 101) (.tmp 102), none, [], true⟩,
    ⟨(some 104), .bin .geq (.tmp 103) (.const (.int .i64 2)), none, [], true⟩])
  (.cond (.tmp 104)
   (.seq (.region [
     ⟨(some 105), .move (.tmp 9), none, [], true⟩,
     ⟨(some 106), .bin .add (.tmp 105) (.const (.int .i64 1)), none, [], true⟩,
     ⟨(some 12), .move (.tmp 106), none, [], true⟩])
   (.block 6 (.loop (.seq (.seq (.region [
     ⟨(some 107), .move (.tmp 12), none, [], true⟩,
     ⟨(some 108), .move (.tmp 2), none, [], true⟩,
     ⟨(some 109), .bin .lss (.tmp 107) (.tmp 108), none, [], true⟩])
   (.cond (.tmp 109)
    .skip
    (.exit 6)))
   (.seq (.block 7 (.seq (.seq (.drawn [
     ⟨(some 112), .move (.tmp 3), none, [], false⟩,
     ⟨(some 113), .move (.tmp 0), none, [], false⟩,
     ⟨(some 114), .move (.tmp 12), none, [], false⟩,
     ⟨(some 115), .indexAddr 2 (.tmp 113) (.tmp 114), none, [1, 2], false⟩,
     ⟨(some 116), .load (some 2) (.tmp 115), none, [3, 1, 2], false⟩,
     ⟨(some 117), .move (.tmp 0), none, [], false⟩,
     ⟨(some 118), .move (.tmp 12), none, [], false⟩,
     ⟨(some 119), .bin .sub (.tmp 118) (.const (.int .i64 1)), none, [6], false⟩,
     ⟨(some 120), .indexAddr 2 (.tmp 117) (.tmp 119), none, [5, 7, 6], false⟩,
     ⟨(some 121), .load (some 2) (.tmp 120), none, [8, 5, 7, 6], false⟩,
     ⟨(some 122), .call (.tmp 112) [(.tmp 116), (.tmp 121)], none, [0, 4, 9, 3, 1, 2, 8, 5, 7, 6], true⟩,
     ⟨(some 123), .bin .lss (.tmp 122) (.const (.int .i64 0)), none, [10, 0, 4, 9, 3, 1, 2, 8, 5, 7, 6], true⟩,
     ⟨(some 124), .un .not (.tmp 123), none, [11, 10, 0, 4, 9, 3, 1, 2, 8, 5, 7, 6], true⟩])
   (.cond (.tmp 124)
    (.exit 6)
    .skip))
   (.drawn [
     ⟨(some 125), .move (.tmp 0), none, [], false⟩,
     ⟨(some 126), .move (.tmp 12), none, [], false⟩,
     ⟨(some 127), .move (.tmp 0), none, [], false⟩,
     ⟨(some 128), .move (.tmp 12), none, [], false⟩,
     ⟨(some 129), .bin .sub (.tmp 128) (.const (.int .i64 1)), none, [3], false⟩,
     ⟨(some 130), .move (.tmp 0), none, [], false⟩,
     ⟨(some 131), .move (.tmp 12), none, [], false⟩,
     ⟨(some 132), .bin .sub (.tmp 131) (.const (.int .i64 1)), none, [6], false⟩,
     ⟨(some 133), .indexAddr 2 (.tmp 130) (.tmp 132), none, [5, 7, 6], false⟩,
     ⟨(some 134), .load (some 2) (.tmp 133), none, [8, 5, 7, 6], false⟩,
     ⟨(some 135), .move (.tmp 0), none, [], false⟩,
     ⟨(some 136), .move (.tmp 12), none, [], false⟩,
     ⟨(some 137), .indexAddr 2 (.tmp 135) (.tmp 136), none, [10, 11], false⟩,
     ⟨(some 138), .load (some 2) (.tmp 137), none, [12, 10, 11], false⟩,
     ⟨(some 139), .indexAddr 2 (.tmp 125) (.tmp 126), none, [0, 1, 5, 6, 7, 8, 9, 13, 12, 10, 11], true⟩,
     ⟨none, .store 2 (.tmp 139) (.tmp 134), none, [14, 9, 0, 1, 5, 6, 7, 8, 13, 12, 10, 11], true⟩,
     ⟨(some 140), .indexAddr 2 (.tmp 127) (.tmp 129), none, [2, 4, 0, 1, 3, 5, 6, 7, 8, 9, 10, 11, 12, 13, 14, 15], true⟩,
     ⟨none, .store 2 (.tmp 140) (.tmp 138), none, [16, 13, 15, 0, 1, 2, 3, 4, 5, 6, 7, 8, 9, 10, 11, 12, 14], true⟩])))
   (.region [
     ⟨(some 110), .move (.tmp 12), none, [], true⟩,
     ⟨(some 111), .bin .add (.tmp 110) (.const (.int .i64 1)), none, [], true⟩,
     ⟨(some 12), .move (.tmp 111), none, [], true⟩]))))))
   .skip))))))))
  (.region [
    ⟨(some 17), .move (.tmp 10), none, [], true⟩,
    ⟨(some 18), .bin .add (.tmp 17) (.const (.int .i64 1)), none, [], true⟩,
    ⟨(some 10), .move (.tmp 18), none, [], true⟩]))))))
  (.seq (.region [
    ⟨(some 8), .move (.const (.bool false)), none, [], true⟩])
  .ret)))) }
theorem ir51_eq : funcC Try.prog 51 = some ir51 := by kernel_rfl
/-- slices.partitionEqualCmpFunc[wagonway/shelf.key] -/
def ir52 : IFunc :=
{ ntmps := 90, results := [.tmp 10], body :=
  (.seq (.region [
    ⟨(some 10), .move (.const (.int .i64 0)), none, [], true⟩])
  (.seq (.drawn [
    ⟨(some 13), .move (.tmp 0), none, [], false⟩,
    ⟨(some 14), .move (.tmp 1), none, [], false⟩,
    ⟨(some 15), .move (.tmp 0), none, [], false⟩,
    ⟨(some 16), .move (.tmp 3), none, [], false⟩,
    ⟨(some 17), .move (.tmp 0), none, [], false⟩,
    ⟨(some 18), .move (.tmp 3), none, [], false⟩,
    ⟨(some 19), .indexAddr 2 (.tmp 17) (.tmp 18), none, [4, 5], false⟩,
    ⟨(some 20), .load (some 2) (.tmp 19), none, [6, 4, 5], false⟩,
    ⟨(some 21), .move (.tmp 0), none, [], false⟩,
    ⟨(some 22), .move (.tmp 1), none, [], false⟩,
    ⟨(some 23), .indexAddr 2 (.tmp 21) (.tmp 22), none, [8, 9], false⟩,
    ⟨(some 24), .load (some 2) (.tmp 23), none, [10, 8, 9], false⟩,
    ⟨(some 25), .indexAddr 2 (.tmp 13) (.tmp 14), none, [0, 1, 4, 5, 6, 7, 11, 10, 8, 9], true⟩,
    ⟨none, .store 2 (.tmp 25) (.tmp 20), none, [12, 7, 0, 1, 4, 5, 6, 11, 10, 8, 9], true⟩,
    ⟨(some 26), .indexAddr 2 (.tmp 15) (.tmp 16), none, [2, 3, 0, 1, 4, 5, 6, 7, 8, 9, 10, 11, 12, 13], true⟩,
    ⟨none, .store 2 (.tmp 26) (.tmp 24), none, [14, 11, 13, 0, 1, 2, 3, 4, 5, 6, 7, 8, 9, 10, 12], true⟩])
  (.seq (.region [
    ⟨(some 27), .move (.tmp 1), none, [], true⟩,
    ⟨(some 28), .bin .add (.tmp 27) (.const (.int .i64 1)), none, [], true⟩,
    ⟨(some 29), .move (.tmp 2), none, [], true⟩,
    ⟨(some 30), .bin .sub (.tmp 29) (.const (.int .i64 1)), none, [], true⟩,
    ⟨(some 11), .move (.tmp 28), none, [], true⟩,
    ⟨(some 12), .move (.tmp 30), none, [], true⟩])
  (.seq (.block 0 (.loop (.block 1 (.seq (.block 2 (.loop (.seq (.seq (.drawn [
    ⟨(some 31), .move (.tmp 11), none, [], true⟩,
    ⟨(some 32), .move (.tmp 12), none, [], true⟩,
    ⟨(some 33), .bin .leq (.tmp 31) (.tmp 32), none, [0, 1], true⟩,
    ⟨(some 34), .move (.tmp 33), none, [2, 0, 1], true⟩,
    ⟨(some 35), .move (.tmp 4), (some (34, true)), [3, 2, 0, 1], false⟩,
    ⟨(some 36), .move (.tmp 0), (some (34, true)), [3, 2, 0, 1], false⟩,
    ⟨(some 37), .move (.tmp 1), (some (34, true)), [3, 2, 0, 1], false⟩,
    ⟨(some 38), .indexAddr 2 (.tmp 36) (.tmp 37), (some (34, true)), [5, 6, 3, 2, 0, 1], false⟩,
    ⟨(some 39), .load (some 2) (.tmp 38), (some (34, true)), [7, 3, 5, 6, 2, 0, 1], false⟩,
    ⟨(some 40), .move (.tmp 0), (some (34, true)), [3, 2, 0, 1], false⟩,
    ⟨(some 41), .move (.tmp 11), (some (34, true)), [3, 2, 0, 1], false⟩,
    ⟨(some 42), .indexAddr 2 (.tmp 40) (.tmp 41), (some (34, true)), [9, 10, 3, 2, 0, 1], false⟩,
    ⟨(some 43), .load (some 2) (.tmp 42), (some (34, true)), [11, 3, 9, 10, 2, 0, 1], false⟩,
    ⟨(some 44), .call (.tmp 35) [(.tmp 39), (.tmp 43)], (some (34, true)), [4, 8, 12, 3, 2, 0, 1, 7, 5, 6, 11, 9, 10], true⟩,
    ⟨(some 45), .bin .lss (.tmp 44) (.const (.int .i64 0)), (some (34, true)), [13, 3, 4, 8, 12, 2, 0, 1, 7, 5, 6, 11, 9, 10], true⟩,
    ⟨(some 46), .un .not (.tmp 45), (some (34, true)), [14, 3, 13, 4, 8, 12, 2, 0, 1, 7, 5, 6, 11, 9, 10], true⟩,
    ⟨(some 47), .pick (.tmp 34) (.tmp 46) (.const (.bool false)), none, [3, 15, 2, 0, 1, 14, 13, 4, 8, 12, 7, 5, 6, 11, 9, 10], true⟩])
  (.cond (.tmp 47)
   .skip
   (.exit 2)))
  (.block 3 (.region [
    ⟨(some 48), .move (.tmp 11), none, [], true⟩,
    ⟨(some 49), .bin .add (.tmp 48) (.const (.int .i64 1)), none, [], true⟩,
    ⟨(some 11), .move (.tmp 49), none, [], true⟩])))))
  (.seq (.block 4 (.loop (.seq (.seq (.drawn [
    ⟨(some 50), .move (.tmp 11), none, [], true⟩,
    ⟨(some 51), .move (.tmp 12), none, [], true⟩,
    ⟨(some 52), .bin .leq (.tmp 50) (.tmp 51), none, [0, 1], true⟩,
    ⟨(some 53), .move (.tmp 52), none, [2, 0, 1], true⟩,
    ⟨(some 54), .move (.tmp 4), (some (53, true)), [3, 2, 0, 1], false⟩,
    ⟨(some 55), .move (.tmp 0), (some (53, true)), [3, 2, 0, 1], false⟩,
    ⟨(some 56), .move (.tmp 1), (some (53, true)), [3, 2, 0, 1], false⟩,
    ⟨(some 57), .indexAddr 2 (.tmp 55) (.tmp 56), (some (53, true)), [5, 6, 3, 2, 0, 1], false⟩,
    ⟨(some 58), .load (some 2) (.tmp 57), (some (53, true)), [7, 3, 5, 6, 2, 0, 1], false⟩,
    ⟨(some 59), .move (.tmp 0), (some (53, true)), [3, 2, 0, 1], false⟩,
    ⟨(some 60), .move (.tmp 12), (some (53, true)), [3, 2, 0, 1], false⟩,
    ⟨(some 61), .indexAddr 2 (.tmp 59) (.tmp 60), (some (53, true)), [9, 10, 3, 2, 0, 1], false⟩,
    ⟨(some 62), .load (some 2) (.tmp 61), (some (53, true)), [11, 3, 9, 10, 2, 0, 1], false⟩,
    ⟨(some 63), .call (.tmp 54) [(.tmp 58), (.tmp 62)], (some (53, true)), [4, 8, 12, 3, 2, 0, 1, 7, 5, 6, 11, 9, 10], true⟩,
    ⟨(some 64), .bin .lss (.tmp 63) (.const (.int .i64 0)), (some (53, true)), [13, 3, 4, 8, 12, 2, 0, 1, 7, 5, 6, 11, 9, 10], true⟩,
    ⟨(some 65), .pick (.tmp 53) (.tmp 64) (.const (.bool false)), none, [3, 14, 2, 0, 1, 13, 4, 8, 12, 7, 5, 6, 11, 9, 10], true⟩])
  (.cond (.tmp 65)
   .skip
   (.exit 4)))
  (.block 5 (.region [
    ⟨(some 66), .move (.tmp 12), none, [], true⟩,
    ⟨(some 67), .bin .sub (.tmp 66) (.const (.int .i64 1)), none, [], true⟩,
    ⟨(some 12), .move (.tmp 67), none, [], true⟩])))))
  (.seq (.seq (.region [
    ⟨(some 68), .move (.tmp 11), none, [], true⟩,
    ⟨(some 69), .move (.tmp 12), none, [], true⟩,
    ⟨(some 70), .bin .gtr (.tmp 68) (.tmp 69), none, [], true⟩])
  (.cond (.tmp 70)
   (.exit 0)
   .skip))
  (.seq (.drawn [
    ⟨(some 71), .move (.tmp 0), none, [], false⟩,
    ⟨(some 72), .move (.tmp 11), none, [], false⟩,
    ⟨(some 73), .move (.tmp 0), none, [], false⟩,
    ⟨(some 74), .move (.tmp 12), none, [], false⟩,
    ⟨(some 75), .move (.tmp 0), none, [], false⟩,
    ⟨(some 76), .move (.tmp 12), none, [], false⟩,
    ⟨(some 77), .indexAddr 2 (.tmp 75) (.tmp 76), none, [4, 5], false⟩,
    ⟨(some 78), .load (some 2) (.tmp 77), none, [6, 4, 5], false⟩,
    ⟨(some 79), .move (.tmp 0), none, [], false⟩,
    ⟨(some 80), .move (.tmp 11), none, [], false⟩,
    ⟨(some 81), .indexAddr 2 (.tmp 79) (.tmp 80), none, [8, 9], false⟩,
    ⟨(some 82), .load (some 2) (.tmp 81), none, [10, 8, 9], false⟩,
    ⟨(some 83), .indexAddr 2 (.tmp 71) (.tmp 72), none, [0, 1, 4, 5, 6, 7, 11, 10, 8, 9], true⟩,
    ⟨none, .store 2 (.tmp 83) (.tmp 78), none, [12, 7, 0, 1, 4, 5, 6, 11, 10, 8, 9], true⟩,
    ⟨(some 84), .indexAddr 2 (.tmp 73) (.tmp 74), none, [2, 3, 0, 1, 4, 5, 6, 7, 8, 9, 10, 11, 12, 13], true⟩,
    ⟨none, .store 2 (.tmp 84) (.tmp 82), none, [14, 11, 13, 0, 1, 2, 3, 4, 5, 6, 7, 8, 9, 10, 12], true⟩])
  (.seq (.region [
    ⟨(some 85), .move (.tmp 11), none, [], true⟩,
    ⟨(some 86), .bin .add (.tmp 85) (.const (.int .i64 1)), none, [], true⟩,
    ⟨(some 11), .move (.tmp 86), none, [], true⟩])
  (.region [
    ⟨(some 87), .move (.tmp 12), none, [], true⟩,
    ⟨(some 88), .bin .sub (.tmp 87) (.const (.int .i64 1)), none, [], true⟩,
    ⟨(some 12), .move (.tmp 88), none, [], true⟩])))))))))
  (.seq (.region [
    ⟨(some 89), .move (.tmp 11), none, [], true⟩,
    ⟨(some 10), .move (.tmp 89), none, [], true⟩])
  .ret))))) }
theorem ir52_eq : funcC Try.prog 52 = some ir52 := by kernel_rfl
/-- slices.partitionCmpFunc[wagonway/shelf.key] -/
def ir53 : IFunc :=
{ ntmps := 178, results := [.tmp 10, .tmp 11], body :=
  (.seq (.region [
    ⟨(some 10), .move (.const (.int .i64 0)), none, [], true⟩,
    ⟨(some 11), .move (.const (.bool false)), none, [], true⟩])
  (.seq (.drawn [
    ⟨(some 14), .move (.tmp 0), none, [], false⟩,
    ⟨(some 15), .move (.tmp 1), none, [], false⟩,
    ⟨(some 16), .move (.tmp 0), none, [], false⟩,
    ⟨(some 17), .move (.tmp 3), none, [], false⟩,
    ⟨(some 18), .move (.tmp 0), none, [], false⟩,
    ⟨(some 19), .move (.tmp 3), none, [], false⟩,
    ⟨(some 20), .indexAddr 2 (.tmp 18) (.tmp 19), none, [4, 5], false⟩,
    ⟨(some 21), .load (some 2) (.tmp 20), none, [6, 4, 5], false⟩,
    ⟨(some 22), .move (.tmp 0), none, [], false⟩,
    ⟨(some 23), .move (.tmp 1), none, [], false⟩,
    ⟨(some 24), .indexAddr 2 (.tmp 22) (.tmp 23), none, [8, 9], false⟩,
    ⟨(some 25), .load (some 2) (.tmp 24), none, [10, 8, 9], false⟩,
    ⟨(some 26), .indexAddr 2 (.tmp 14) (.tmp 15), none, [0, 1, 4, 5, 6, 7, 11, 10, 8, 9], true⟩,
    ⟨none, .store 2 (.tmp 26) (.tmp 21), none, [12, 7, 0, 1, 4, 5, 6, 11, 10, 8, 9], true⟩,
    ⟨(some 27), .indexAddr 2 (.tmp 16) (.tmp 17), none, [2, 3, 0, 1, 4, 5, 6, 7, 8, 9, 10, 11, 12, 13], true⟩,
    ⟨none, .store 2 (.tmp 27) (.tmp 25), none, [14, 11, 13, 0, 1, 2, 3, 4, 5, 6, 7, 8, 9, 10, 12], true⟩])
  (.seq (.region [
    ⟨(some 28), .move (.tmp 1), none, [], true⟩,
    ⟨(some 29), .bin .add (.tmp 28) (.const (.int .i64 1)), none, [], true⟩,
    ⟨(some 30), .move (.tmp 2), none, [], true⟩,
    ⟨(some 31), .bin .sub (.tmp 30) (.const (.int .i64 1)), none, [], true⟩,
    ⟨(some 12), .move (.tmp 29), none, [], true⟩,
    ⟨(some 13), .move (.tmp 31), none, [], true⟩])
  (.seq (.block 0 (.loop (.seq (.seq (.drawn [
    ⟨(some 32), .move (.tmp 12), none, [], true⟩,
    ⟨(some 33), .move (.tmp 13), none, [], true⟩,
    ⟨(some 34), .bin .leq (.tmp 32) (.tmp 33), none, [0, 1], true⟩,
    ⟨(some 35), .move (.tmp 34), none, [2, 0, 1], true⟩,
    ⟨(some 36), .move (.tmp 4), (some (35, true)), [3, 2, 0, 1], false⟩,
    ⟨(some 37), .move (.tmp 0), (some (35, true)), [3, 2, 0, 1], false⟩,
    ⟨(some 38), .move (.tmp 12), (some (35, true)), [3, 2, 0, 1], false⟩,
    ⟨(some 39), .indexAddr 2 (.tmp 37) (.tmp 38), (some (35, true)), [5, 6, 3, 2, 0, 1], false⟩,
    ⟨(some 40), .load (some 2) (.tmp 39), (some (35, true)), [7, 3, 5, 6, 2, 0, 1], false⟩,
    ⟨(some 41), .move (.tmp 0), (some (35, true)), [3, 2, 0, 1], false⟩,
    ⟨(some 42), .move (.tmp 1), (some (35, true)), [3, 2, 0, 1], false⟩,
    ⟨(some 43), .indexAddr 2 (.tmp 41) (.tmp 42), (some (35, true)), [9, 10, 3, 2, 0, 1], false⟩,
    ⟨(some 44), .load (some 2) (.tmp 43), (some (35, true)), [11, 3, 9, 10, 2, 0, 1], false⟩,
    ⟨(some 45), .call (.tmp 36) [(.tmp 40), (.tmp 44)], (some (35, true)), [4, 8, 12, 3, 2, 0, 1, 7, 5, 6, 11, 9, 10], true⟩,
    ⟨(some 46), .bin .lss (.tmp 45) (.const (.int .i64 0)), (some (35, true)), [13, 3, 4, 8, 12, 2, 0, 1, 7, 5, 6, 11, 9, 10], true⟩,
    ⟨(some 47), .pick (.tmp 35) (.tmp 46) (.const (.bool false)), none, [3, 14, 2, 0, 1, 13, 4, 8, 12, 7, 5, 6, 11, 9, 10], true⟩])
  (.cond (.tmp 47)
   .skip
   (.exit 0)))
  (.block 1 (.region [
    ⟨(some 48), .move (.tmp 12), none, [], true⟩,
    ⟨(some 49), .bin .add (.tmp 48) (.const (.int .i64 1)), none, [], true⟩,
    ⟨(some 12), .move (.tmp 49), none, [], true⟩])))))
  (.seq (.block 2 (.loop (.seq (.seq (.drawn [
    ⟨(some 50), .move (.tmp 12), none, [], true⟩,
    ⟨(some 51), .move (.tmp 13), none, [], true⟩,
    ⟨(some 52), .bin .leq (.tmp 50) (.tmp 51), none, [0, 1], true⟩,
    ⟨(some 53), .move (.tmp 52), none, [2, 0, 1], true⟩,
    ⟨(some 54), .move (.tmp 4), (some (53, true)), [3, 2, 0, 1], false⟩,
    ⟨(some 55), .move (.tmp 0), (some (53, true)), [3, 2, 0, 1], false⟩,
    ⟨(some 56), .move (.tmp 13), (some (53, true)), [3, 2, 0, 1], false⟩,
    ⟨(some 57), .indexAddr 2 (.tmp 55) (.tmp 56), (some (53, true)), [5, 6, 3, 2, 0, 1], false⟩,
    ⟨(some 58), .load (some 2) (.tmp 57), (some (53, true)), [7, 3, 5, 6, 2, 0, 1], false⟩,
    ⟨(some 59), .move (.tmp 0), (some (53, true)), [3, 2, 0, 1], false⟩,
    ⟨(some 60), .move (.tmp 1), (some (53, true)), [3, 2, 0, 1], false⟩,
    ⟨(some 61), .indexAddr 2 (.tmp 59) (.tmp 60), (some (53, true)), [9, 10, 3, 2, 0, 1], false⟩,
    ⟨(some 62), .load (some 2) (.tmp 61), (some (53, true)), [11, 3, 9, 10, 2, 0, 1], false⟩,
    ⟨(some 63), .call (.tmp 54) [(.tmp 58), (.tmp 62)], (some (53, true)), [4, 8, 12, 3, 2, 0, 1, 7, 5, 6, 11, 9, 10], true⟩,
    ⟨(some 64), .bin .lss (.tmp 63) (.const (.int .i64 0)), (some (53, true)), [13, 3, 4, 8, 12, 2, 0, 1, 7, 5, 6, 11, 9, 10], true⟩,
    ⟨(some 65), .un .not (.tmp 64), (some (53, true)), [14, 3, 13, 4, 8, 12, 2, 0, 1, 7, 5, 6, 11, 9, 10], true⟩,
    ⟨(some 66), .pick (.tmp 53) (.tmp 65) (.const (.bool false)), none, [3, 15, 2, 0, 1, 14, 13, 4, 8, 12, 7, 5, 6, 11, 9, 10], true⟩])
  (.cond (.tmp 66)
   .skip
   (.exit 2)))
  (.block 3 (.region [
    ⟨(some 67), .move (.tmp 13), none, [], true⟩,
    ⟨(some 68), .bin .sub (.tmp 67) (.const (.int .i64 1)), none, [], true⟩,
    ⟨(some 13), .move (.tmp 68), none, [], true⟩])))))
  (.seq (.seq (.region [
    ⟨(some 69), .move (.tmp 12), none, [], true⟩,
    ⟨(some 70), .move (.tmp 13), none, [], true⟩,
    ⟨(some 71), .bin .gtr (.tmp 69) (.tmp 70), none, [], true⟩])
  (.cond (.tmp 71)
   (.seq (.drawn [
     ⟨(some 72), .move (.tmp 0), none, [], false⟩,
     ⟨(some 73), .move (.tmp 13), none, [], false⟩,
     ⟨(some 74), .move (.tmp 0), none, [], false⟩,
     ⟨(some 75), .move (.tmp 1), none, [], false⟩,
     ⟨(some 76), .move (.tmp 0), none, [], false⟩,
     ⟨(some 77), .move (.tmp 1), none, [], false⟩,
     ⟨(some 78), .indexAddr 2 (.tmp 76) (.tmp 77), none, [4, 5], false⟩,
     ⟨(some 79), .load (some 2) (.tmp 78), none, [6, 4, 5], false⟩,
     ⟨(some 80), .move (.tmp 0), none, [], false⟩,
     ⟨(some 81), .move (.tmp 13), none, [], false⟩,
     ⟨(some 82), .indexAddr 2 (.tmp 80) (.tmp 81), none, [8, 9], false⟩,
     ⟨(some 83), .load (some 2) (.tmp 82), none, [10, 8, 9], false⟩,
     ⟨(some 84), .indexAddr 2 (.tmp 72) (.tmp 73), none, [0, 1, 4, 5, 6, 7, 11, 10, 8, 9], true⟩,
     ⟨none, .store 2 (.tmp 84) (.tmp 79), none, [12, 7, 0, 1, 4, 5, 6, 11, 10, 8, 9], true⟩,
     ⟨(some 85), .indexAddr 2 (.tmp 74) (.tmp 75), none, [2, 3, 0, 1, 4, 5, 6, 7, 8, 9, 10, 11, 12, 13], true⟩,
     ⟨none, .store 2 (.tmp 85) (.tmp 83), none, [14, 11, 13, 0, 1, 2, 3, 4, 5, 6, 7, 8, 9, 10, 12], true⟩])
   (.seq (.region [
     ⟨(some 86), .move (.tmp 13), none, [], true⟩,
     ⟨(some 10), .move (.tmp 86), none, [], true⟩,
     ⟨(some 11), .move (.const (.bool true)), none, [], true⟩])
   .ret))
   .skip))
  (.seq (.drawn [
    ⟨(some 87), .move (.tmp 0), none, [], false⟩,
    ⟨(some 88), .move (.tmp 12), none, [], false⟩,
    ⟨(some 89), .move (.tmp 0), none, [], false⟩,
    ⟨(some 90), .move (.tmp 13), none, [], false⟩,
    ⟨(some 91), .move (.tmp 0), none, [], false⟩,
    ⟨(some 92), .move (.tmp 13), none, [], false⟩,
    ⟨(some 93), .indexAddr 2 (.tmp 91) (.tmp 92), none, [4, 5], false⟩,
    ⟨(some 94), .load (some 2) (.tmp 93), none, [6, 4, 5], false⟩,
    ⟨(some 95), .move (.tmp 0), none, [], false⟩,
    ⟨(some 96), .move (.tmp 12), none, [], false⟩,
    ⟨(some 97), .indexAddr 2 (.tmp 95) (.tmp 96), none, [8, 9], false⟩,
    ⟨(some 98), .load (some 2) (.tmp 97), none, [10, 8, 9], false⟩,
    ⟨(some 99), .indexAddr 2 (.tmp 87) (.tmp 88), none, [0, 1, 4, 5, 6, 7, 11, 10, 8, 9], true⟩,
    ⟨none, .store 2 (.tmp 99) (.tmp 94), none, [12, 7, 0, 1, 4, 5, 6, 11, 10, 8, 9], true⟩,
    ⟨(some 100), .indexAddr 2 (.tmp 89) (.tmp 90), none, [2, 3, 0, 1, 4, 5, 6, 7, 8, 9, 10, 11, 12, 13], true⟩,
    ⟨none, .store 2 (.tmp 100) (.tmp 98), none, [14, 11, 13, 0, 1, 2, 3, 4, 5, 6, 7, 8, 9, 10, 12], true⟩])
  (.seq (.region [
    ⟨(some 101), .move (.tmp 12), none, [], true⟩,
    ⟨(some 102), .bin .add (.tmp 101) (.const (.int .i64 1)), none, [], true⟩,
    ⟨(some 12), .move (.tmp 102), none, [], true⟩])
  (.seq (.region [
    ⟨(some 103), .move (.tmp 13), none, [], true⟩,
    ⟨(some 104), .bin .sub (.tmp 103) (.const (.int .i64 1)), none, [], true⟩,
    ⟨(some 13), .move (.tmp 104), none, [], true⟩])
  (.seq (.block 4 (.loop (.block 5 (.seq (.block 6 (.loop (.seq (.seq (.drawn [
    ⟨(some 105), .move (.tmp 12), none, [], true⟩,
    ⟨(some 106), .move (.tmp 13), none, [], true⟩,
    ⟨(some 107), .bin .leq (.tmp 105) (.tmp 106), none, [0, 1], true⟩,
    ⟨(some 108), .move (.tmp 107), none, [2, 0, 1], true⟩,
    ⟨(some 109), .move (.tmp 4), (some (108, true)), [3, 2, 0, 1], false⟩,
    ⟨(some 110), .move (.tmp 0), (some (108, true)), [3, 2, 0, 1], false⟩,
    ⟨(some 111), .move (.tmp 12), (some (108, true)), [3, 2, 0, 1], false⟩,
    ⟨(some 112), .indexAddr 2 (.tmp 110) (.tmp 111), (some (108, true)), [5, 6, 3, 2, 0, 1], false⟩,
    ⟨(some 113), .load (some 2) (.tmp 112), (some (108, true)), [7, 3, 5, 6, 2, 0, 1], false⟩,
    ⟨(some 114), .move (.tmp 0), (some (108, true)), [3, 2, 0, 1], false⟩,
    ⟨(some 115), .move (.tmp 1), (some (108, true)), [3, 2, 0, 1], false⟩,
    ⟨(some 116), .indexAddr 2 (.tmp 114) (.tmp 115), (some (108, true)), [9, 10, 3, 2, 0, 1], false⟩,
    ⟨(some 117), .load (some 2) (.tmp 116), (some (108, true)), [11, 3, 9, 10, 2, 0, 1], false⟩,
    ⟨(some 118), .call (.tmp 109) [(.tmp 113), (.tmp 117)], (some (108, true)), [4, 8, 12, 3, 2, 0, 1, 7, 5, 6, 11, 9, 10], true⟩,
    ⟨(some 119), .bin .lss (.tmp 118) (.const (.int .i64 0)), (some (108, true)), [13, 3, 4, 8, 12, 2, 0, 1, 7, 5, 6, 11, 9, 10], true⟩,
    ⟨(some 120), .pick (.tmp 108) (.tmp 119) (.const (.bool false)), none, [3, 14, 2, 0, 1, 13, 4, 8, 12, 7, 5, 6, 11, 9, 10], true⟩])
  (.cond (.tmp 120)
   .skip
   (.exit 6)))
  (.block 7 (.region [
    ⟨(some 121), .move (.tmp 12), none, [], true⟩,
    ⟨(some 122), .bin .add (.tmp 121) (.const (.int .i64 1)), none, [], true⟩,
    ⟨(some 12), .move (.tmp 122), none, [], true⟩])))))
  (.seq (.block 8 (.loop (.seq (.seq (.drawn [
    ⟨(some 123), .move (.tmp 12), none, [], true⟩,
    ⟨(some 124), .move (.tmp 13), none, [], true⟩,
    ⟨(some 125), .bin .leq (.tmp 123) (.tmp 124), none, [0, 1], true⟩,
    ⟨(some 126), .move (.tmp 125), none, [2, 0, 1], true⟩,
    ⟨(some 127), .move (.tmp 4), (some (126, true)), [3, 2, 0, 1], false⟩,
    ⟨(some 128), .move (.tmp 0), (some (126, true)), [3, 2, 0, 1], false⟩,
    ⟨(some 129), .move (.tmp 13), (some (126, true)), [3, 2, 0, 1], false⟩,
    ⟨(some 130), .indexAddr 2 (.tmp 128) (.tmp 129), (some (126, true)), [5, 6, 3, 2, 0, 1], false⟩,
    ⟨(some 131), .load (some 2) (.tmp 130), (some (126, true)), [7, 3, 5, 6, 2, 0, 1], false⟩,
    ⟨(some 132), .move (.tmp 0), (some (126, true)), [3, 2, 0, 1], false⟩,
    ⟨(some 133), .move (.tmp 1), (some (126, true)), [3, 2, 0, 1], false⟩,
    ⟨(some 134), .indexAddr 2 (.tmp 132) (.tmp 133), (some (126, true)), [9, 10, 3, 2, 0, 1], false⟩,
    ⟨(some 135), .load (some 2) (.tmp 134), (some (126, true)), [11, 3, 9, 10, 2, 0, 1], false⟩,
    ⟨(some 136), .call (.tmp 127) [(.tmp 131), (.tmp 135)], (some (126, true)), [4, 8, 12, 3, 2, 0, 1, 7, 5, 6, 11, 9, 10], true⟩,
    ⟨(some 137), .bin .lss (.tmp 136) (.const (.int .i64 0)), (some (126, true)), [13, 3, 4, 8, 12, 2, 0, 1, 7, 5, 6, 11, 9, 10], true⟩,
    ⟨(some 138), .un .not (.tmp 137), (some (126, true)), [14, 3, 13, 4, 8, 12, 2, 0, 1, 7, 5, 6, 11, 9, 10], true⟩,
    ⟨(some 139), .pick (.tmp 126) (.tmp 138) (.const (.bool false)), none, [3, 15, 2, 0, 1, 14, 13, 4, 8, 12, 7, 5, 6, 11, 9, 10], true⟩])
  (.cond (.tmp 139)
   .skip
   (.exit 8)))
  (.block 9 (.region [
    ⟨(some 140), .move (.tmp 13), none, [], true⟩,
    ⟨(some 141), .bin .sub (.tmp 140) (.const (.int .i64 1)), none, [], true⟩,
    ⟨(some 13), .move (.tmp 141), none, [], true⟩])))))
  (.seq (.seq (.region [
    ⟨(some 142), .move (.tmp 12), none, [], true⟩,
    ⟨(some 143), .move (.tmp 13), none, [], true⟩,
    ⟨(some 144), .bin .gtr (.tmp 142) (.tmp 143), none, [], true⟩])
  (.cond (.tmp 144)
   (.exit 4)
   .skip))
  (.seq (.drawn [
    ⟨(some 145), .move (.tmp 0), none, [], false⟩,
    ⟨(some 146), .move (.tmp 12), none, [], false⟩,
    ⟨(some 147), .move (.tmp 0), none, [], false⟩,
    ⟨(some 148), .move (.tmp 13), none, [], false⟩,
    ⟨(some 149), .move (.tmp 0), none, [], false⟩,
    ⟨(some 150), .move (.tmp 13), none, [], false⟩,
    ⟨(some 151), .indexAddr 2 (.tmp 149) (.tmp 150), none, [4, 5], false⟩,
    ⟨(some 152), .load (some 2) (.tmp 151), none, [6, 4, 5], false⟩,
    ⟨(some 153), .move (.tmp 0), none, [], false⟩,
    ⟨(some 154), .move (.tmp 12), none, [], false⟩,
    ⟨(some 155), .indexAddr 2 (.tmp 153) (.tmp 154), none, [8, 9], false⟩,
    ⟨(some 156), .load (some 2) (.tmp 155), none, [10, 8, 9], false⟩,
    ⟨(some 157), .indexAddr 2 (.tmp 145) (.tmp 146), none, [0, 1, 4, 5, 6, 7, 11, 10, 8, 9], true⟩,
    ⟨none, .store 2 (.tmp 157) (.tmp 152), none, [12, 7, 0, 1, 4, 5, 6, 11, 10, 8, 9], true⟩,
    ⟨(some 158), .indexAddr 2 (.tmp 147) (.tmp 148), none, [2, 3, 0, 1, 4, 5, 6, 7, 8, 9, 10, 11, 12, 13], true⟩,
    ⟨none, .store 2 (.tmp 158) (.tmp 156), none, [14, 11, 13, 0, 1, 2, 3, 4, 5, 6, 7, 8, 9, 10, 12], true⟩])
  (.seq (.region [
    ⟨(some 159), .move (.tmp 12), none, [], true⟩,
    ⟨(some 160), .bin .add (.tmp 159) (.const (.int .i64 1)), none, [], true⟩,
    ⟨(some 12), .move (.tmp 160), none, [], true⟩])
  (.region [
    ⟨(some 161), .move (.tmp 13), none, [], true⟩,
    ⟨(some 162), .bin .sub (.tmp 161) (.const (.int .i64 1)), none, [], true⟩,
    ⟨(some 13), .move (.tmp 162), none, [], true⟩])))))))))
  (.seq (.drawn [
    ⟨(some 163), .move (.tmp 0), none, [], false⟩,
    ⟨(some 164), .move (.tmp 13), none, [], false⟩,
    ⟨(some 165), .move (.tmp 0), none, [], false⟩,
    ⟨(some 166), .move (.tmp 1), none, [], false⟩,
    ⟨(some 167), .move (.tmp 0), none, [], false⟩,
    ⟨(some 168), .move (.tmp 1), none, [], false⟩,
    ⟨(some 169), .indexAddr 2 (.tmp 167) (.tmp 168), none, [4, 5], false⟩,
    ⟨(some 170), .load (some 2) (.tmp 169), none, [6, 4, 5], false⟩,
    ⟨(some 171), .move (.tmp 0), none, [], false⟩,
    ⟨(some 172), .move (.tmp 13), none, [], false⟩,
    ⟨(some 173), .indexAddr 2 (.tmp 171) (.tmp 172), none, [8, 9], false⟩,
    ⟨(some 174), .load (some 2) (.tmp 173), none, [10, 8, 9], false⟩,
    ⟨(some 175), .indexAddr 2 (.tmp 163) (.tmp 164), none, [0, 1, 4, 5, 6, 7, 11, 10, 8, 9], true⟩,
    ⟨none, .store 2 (.tmp 175) (.tmp 170), none, [12, 7, 0, 1, 4, 5, 6, 11, 10, 8, 9], true⟩,
    ⟨(some 176), .indexAddr 2 (.tmp 165) (.tmp 166), none, [2, 3, 0, 1, 4, 5, 6, 7, 8, 9, 10, 11, 12, 13], true⟩,
    ⟨none, .store 2 (.tmp 176) (.tmp 174), none, [14, 11, 13, 0, 1, 2, 3, 4, 5, 6, 7, 8, 9, 10, 12], true⟩])
  (.seq (.region [
    ⟨(some 177), .move (.tmp 13), none, [], true⟩,
    ⟨(some 10), .move (.tmp 177), none, [], true⟩,
    ⟨(some 11), .move (.const (.bool false)), none, [], true⟩])
  .ret)))))))))))) }
theorem ir53_eq : funcC Try.prog 53 = some ir53 := by kernel_rfl
/-- math/bits.Len32 -/
def ir54 : IFunc :=
{ ntmps := 19, results := [.tmp 2], body :=
  (.seq (.region [
    ⟨(some 2), .move (.const (.int .i64 0)), none, [], true⟩])
  (.seq (.seq (.region [
    ⟨(some 3), .move (.tmp 0), none, [], true⟩,
    ⟨(some 4), .bin .geq (.tmp 3) (.const (.int .u32 65536)), none, [], true⟩])
  (.cond (.tmp 4)
   (.seq (.region [
     ⟨(some 5), .move (.tmp 0), none, [], true⟩,
     ⟨(some 6), .bin .shr (.tmp 5) (.const (.int .u64 16)), none, [], true⟩,
     ⟨(some 0), .move (.tmp 6), none, [], true⟩])
   (.region [
     ⟨(some 2), .move (.const (.int .i64 16)), none, [], true⟩]))
   .skip))
  (.seq (.seq (.region [
    ⟨(some 7), .move (.tmp 0), none, [], true⟩,
    ⟨(some 8), .bin .geq (.tmp 7) (.const (.int .u32 256)), none, [], true⟩])
  (.cond (.tmp 8)
   (.seq (.region [
     ⟨(some 9), .move (.tmp 0), none, [], true⟩,
     ⟨(some 10), .bin .shr (.tmp 9) (.const (.int .u64 8)), none, [], true⟩,
     ⟨(some 0), .move (.tmp 10), none, [], true⟩])
   (.region [
     ⟨(some 11), .move (.tmp 2), none, [], true⟩,
     ⟨(some 12), .bin .add (.tmp 11) (.const (.int .i64 8)), none, [], true⟩,
     ⟨(some 2), .move (.tmp 12), none, [], true⟩]))
   .skip))
  (.seq (.region [
    ⟨(some 13), .move (.tmp 2), none, [], true⟩,
    ⟨(some 14), .move (.tmp 0), none, [], true⟩,
    ⟨(some 15), .conv .u8 (.tmp 14), none, [], true⟩,
    ⟨(some 16), .indexStr (.const (.string ⟨#[0, 1, 2, 2, 3, 3, 3, 3, 4, 4, 4, 4, 4, 4, 4, 4, 5, 5, 5, 5, 5, 5, 5, 5, 5, 5, 5, 5, 5, 5, 5, 5, 6, 6, 6, 6, 6, 6, 6, 6, 6, 6, 6, 6, 6, 6, 6, 6, 6, 6, 6, 6, 6, 6, 6, 6, 6, 6, 6, 6, 6, 6, 6, 6, 7, 7, 7, 7, 7, 7, 7, 7, 7, 7, 7, 7, 7, 7, 7, 7, 7, 7, 7, 7, 7, 7, 7, 7, 7, 7, 7, 7, 7, 7, 7, 7, 7, 7, 7, 7, 7, 7, 7, 7, 7, 7, 7, 7, 7, 7, 7, 7, 7, 7, 7, 7, 7, 7, 7, 7, 7, 7, 7, 7, 7, 7, 7, 7, 8, 8, 8, 8, 8, 8, 8, 8, 8, 8, 8, 8, 8, 8, 8, 8, 8, 8, 8, 8, 8, 8, 8, 8, 8, 8, 8, 8, 8, 8, 8, 8, 8, 8, 8, 8, 8, 8, 8, 8, 8, 8, 8, 8, 8, 8, 8, 8, 8, 8, 8, 8, 8, 8, 8, 8, 8, 8, 8, 8, 8, 8, 8, 8, 8, 8, 8, 8, 8, 8, 8, 8, 8, 8, 8, 8, 8, 8, 8, 8, 8, 8, 8, 8, 8, 8, 8, 8, 8, 8, 8, 8, 8, 8, 8, 8, 8, 8, 8, 8, 8, 8, 8, 8, 8, 8, 8, 8, 8, 8, 8, 8, 8, 8, 8, 8, 8, 8, 8, 8, 8, 8, 8, 8, 8, 8, 8, 8]⟩)) (.tmp 15), none, [], true⟩,
    ⟨(some 17), .conv .i64 (.tmp 16), none, [], true⟩,
    ⟨(some 18), .bin .add (.tmp 13) (.tmp 17), none, [], true⟩,
    ⟨(some 2), .move (.tmp 18), none, [], true⟩])
  .ret)))) }
theorem ir54_eq : funcC Try.prog 54 = some ir54 := by kernel_rfl
/-- math/bits.Len64 -/
def ir55 : IFunc :=
{ ntmps := 25, results := [.tmp 2], body :=
  (.seq (.region [
    ⟨(some 2), .move (.const (.int .i64 0)), none, [], true⟩])
  (.seq (.seq (.region [
    ⟨(some 3), .move (.tmp 0), none, [], true⟩,
    ⟨(some 4), .bin .geq (.tmp 3) (.const (.int .u64 4294967296)), none, [], true⟩])
  (.cond (.tmp 4)
   (.seq (.region [
     ⟨(some 5), .move (.tmp 0), none, [], true⟩,
     ⟨(some 6), .bin .shr (.tmp 5) (.const (.int .u64 32)), none, [], true⟩,
     ⟨(some 0), .move (.tmp 6), none, [], true⟩])
   (.region [
     ⟨(some 2), .move (.const (.int .i64 32)), none, [], true⟩]))
   .skip))
  (.seq (.seq (.region [
    ⟨(some 7), .move (.tmp 0), none, [], true⟩,
    ⟨(some 8), .bin .geq (.tmp 7) (.const (.int .u64 65536)), none, [], true⟩])
  (.cond (.tmp 8)
   (.seq (.region [
     ⟨(some 9), .move (.tmp 0), none, [], true⟩,
     ⟨(some 10), .bin .shr (.tmp 9) (.const (.int .u64 16)), none, [], true⟩,
     ⟨(some 0), .move (.tmp 10), none, [], true⟩])
   (.region [
     ⟨(some 11), .move (.tmp 2), none, [], true⟩,
     ⟨(some 12), .bin .add (.tmp 11) (.const (.int .i64 16)), none, [], true⟩,
     ⟨(some 2), .move (.tmp 12), none, [], true⟩]))
   .skip))
  (.seq (.seq (.region [
    ⟨(some 13), .move (.tmp 0), none, [], true⟩,
    ⟨(some 14), .bin .geq (.tmp 13) (.const (.int .u64 256)), none, [], true⟩])
  (.cond (.tmp 14)
   (.seq (.region [
     ⟨(some 15), .move (.tmp 0), none, [], true⟩,
     ⟨(some 16), .bin .shr (.tmp 15) (.const (.int .u64 8)), none, [], true⟩,
     ⟨(some 0), .move (.tmp 16), none, [], true⟩])
   (.region [
     ⟨(some 17), .move (.tmp 2), none, [], true⟩,
     ⟨(some 18), .bin .add (.tmp 17) (.const (.int .i64 8)), none, [], true⟩,
     ⟨(some 2), .move (.tmp 18), none, [], true⟩]))
   .skip))
  (.seq (.region [
    ⟨(some 19), .move (.tmp 2), none, [], true⟩,
    ⟨(some 20), .move (.tmp 0), none, [], true⟩,
    ⟨(some 21), .conv .u8 (.tmp 20), none, [], true⟩,
    ⟨(some 22), .indexStr (.const (.string ⟨#[0, 1, 2, 2, 3, 3, 3, 3, 4, 4, 4, 4, 4, 4, 4, 4, 5, 5, 5, 5, 5, 5, 5, 5, 5, 5, 5, 5, 5, 5, 5, 5, 6, 6, 6, 6, 6, 6, 6, 6, 6, 6, 6, 6, 6, 6, 6, 6, 6, 6, 6, 6, 6, 6, 6, 6, 6, 6, 6, 6, 6, 6, 6, 6, 7, 7, 7, 7, 7, 7, 7, 7, 7, 7, 7, 7, 7, 7, 7, 7, 7, 7, 7, 7, 7, 7, 7, 7, 7, 7, 7, 7, 7, 7, 7, 7, 7, 7, 7, 7, 7, 7, 7, 7, 7, 7, 7, 7, 7, 7, 7, 7, 7, 7, 7, 7, 7, 7, 7, 7, 7, 7, 7, 7, 7, 7, 7, 7, 8, 8, 8, 8, 8, 8, 8, 8, 8, 8, 8, 8, 8, 8, 8, 8, 8, 8, 8, 8, 8, 8, 8, 8, 8, 8, 8, 8, 8, 8, 8, 8, 8, 8, 8, 8, 8, 8, 8, 8, 8, 8, 8, 8, 8, 8, 8, 8, 8, 8, 8, 8, 8, 8, 8, 8, 8, 8, 8, 8, 8, 8, 8, 8, 8, 8, 8, 8, 8, 8, 8, 8, 8, 8, 8, 8, 8, 8, 8, 8, 8, 8, 8, 8, 8, 8, 8, 8, 8, 8, 8, 8, 8, 8, 8, 8, 8, 8, 8, 8, 8, 8, 8, 8, 8, 8, 8, 8, 8, 8, 8, 8, 8, 8, 8, 8, 8, 8, 8, 8, 8, 8, 8, 8, 8, 8, 8, 8]⟩)) (.tmp 21), none, [], true⟩,
    ⟨(some 23), .conv .i64 (.tmp 22), none, [], true⟩,
    ⟨(some 24), .bin .add (.tmp 19) (.tmp 23), none, [], true⟩,
    ⟨(some 2), .move (.tmp 24), none, [], true⟩])
  .ret))))) }
theorem ir55_eq : funcC Try.prog 55 = some ir55 := by kernel_rfl
/-- slices.siftDownCmpFunc[wagonway/shelf.key] -/
def ir56 : IFunc :=
{ ntmps := 82, results := [], body :=
  (.seq (.region [
    ⟨(some 12), .move (.tmp 1), none, [], true⟩,
    ⟨(some 10), .move (.tmp 12), none, [], true⟩])
  (.block 0 (.loop (.block 1 (.seq (.region [
    ⟨(some 13), .move (.tmp 10), none, [], true⟩,
    ⟨(some 14), .bin .mul (.const (.int .i64 2)) (.tmp 13), none, [], true⟩,
    ⟨(some 15), .bin .add (.tmp 14) (.const (.int .i64 1)), none, [], true⟩,
    ⟨(some 11), .move (.tmp 15), none, [], true⟩])
  (.seq (.seq (.region [
    ⟨(some 16), .move (.tmp 11), none, [], true⟩,
    ⟨(some 17), .move (.tmp 2), none, [], true⟩,
    ⟨(some 18), .bin .geq (.tmp 16) (.tmp 17), none, [], true⟩])
  (.cond (.tmp 18)
   (.exit 0)
   .skip))
  (.seq (.seq (.drawn [
    ⟨(some 19), .move (.tmp 11), none, [], true⟩,
    ⟨(some 20), .bin .add (.tmp 19) (.const (.int .i64 1)), none, [0], true⟩,
    ⟨(some 21), .move (.tmp 2), none, [], true⟩,
    ⟨(some 22), .bin .lss (.tmp 20) (.tmp 21), none, [1, 2, 0], true⟩,
    ⟨(some 23), .move (.tmp 22), none, [3, 1, 2, 0], true⟩,
    ⟨(some 24), .move (.tmp 4), (some (23, true)), [4, 3, 1, 2, 0], false⟩,
    ⟨(some 25), .move (.tmp 0), (some (23, true)), [4, 3, 1, 2, 0], false⟩,
    ⟨(some 26), .move (.tmp 3), (some (23, true)), [4, 3, 1, 2, 0], false⟩,
    ⟨(some 27), .move (.tmp 11), (some (23, true)), [4, 3, 1, 2, 0], false⟩,
    ⟨(some 28), .bin .add (.tmp 26) (.tmp 27), (some (23, true)), [7, 8, 4, 3, 1, 2, 0], false⟩,
    ⟨(some 29), .indexAddr 2 (.tmp 25) (.tmp 28), (some (23, true)), [6, 9, 4, 3, 1, 2, 0, 7, 8], false⟩,
    ⟨(some 30), .load (some 2) (.tmp 29), (some (23, true)), [10, 4, 6, 9, 3, 1, 2, 0, 7, 8], false⟩,
    ⟨(some 31), .move (.tmp 0), (some (23, true)), [4, 3, 1, 2, 0], false⟩,
    ⟨(some 32), .move (.tmp 3), (some (23, true)), [4, 3, 1, 2, 0], false⟩,
    ⟨(some 33), .move (.tmp 11), (some (23, true)), [4, 3, 1, 2, 0], false⟩,
    ⟨(some 34), .bin .add (.tmp 32) (.tmp 33), (some (23, true)), [13, 14, 4, 3, 1, 2, 0], false⟩,
    ⟨(some 35), .bin .add (.tmp 34) (.const (.int .i64 1)), (some (23, true)), [15, 4, 13, 14, 3, 1, 2, 0], false⟩,
    ⟨(some 36), .indexAddr 2 (.tmp 31) (.tmp 35), (some (23, true)), [12, 16, 4, 3, 1, 2, 0, 15, 13, 14], false⟩,
    ⟨(some 37), .load (some 2) (.tmp 36), (some (23, true)), [17, 4, 12, 16, 3, 1, 2, 0, 15, 13, 14], false⟩,
    ⟨(some 38), .call (.tmp 24) [(.tmp 30), (.tmp 37)], (some (23, true)), [5, 11, 18, 4, 3, 1, 2, 0, 10, 6, 9, 7, 8, 17, 12, 16, 15, 13, 14], true⟩,
    ⟨(some 39), .bin .lss (.tmp 38) (.const (.int .i64 0)), (some (23, true)), [19, 4, 5, 11, 18, 3, 1, 2, 0, 10, 6, 9, 7, 8, 17, 12, 16, 15, 13, 14], true⟩,
    ⟨(some 40), .pick (.tmp 23) (.tmp 39) (.const (.bool false)), none, [4, 20, 3, 1, 2, 0, 19, 5, 11, 18, 10, 6, 9, 7, 8, 17, 12, 16, 15, 13, 14], true⟩])
  (.cond (.tmp 40)
   (.region [
     ⟨(some 41), .move (.tmp 11), none, [], true⟩,
     ⟨(some 42), .bin .add (.tmp 41) (.const (.int .i64 1)), none, [], true⟩,
     ⟨(some 11), .move (.tmp 42), none, [], true⟩])
   .skip))
  (.seq (.seq (.drawn [
    ⟨(some 43), .move (.tmp 4), none, [], false⟩,
    ⟨(some 44), .move (.tmp 0), none, [], false⟩,
    ⟨(some 45), .move (.tmp 3), none, [], false⟩,
    ⟨(some 46), .move (.tmp 10), none, [], false⟩,
    ⟨(some 47), .bin .add (.tmp 45) (.tmp 46), none, [2, 3], false⟩,
    ⟨(some 48), .indexAddr 2 (.tmp 44) (.tmp 47), none, [1, 4, 2, 3], false⟩,
    ⟨(some 49), .load (some 2) (.tmp 48), none, [5, 1, 4, 2, 3], false⟩,
    ⟨(some 50), .move (.tmp 0), none, [], false⟩,
    ⟨(some 51), .move (.tmp 3), none, [], false⟩,
    ⟨(some 52), .move (.tmp 11), none, [], false⟩,
    ⟨(some 53), .bin .add (.tmp 51) (.tmp 52), none, [8, 9], false⟩,
    ⟨(some 54), .indexAddr 2 (.tmp 50) (.tmp 53), none, [7, 10, 8, 9], false⟩,
    ⟨(some 55), .load (some 2) (.tmp 54), none, [11, 7, 10, 8, 9], false⟩,
    ⟨(some 56), .call (.tmp 43) [(.tmp 49), (.tmp 55)], none, [0, 6, 12, 5, 1, 4, 2, 3, 11, 7, 10, 8, 9], true⟩,
    ⟨(some 57), .bin .lss (.tmp 56) (.const (.int .i64 0)), none, [13, 0, 6, 12, 5, 1, 4, 2, 3, 11, 7, 10, 8, 9], true⟩,
    ⟨(some 58), .un .not (.tmp 57), none, [14, 13, 0, 6, 12, 5, 1, 4, 2, 3, 11, 7, 10, 8, 9], true⟩])
  (.cond (.tmp 58)
   .ret
   .skip))
  (.seq (.drawn [
    ⟨(some 59), .move (.tmp 0), none, [], false⟩,
    ⟨(some 60), .move (.tmp 3), none, [], false⟩,
    ⟨(some 61), .move (.tmp 10), none, [], false⟩,
    ⟨(some 62), .bin .add (.tmp 60) (.tmp 61), none, [1, 2], false⟩,
    ⟨(some 63), .move (.tmp 0), none, [], false⟩,
    ⟨(some 64), .move (.tmp 3), none, [], false⟩,
    ⟨(some 65), .move (.tmp 11), none, [], false⟩,
    ⟨(some 66), .bin .add (.tmp 64) (.tmp 65), none, [5, 6], false⟩,
    ⟨(some 67), .move (.tmp 0), none, [], false⟩,
    ⟨(some 68), .move (.tmp 3), none, [], false⟩,
    ⟨(some 69), .move (.tmp 11), none, [], false⟩,
    ⟨(some 70), .bin .add (.tmp 68) (.tmp 69), none, [9, 10], false⟩,
    ⟨(some 71), .indexAddr 2 (.tmp 67) (.tmp 70), none, [8, 11, 9, 10], false⟩,
    ⟨(some 72), .load (some 2) (.tmp 71), none, [12, 8, 11, 9, 10], false⟩,
    ⟨(some 73), .move (.tmp 0), none, [], false⟩,
    ⟨(some 74), .move (.tmp 3), none, [], false⟩,
    ⟨(some 75), .move (.tmp 10), none, [], false⟩,
    ⟨(some 76), .bin .add (.tmp 74) (.tmp 75), none, [15, 16], false⟩,
    ⟨(some 77), .indexAddr 2 (.tmp 73) (.tmp 76), none, [14, 17, 15, 16], false⟩,
    ⟨(some 78), .load (some 2) (.tmp 77), none, [18, 14, 17, 15, 16], false⟩,
    ⟨(some 79), .indexAddr 2 (.tmp 59) (.tmp 62), none, [0, 3, 1, 2, 8, 9, 10, 11, 12, 13, 19, 18, 14, 17, 15, 16], true⟩,
    ⟨none, .store 2 (.tmp 79) (.tmp 72), none, [20, 13, 0, 1, 2, 3, 8, 9, 10, 11, 12, 19, 18, 14, 17, 15, 16], true⟩,
    ⟨(some 80), .indexAddr 2 (.tmp 63) (.tmp 66), none, [4, 7, 0, 1, 2, 3, 5, 6, 8, 9, 10, 11, 12, 13, 14, 15, 16, 17, 18, 19, 20, 21], true⟩,
    ⟨none, .store 2 (.tmp 80) (.tmp 78), none, [22, 19, 21, 0, 1, 2, 3, 4, 5, 6, 7, 8, 9, 10, 11, 12, 13, 14, 15, 16, 17, 18, 20], true⟩])
  (.region [
    ⟨(some 81), .move (.tmp 11), none, [], true⟩,
    ⟨(some 10), .move (.tmp 81), none, [], true⟩])))))))))) }
theorem ir56_eq : funcC Try.prog 56 = some ir56 := by kernel_rfl
/-- slices.nextPowerOfTwo -/
def ir57 : IFunc :=
{ ntmps := 7, results := [.tmp 2], body :=
  (.seq (.region [
    ⟨(some 2), .move (.const (.int .u64 0)), none, [], true⟩])
  (.seq (.region [
    ⟨(some 3), .move (.tmp 0), none, [], true⟩,
    ⟨(some 4), .conv .u64 (.tmp 3), none, [], true⟩,
    ⟨(some 5), .call (.const (.func (.func 45) #[] #[])) [(.tmp 4)], none, [], true⟩,
    ⟨(some 6), .bin .shl (.const (.int .u64 1)) (.tmp 5), none, [], true⟩,
    ⟨(some 2), .move (.tmp 6), none, [], true⟩])
  .ret)) }
theorem ir57_eq : funcC Try.prog 57 = some ir57 := by kernel_rfl
/-- (*slices.xorshift).Next -/
def ir58 : IFunc :=
{ ntmps := 33, results := [.tmp 2], body :=
  (.seq (.region [
    ⟨(some 2), .move (.const (.int .u64 0)), none, [], true⟩])
  (.seq (.drawn [
    ⟨(some 3), .move (.tmp 0), none, [], false⟩,
    ⟨(some 4), .nilCheck (.tmp 3), none, [0], false⟩,
    ⟨(some 5), .load none (.tmp 4), none, [1, 0], false⟩,
    ⟨(some 6), .move (.tmp 0), none, [], false⟩,
    ⟨(some 7), .nilCheck (.tmp 6), none, [3], false⟩,
    ⟨(some 8), .load none (.tmp 7), none, [4, 3], false⟩,
    ⟨(some 9), .bin .shl (.tmp 8) (.const (.int .u64 13)), none, [5, 4, 3], false⟩,
    ⟨(some 10), .bin .xor (.tmp 5) (.tmp 9), none, [2, 6, 1, 0, 5, 4, 3], true⟩,
    ⟨(some 11), .nilCheck (.tmp 3), none, [0, 1, 2, 3, 4, 5, 6, 7], true⟩,
    ⟨none, .store 1 (.tmp 11) (.tmp 10), none, [8, 7, 0, 1, 2, 3, 4, 5, 6], true⟩])
  (.seq (.drawn [
    ⟨(some 12), .move (.tmp 0), none, [], false⟩,
    ⟨(some 13), .nilCheck (.tmp 12), none, [0], false⟩,
    ⟨(some 14), .load none (.tmp 13), none, [1, 0], false⟩,
    ⟨(some 15), .move (.tmp 0), none, [], false⟩,
    ⟨(some 16), .nilCheck (.tmp 15), none, [3], false⟩,
    ⟨(some 17), .load none (.tmp 16), none, [4, 3], false⟩,
    ⟨(some 18), .bin .shr (.tmp 17) (.const (.int .u64 7)), none, [5, 4, 3], false⟩,
    ⟨(some 19), .bin .xor (.tmp 14) (.tmp 18), none, [2, 6, 1, 0, 5, 4, 3], true⟩,
    ⟨(some 20), .nilCheck (.tmp 12), none, [0, 1, 2, 3, 4, 5, 6, 7], true⟩,
    ⟨none, .store 1 (.tmp 20) (.tmp 19), none, [8, 7, 0, 1, 2, 3, 4, 5, 6], true⟩])
  (.seq (.drawn [
    ⟨(some 21), .move (.tmp 0), none, [], false⟩,
    ⟨(some 22), .nilCheck (.tmp 21), none, [0], false⟩,
    ⟨(some 23), .load none (.tmp 22), none, [1, 0], false⟩,
    ⟨(some 24), .move (.tmp 0), none, [], false⟩,
    ⟨(some 25), .nilCheck (.tmp 24), none, [3], false⟩,
    ⟨(some 26), .load none (.tmp 25), none, [4, 3], false⟩,
    ⟨(some 27), .bin .shl (.tmp 26) (.const (.int .u64 17)), none, [5, 4, 3], false⟩,
    ⟨(some 28), .bin .xor (.tmp 23) (.tmp 27), none, [2, 6, 1, 0, 5, 4, 3], true⟩,
    ⟨(some 29), .nilCheck (.tmp 21), none, [0, 1, 2, 3, 4, 5, 6, 7], true⟩,
    ⟨none, .store 1 (.tmp 29) (.tmp 28), none, [8, 7, 0, 1, 2, 3, 4, 5, 6], true⟩])
  (.seq (.region [
    ⟨(some 30), .move (.tmp 0), none, [], true⟩,
    ⟨(some 31), .nilCheck (.tmp 30), none, [], true⟩,
    ⟨(some 32), .load none (.tmp 31), none, [], true⟩,
    ⟨(some 2), .move (.tmp 32), none, [], true⟩])
  .ret))))) }
theorem ir58_eq : funcC Try.prog 58 = some ir58 := by kernel_rfl
/-- slices.medianAdjacentCmpFunc[wagonway/shelf.key] -/
def ir59 : IFunc :=
{ ntmps := 18, results := [.tmp 8], body :=
  (.seq (.region [
    ⟨(some 8), .move (.const (.int .i64 0)), none, [], true⟩])
  (.seq (.region [
    ⟨(some 9), .move (.tmp 0), none, [], true⟩,
    ⟨(some 10), .move (.tmp 1), none, [], true⟩,
    ⟨(some 11), .bin .sub (.tmp 10) (.const (.int .i64 1)), none, [], true⟩,
    ⟨(some 12), .move (.tmp 1), none, [], true⟩,
    ⟨(some 13), .move (.tmp 1), none, [], true⟩,
    ⟨(some 14), .bin .add (.tmp 13) (.const (.int .i64 1)), none, [], true⟩,
    ⟨(some 15), .move (.tmp 2), none, [], true⟩,
    ⟨(some 16), .move (.tmp 3), none, [], true⟩,
    ⟨(some 17), .call (.const (.func (.func 60) #[] #[])) [(.tmp 9), (.tmp 11), (.tmp 12), (.tmp 14), (.tmp 15), (.tmp 16)], none, [], true⟩,
    ⟨(some 8), .move (.tmp 17), none, [], true⟩])
  .ret)) }
theorem ir59_eq : funcC Try.prog 59 = some ir59 := by kernel_rfl
/-- slices.medianCmpFunc[wagonway/shelf.key] -/
def ir60 : IFunc :=
{ ntmps := 41, results := [.tmp 12], body :=
  (.seq (.region [
    ⟨(some 12), .move (.const (.int .i64 0)), none, [], true⟩])
  (.seq (.region [
    ⟨(some 14), .move (.tmp 0), none, [], true⟩,
    ⟨(some 15), .move (.tmp 1), none, [], true⟩,
    ⟨(some 16), .move (.tmp 2), none, [], true⟩,
    ⟨(some 17), .move (.tmp 4), none, [], true⟩,
    ⟨(some 18), .move (.tmp 5), none, [], true⟩,
    ⟨(some 19), .call (.const (.func (.func 61) #[] #[])) [(.tmp 14), (.tmp 15), (.tmp 16), (.tmp 17), (.tmp 18)], none, [], true⟩,
    ⟨(some 13), .move (.tmp 19), none, [], true⟩,
    ⟨(some 20), .extract (.tmp 13) 0, none, [], true⟩,
    ⟨(some 21), .extract (.tmp 13) 1, none, [], true⟩,
    ⟨(some 1), .move (.tmp 20), none, [], true⟩,
    ⟨(some 2), .move (.tmp 21), none, [], true⟩])
  (.seq (.region [
    ⟨(some 23), .move (.tmp 0), none, [], true⟩,
    ⟨(some 24), .move (.tmp 2), none, [], true⟩,
    ⟨(some 25), .move (.tmp 3), none, [], true⟩,
    ⟨(some 26), .move (.tmp 4), none, [], true⟩,
    ⟨(some 27), .move (.tmp 5), none, [], true⟩,
    ⟨(some 28), .call (.const (.func (.func 61) #[] #[])) [(.tmp 23), (.tmp 24), (.tmp 25), (.tmp 26), (.tmp 27)], none, [], true⟩,
    ⟨(some 22), .move (.tmp 28), none, [], true⟩,
    ⟨(some 29), .extract (.tmp 22) 0, none, [], true⟩,
    ⟨(some 30), .extract (.tmp 22) 1, none, [], true⟩,
    ⟨(some 2), .move (.tmp 29), none, [], true⟩,
    ⟨(some 3), .move (.tmp 30), none, [], true⟩])
  (.seq (.region [
    ⟨(some 32), .move (.tmp 0), none, [], true⟩,
    ⟨(some 33), .move (.tmp 1), none, [], true⟩,
    ⟨(some 34), .move (.tmp 2), none, [], true⟩,
    ⟨(some 35), .move (.tmp 4), none, [], true⟩,
    ⟨(some 36), .move (.tmp 5), none, [], true⟩,
    ⟨(some 37), .call (.const (.func (.func 61) #[] #[])) [(.tmp 32), (.tmp 33), (.tmp 34), (.tmp 35), (.tmp 36)], none, [], true⟩,
    ⟨(some 31), .move (.tmp 37), none, [], true⟩,
    ⟨(some 38), .extract (.tmp 31) 0, none, [], true⟩,
    ⟨(some 39), .extract (.tmp 31) 1, none, [], true⟩,
    ⟨(some 1), .move (.tmp 38), none, [], true⟩,
    ⟨(some 2), .move (.tmp 39), none, [], true⟩])
  (.seq (.region [
    ⟨(some 40), .move (.tmp 2), none, [], true⟩,
    ⟨(some 12), .move (.tmp 40), none, [], true⟩])
  .ret))))) }
theorem ir60_eq : funcC Try.prog 60 = some ir60 := by kernel_rfl
/-- slices.order2CmpFunc[wagonway/shelf.key] -/
def ir61 : IFunc :=
{ ntmps := 32, results := [.tmp 10, .tmp 11], body :=
  (.seq (.region [
    ⟨(some 10), .move (.const (.int .i64 0)), none, [], true⟩,
    ⟨(some 11), .move (.const (.int .i64 0)), none, [], true⟩])
  (.seq (.seq (.drawn [
    ⟨(some 12), .move (.tmp 4), none, [], false⟩,
    ⟨(some 13), .move (.tmp 0), none, [], false⟩,
    ⟨(some 14), .move (.tmp 2), none, [], false⟩,
    ⟨(some 15), .indexAddr 2 (.tmp 13) (.tmp 14), none, [1, 2], false⟩,
    ⟨(some 16), .load (some 2) (.tmp 15), none, [3, 1, 2], false⟩,
    ⟨(some 17), .move (.tmp 0), none, [], false⟩,
    ⟨(some 18), .move (.tmp 1), none, [], false⟩,
    ⟨(some 19), .indexAddr 2 (.tmp 17) (.tmp 18), none, [5, 6], false⟩,
    ⟨(some 20), .load (some 2) (.tmp 19), none, [7, 5, 6], false⟩,
    ⟨(some 21), .call (.tmp 12) [(.tmp 16), (.tmp 20)], none, [0, 4, 8, 3, 1, 2, 7, 5, 6], true⟩,
    ⟨(some 22), .bin .lss (.tmp 21) (.const (.int .i64 0)), none, [9, 0, 4, 8, 3, 1, 2, 7, 5, 6], true⟩])
  (.cond (.tmp 22)
   (.seq (.region [
     ⟨(some 23), .move (.tmp 3), none, [], true⟩,
     ⟨(some 24), .nilCheck (.tmp 23), none, [], true⟩,
     ⟨(some 25), .load none (.tmp 24), none, [], true⟩,
     ⟨(some 26), .bin .add (.tmp 25) (.const (.int .i64 1)), none, [], true⟩,
     ⟨(some 27), .nilCheck (.tmp 23), none, [], true⟩,
     ⟨none, .store 1 (.tmp 27) (.tmp 26), none, [], true⟩])
   (.seq (.region [
     ⟨(some 28), .move (.tmp 2), none, [], true⟩,
     ⟨(some 29), .move (.tmp 1), none, [], true⟩,
     ⟨(some 10), .move (.tmp 28), none, [], true⟩,
     ⟨(some 11), .move (.tmp 29), none, [], true⟩])
   .ret))
   .skip))
  (.seq (.region [
    ⟨(some 30), .move (.tmp 1), none, [], true⟩,
    ⟨(some 31), .move (.tmp 2), none, [], true⟩,
    ⟨(some 10), .move (.tmp 30), none, [], true⟩,
    ⟨(some 11), .move (.tmp 31), none, [], true⟩])
  .ret))) }
theorem ir61_eq : funcC Try.prog 61 = some ir61 := by kernel_rfl
def table : List (Option IFunc) :=
  [none, none, none, some ir3, some ir4, some ir5, some ir6, some ir7, some ir8, some ir9, some ir10, some ir11, some ir12, some ir13, some ir14, some ir15, some ir16, some ir17, some ir18, some ir19, some ir20, some ir21, some ir22, some ir23, some ir24, some ir25, some ir26, some ir27, some ir28, some ir29, some ir30, some ir31, some ir32, some ir33, some ir34, some ir35, some ir36, some ir37, some ir38, some ir39, some ir40, some ir41, some ir42, some ir43, some ir44, some ir45, some ir46, some ir47, some ir48, some ir49, some ir50, some ir51, some ir52, some ir53, some ir54, some ir55, some ir56, some ir57, some ir58, some ir59, some ir60, some ir61]
def env : Env := fun g => (table[g]?).join
theorem env_ok : ∀ g F, env g = some F → funcC Try.prog g = some F := by
  intro g F h
  match g with
  | 0 => cases h
  | 1 => cases h
  | 2 => cases h
  | 3 => cases h; exact ir3_eq
  | 4 => cases h; exact ir4_eq
  | 5 => cases h; exact ir5_eq
  | 6 => cases h; exact ir6_eq
  | 7 => cases h; exact ir7_eq
  | 8 => cases h; exact ir8_eq
  | 9 => cases h; exact ir9_eq
  | 10 => cases h; exact ir10_eq
  | 11 => cases h; exact ir11_eq
  | 12 => cases h; exact ir12_eq
  | 13 => cases h; exact ir13_eq
  | 14 => cases h; exact ir14_eq
  | 15 => cases h; exact ir15_eq
  | 16 => cases h; exact ir16_eq
  | 17 => cases h; exact ir17_eq
  | 18 => cases h; exact ir18_eq
  | 19 => cases h; exact ir19_eq
  | 20 => cases h; exact ir20_eq
  | 21 => cases h; exact ir21_eq
  | 22 => cases h; exact ir22_eq
  | 23 => cases h; exact ir23_eq
  | 24 => cases h; exact ir24_eq
  | 25 => cases h; exact ir25_eq
  | 26 => cases h; exact ir26_eq
  | 27 => cases h; exact ir27_eq
  | 28 => cases h; exact ir28_eq
  | 29 => cases h; exact ir29_eq
  | 30 => cases h; exact ir30_eq
  | 31 => cases h; exact ir31_eq
  | 32 => cases h; exact ir32_eq
  | 33 => cases h; exact ir33_eq
  | 34 => cases h; exact ir34_eq
  | 35 => cases h; exact ir35_eq
  | 36 => cases h; exact ir36_eq
  | 37 => cases h; exact ir37_eq
  | 38 => cases h; exact ir38_eq
  | 39 => cases h; exact ir39_eq
  | 40 => cases h; exact ir40_eq
  | 41 => cases h; exact ir41_eq
  | 42 => cases h; exact ir42_eq
  | 43 => cases h; exact ir43_eq
  | 44 => cases h; exact ir44_eq
  | 45 => cases h; exact ir45_eq
  | 46 => cases h; exact ir46_eq
  | 47 => cases h; exact ir47_eq
  | 48 => cases h; exact ir48_eq
  | 49 => cases h; exact ir49_eq
  | 50 => cases h; exact ir50_eq
  | 51 => cases h; exact ir51_eq
  | 52 => cases h; exact ir52_eq
  | 53 => cases h; exact ir53_eq
  | 54 => cases h; exact ir54_eq
  | 55 => cases h; exact ir55_eq
  | 56 => cases h; exact ir56_eq
  | 57 => cases h; exact ir57_eq
  | 58 => cases h; exact ir58_eq
  | 59 => cases h; exact ir59_eq
  | 60 => cases h; exact ir60_eq
  | 61 => cases h; exact ir61_eq
  | g + 62 => simp [env, table] at h
end Go.Proofs.Ytljkmlplmonibaa
