/-
  THE FUNCTIONS THAT THE STATEMENTS REACH, in the intermediate form; written by a program of this claim.
-/
import Derived.Test.YtjfhgjchocdhmaaDoorChecked
import Derived.Test.YtjfhgjchocdhmaaDoorFa
import Derived.KernelRfl
namespace Go.Proofs.YtjfhgjchocdhmaaDoor
open Go Go.Ideal
/-- wagonway/wagonwaylaw10.WindowOnce -/
def ir3 : IFunc :=
{ ntmps := 96, results := [.tmp 2], body :=
  (.seq (.region [
    ⟨(some 2), .move (.const (.bool false)), none, [], true⟩])
  (.seq (.region [
    ⟨(some 11), .call (.const (.func (.func 8) #[] #[])) [], none, [], true⟩,
    ⟨(some 3), .move (.tmp 11), none, [], true⟩])
  (.seq (.seq (.region [
    ⟨(some 12), .move (.tmp 0), none, [], true⟩,
    ⟨(some 13), .lenSlice (.tmp 12), none, [], true⟩,
    ⟨(some 14), .bin .gtr (.tmp 13) (.const (.int .i64 300)), none, [], true⟩,
    ⟨(some 15), .move (.tmp 14), none, [], true⟩,
    ⟨(some 16), .move (.tmp 3), (some (15, false)), [], true⟩,
    ⟨(some 17), .un .not (.tmp 16), (some (15, false)), [], true⟩,
    ⟨(some 18), .pick (.tmp 15) (.const (.bool true)) (.tmp 17), none, [], true⟩])
  (.cond (.tmp 18)
   (.seq (.region [
     ⟨(some 19), .move (.tmp 3), none, [], true⟩,
     ⟨(some 2), .move (.tmp 19), none, [], true⟩])
   .ret)
   .skip))
  (.seq (.region [
    ⟨(some 4), .box (.const (.agg #[(.int .u32 0), (.int .u64 0)])), none, [], true⟩])
  (.seq (.region [
    ⟨(some 20), .makeMap, none, [], true⟩,
    ⟨(some 5), .move (.tmp 20), none, [], true⟩])
  (.seq (.region [
    ⟨(some 6), .move (.const (.int .u32 0)), none, [], true⟩])
  (.seq (.seq (.region [
    ⟨(some 21), .move (.tmp 0), none, [], true⟩,
    ⟨(some 22), .lenSlice (.tmp 21), none, [], true⟩,
    ⟨(some 23), .move (.const (.int .i64 0)), none, [], true⟩])
  (.block 0 (.loop (.seq (.region [
    ⟨(some 24), .bin .lss (.tmp 23) (.tmp 22), none, [], true⟩])
  (.seq (.cond (.tmp 24)
   .skip
   (.exit 0))
  (.seq (.block 1 (.seq (.region [
    ⟨(some 25), .move (.tmp 23), none, [], true⟩,
    ⟨(some 7), .move (.tmp 25), none, [], true⟩])
  (.seq (.region [
    ⟨(some 26), .move (.tmp 0), none, [], true⟩,
    ⟨(some 27), .move (.tmp 7), none, [], true⟩,
    ⟨(some 28), .indexAddr 1 (.tmp 26) (.tmp 27), none, [], true⟩,
    ⟨(some 29), .load none (.tmp 28), none, [], true⟩,
    ⟨(some 30), .call (.const (.func (.func 9) #[] #[])) [(.tmp 4), (.tmp 29)], none, [], true⟩,
    ⟨(some 8), .move (.tmp 30), none, [], true⟩])
  (.seq (.seq (.region [
    ⟨(some 31), .move (.tmp 8), none, [], true⟩,
    ⟨(some 32), .bin .eql (.tmp 31) (.const (.int .i64 1)), none, [], true⟩])
  (.cond (.tmp 32)
   (.region [
     ⟨(some 33), .move (.tmp 5), none, [], true⟩,
     ⟨(some 34), .move (.tmp 0), none, [], true⟩,
     ⟨(some 35), .move (.tmp 7), none, [], true⟩,
     ⟨(some 36), .indexAddr 1 (.tmp 34) (.tmp 35), none, [], true⟩,
     ⟨(some 37), .load none (.tmp 36), none, [], true⟩,
     ⟨(some 38), .lookup none (.int .i64 0) false (.tmp 33) (.tmp 37), none, [], true⟩,
     ⟨(some 39), .bin .add (.tmp 38) (.const (.int .i64 1)), none, [], true⟩,
     ⟨none, .mapUpdate none (.tmp 33) (.tmp 37) (.tmp 39), none, [], true⟩])
   .skip))
  (.seq (.region [
    ⟨(some 40), .call (.const (.func (.func 10) #[] #[])) [(.tmp 4)], none, [], true⟩,
    ⟨(some 9), .move (.tmp 40), none, [], true⟩])
  (.seq (.seq (.drawn [
    ⟨(some 41), .move (.tmp 5), none, [], false⟩,
    ⟨(some 42), .move (.tmp 0), none, [], true⟩,
    ⟨(some 43), .move (.tmp 7), none, [], true⟩,
    ⟨(some 44), .indexAddr 1 (.tmp 42) (.tmp 43), none, [1, 2], true⟩,
    ⟨(some 45), .load none (.tmp 44), none, [3, 1, 2], true⟩,
    ⟨(some 46), .lookup none (.int .i64 0) false (.tmp 41) (.tmp 45), none, [0, 4, 3, 1, 2], true⟩,
    ⟨(some 47), .bin .gtr (.tmp 46) (.const (.int .i64 1)), none, [5, 0, 4, 3, 1, 2], true⟩,
    ⟨(some 48), .move (.tmp 47), none, [6, 5, 0, 4, 3, 1, 2], true⟩,
    ⟨(some 49), .move (.tmp 9), (some (48, false)), [7, 6, 5, 0, 4, 3, 1, 2], true⟩,
    ⟨(some 50), .move (.tmp 6), (some (48, false)), [7, 6, 5, 0, 4, 3, 1, 2], true⟩,
    ⟨(some 51), .bin .lss (.tmp 49) (.tmp 50), (some (48, false)), [8, 9, 7, 6, 5, 0, 4, 3, 1, 2], true⟩,
    ⟨(some 52), .pick (.tmp 48) (.const (.bool true)) (.tmp 51), none, [7, 10, 6, 5, 0, 4, 3, 1, 2, 8, 9], true⟩,
    ⟨(some 53), .move (.tmp 52), none, [11, 7, 10, 6, 5, 0, 4, 3, 1, 2, 8, 9], true⟩,
    ⟨(some 54), .move (.tmp 8), (some (53, false)), [12, 11, 7, 10, 6, 5, 0, 4, 3, 1, 2, 8, 9], false⟩,
    ⟨(some 55), .bin .eql (.tmp 54) (.const (.int .i64 2)), (some (53, false)), [13, 12, 11, 7, 10, 6, 5, 0, 4, 3, 1, 2, 8, 9], false⟩,
    ⟨(some 56), .move (.tmp 8), (some (53, false)), [12, 11, 7, 10, 6, 5, 0, 4, 3, 1, 2, 8, 9], true⟩,
    ⟨(some 57), .bin .neq (.tmp 56) (.const (.int .i64 1)), (some (53, false)), [15, 12, 11, 7, 10, 6, 5, 0, 4, 3, 1, 2, 8, 9], true⟩,
    ⟨(some 58), .move (.tmp 57), (some (53, false)), [16, 12, 15, 11, 7, 10, 6, 5, 0, 4, 3, 1, 2, 8, 9], true⟩,
    ⟨(some 59), .move (.tmp 5), (some (58, true)), [17, 16, 12, 15, 11, 7, 10, 6, 5, 0, 4, 3, 1, 2, 8, 9], false⟩,
    ⟨(some 60), .move (.tmp 0), (some (58, true)), [17, 16, 12, 15, 11, 7, 10, 6, 5, 0, 4, 3, 1, 2, 8, 9], true⟩,
    ⟨(some 61), .move (.tmp 7), (some (58, true)), [17, 16, 12, 15, 11, 7, 10, 6, 5, 0, 4, 3, 1, 2, 8, 9], true⟩,
    ⟨(some 62), .indexAddr 1 (.tmp 60) (.tmp 61), (some (58, true)), [19, 20, 17, 16, 12, 15, 11, 7, 10, 6, 5, 0, 4, 3, 1, 2, 8, 9], true⟩,
    ⟨(some 63), .load none (.tmp 62), (some (58, true)), [21, 17, 19, 20, 16, 12, 15, 11, 7, 10, 6, 5, 0, 4, 3, 1, 2, 8, 9], true⟩,
    ⟨(some 64), .lookup none (.int .i64 0) false (.tmp 59) (.tmp 63), (some (58, true)), [18, 22, 17, 16, 12, 15, 11, 7, 10, 6, 5, 0, 4, 3, 1, 2, 8, 9, 21, 19, 20], true⟩,
    ⟨(some 65), .bin .eql (.tmp 64) (.const (.int .i64 1)), (some (58, true)), [23, 17, 18, 22, 16, 12, 15, 11, 7, 10, 6, 5, 0, 4, 3, 1, 2, 8, 9, 21, 19, 20], true⟩,
    ⟨(some 66), .pick (.tmp 58) (.tmp 65) (.const (.bool false)), (some (53, false)), [17, 24, 12, 16, 15, 11, 7, 10, 6, 5, 0, 4, 3, 1, 2, 8, 9, 23, 18, 22, 21, 19, 20], true⟩,
    ⟨(some 67), .eqBool true (.tmp 55) (.tmp 66), (some (53, false)), [14, 25, 12, 13, 11, 7, 10, 6, 5, 0, 4, 3, 1, 2, 8, 9, 17, 24, 16, 15, 23, 18, 22, 21, 19, 20], true⟩,
    ⟨(some 68), .pick (.tmp 53) (.const (.bool true)) (.tmp 67), none, [12, 26, 11, 7, 10, 6, 5, 0, 4, 3, 1, 2, 8, 9, 14, 25, 13, 17, 24, 16, 15, 23, 18, 22, 21, 19, 20], true⟩,
    ⟨(some 69), .move (.tmp 68), none, [27, 17, 12, 26, 11, 7, 10, 6, 5, 0, 4, 3, 1, 2, 8, 9, 14, 25, 13, 24, 16, 15, 23, 18, 22, 21, 19, 20], true⟩,
    ⟨(some 70), .move (.tmp 0), (some (69, false)), [28, 27, 17, 12, 26, 11, 7, 10, 6, 5, 0, 4, 3, 1, 2, 8, 9, 14, 25, 13, 24, 16, 15, 23, 18, 22, 21, 19, 20], false⟩,
    ⟨(some 71), .move (.tmp 7), (some (69, false)), [28, 27, 17, 12, 26, 11, 7, 10, 6, 5, 0, 4, 3, 1, 2, 8, 9, 14, 25, 13, 24, 16, 15, 23, 18, 22, 21, 19, 20], false⟩,
    ⟨(some 72), .indexAddr 1 (.tmp 70) (.tmp 71), (some (69, false)), [29, 30, 28, 27, 17, 12, 26, 11, 7, 10, 6, 5, 0, 4, 3, 1, 2, 8, 9, 14, 25, 13, 24, 16, 15, 23, 18, 22, 21, 19, 20], false⟩,
    ⟨(some 73), .load none (.tmp 72), (some (69, false)), [31, 28, 29, 30, 27, 17, 12, 26, 11, 7, 10, 6, 5, 0, 4, 3, 1, 2, 8, 9, 14, 25, 13, 24, 16, 15, 23, 18, 22, 21, 19, 20], false⟩,
    ⟨(some 74), .call (.const (.func (.func 11) #[] #[])) [(.tmp 4), (.tmp 73)], (some (69, false)), [32, 28, 31, 29, 30, 27, 17, 12, 26, 11, 7, 10, 6, 5, 0, 4, 3, 1, 2, 8, 9, 14, 25, 13, 24, 16, 15, 23, 18, 22, 21, 19, 20], false⟩,
    ⟨(some 75), .move (.tmp 5), (some (69, false)), [28, 27, 17, 12, 26, 11, 7, 10, 6, 5, 0, 4, 3, 1, 2, 8, 9, 14, 25, 13, 24, 16, 15, 23, 18, 22, 21, 19, 20], false⟩,
    ⟨(some 76), .move (.tmp 0), (some (69, false)), [28, 27, 17, 12, 26, 11, 7, 10, 6, 5, 0, 4, 3, 1, 2, 8, 9, 14, 25, 13, 24, 16, 15, 23, 18, 22, 21, 19, 20], false⟩,
    ⟨(some 77), .move (.tmp 7), (some (69, false)), [28, 27, 17, 12, 26, 11, 7, 10, 6, 5, 0, 4, 3, 1, 2, 8, 9, 14, 25, 13, 24, 16, 15, 23, 18, 22, 21, 19, 20], false⟩,
    ⟨(some 78), .indexAddr 1 (.tmp 76) (.tmp 77), (some (69, false)), [35, 36, 28, 27, 17, 12, 26, 11, 7, 10, 6, 5, 0, 4, 3, 1, 2, 8, 9, 14, 25, 13, 24, 16, 15, 23, 18, 22, 21, 19, 20], false⟩,
    ⟨(some 79), .load none (.tmp 78), (some (69, false)), [37, 28, 35, 36, 27, 17, 12, 26, 11, 7, 10, 6, 5, 0, 4, 3, 1, 2, 8, 9, 14, 25, 13, 24, 16, 15, 23, 18, 22, 21, 19, 20], false⟩,
    ⟨(some 80), .lookup none (.int .i64 0) false (.tmp 75) (.tmp 79), (some (69, false)), [34, 38, 28, 27, 17, 12, 26, 11, 7, 10, 6, 5, 0, 4, 3, 1, 2, 8, 9, 14, 25, 13, 24, 16, 15, 23, 18, 22, 21, 19, 20, 37, 35, 36], false⟩,
    ⟨(some 81), .bin .eql (.tmp 80) (.const (.int .i64 1)), (some (69, false)), [39, 28, 34, 38, 27, 17, 12, 26, 11, 7, 10, 6, 5, 0, 4, 3, 1, 2, 8, 9, 14, 25, 13, 24, 16, 15, 23, 18, 22, 21, 19, 20, 37, 35, 36], false⟩,
    ⟨(some 82), .eqBool true (.tmp 74) (.tmp 81), (some (69, false)), [33, 40, 28, 32, 31, 29, 30, 27, 17, 12, 26, 11, 7, 10, 6, 5, 0, 4, 3, 1, 2, 8, 9, 14, 25, 13, 24, 16, 15, 23, 18, 22, 21, 19, 20, 39, 34, 38, 37, 35, 36], true⟩,
    ⟨(some 83), .pick (.tmp 69) (.const (.bool true)) (.tmp 82), none, [28, 41, 27, 17, 12, 26, 11, 7, 10, 6, 5, 0, 4, 3, 1, 2, 8, 9, 14, 25, 13, 24, 16, 15, 23, 18, 22, 21, 19, 20, 33, 40, 32, 31, 29, 30, 39, 34, 38, 37, 35, 36], true⟩])
  (.cond (.tmp 83)
   (.seq (.region [
     ⟨(some 2), .move (.const (.bool false)), none, [], true⟩])
   .ret)
   .skip))
  (.region [
    ⟨(some 84), .move (.tmp 9), none, [], true⟩,
    ⟨(some 6), .move (.tmp 84), none, [], true⟩])))))))
  (.region [
    ⟨(some 85), .bin .add (.tmp 23) (.const (.int .i64 1)), none, [], true⟩,
    ⟨(some 23), .move (.tmp 85), none, [], true⟩])))))))
  (.seq (.seq (.region [
    ⟨(some 10), .move (.const (.int .u32 1)), none, [], true⟩])
  (.block 2 (.loop (.seq (.seq (.region [
    ⟨(some 86), .move (.tmp 10), none, [], true⟩,
    ⟨(some 87), .move (.tmp 6), none, [], true⟩,
    ⟨(some 88), .bin .leq (.tmp 86) (.tmp 87), none, [], true⟩])
  (.cond (.tmp 88)
   .skip
   (.exit 2)))
  (.seq (.block 3 (.seq (.region [
    ⟨(some 91), .move (.tmp 5), none, [], true⟩,
    ⟨(some 92), .move (.tmp 10), none, [], true⟩,
    ⟨(some 93), .lookup none (.int .i64 0) false (.tmp 91) (.tmp 92), none, [], true⟩,
    ⟨(some 94), .bin .neq (.tmp 93) (.const (.int .i64 1)), none, [], true⟩])
  (.cond (.tmp 94)
   (.seq (.region [
     ⟨(some 2), .move (.const (.bool false)), none, [], true⟩])
   .ret)
   .skip)))
  (.region [
    ⟨(some 89), .move (.tmp 10), none, [], true⟩,
    ⟨(some 90), .bin .add (.tmp 89) (.const (.int .u32 1)), none, [], true⟩,
    ⟨(some 10), .move (.tmp 90), none, [], true⟩]))))))
  (.seq (.region [
    ⟨(some 95), .move (.tmp 3), none, [], true⟩,
    ⟨(some 2), .move (.tmp 95), none, [], true⟩])
  .ret))))))))) }
theorem ir3_eq : funcC Tryd.prog 3 = some ir3 := by kernel_rfl
/-- wagonway/wagonwaylaw10.WindowOrders -/
def ir4 : IFunc :=
{ ntmps := 99, results := [.tmp 4], body :=
  (.seq (.region [
    ⟨(some 4), .move (.const (.bool false)), none, [], true⟩])
  (.seq (.region [
    ⟨(some 12), .call (.const (.func (.func 8) #[] #[])) [], none, [], true⟩,
    ⟨(some 5), .move (.tmp 12), none, [], true⟩])
  (.seq (.seq (.region [
    ⟨(some 13), .move (.tmp 0), none, [], true⟩,
    ⟨(some 14), .lenSlice (.tmp 13), none, [], true⟩,
    ⟨(some 15), .bin .gtr (.tmp 14) (.const (.int .i64 64)), none, [], true⟩,
    ⟨(some 16), .move (.tmp 15), none, [], true⟩,
    ⟨(some 17), .move (.tmp 1), (some (16, false)), [], true⟩,
    ⟨(some 18), .lenSlice (.tmp 17), (some (16, false)), [], true⟩,
    ⟨(some 19), .bin .gtr (.tmp 18) (.const (.int .i64 64)), (some (16, false)), [], true⟩,
    ⟨(some 20), .pick (.tmp 16) (.const (.bool true)) (.tmp 19), none, [], true⟩,
    ⟨(some 21), .move (.tmp 20), none, [], true⟩,
    ⟨(some 22), .move (.tmp 5), (some (21, false)), [], true⟩,
    ⟨(some 23), .un .not (.tmp 22), (some (21, false)), [], true⟩,
    ⟨(some 24), .pick (.tmp 21) (.const (.bool true)) (.tmp 23), none, [], true⟩])
  (.cond (.tmp 24)
   (.seq (.region [
     ⟨(some 25), .move (.tmp 5), none, [], true⟩,
     ⟨(some 4), .move (.tmp 25), none, [], true⟩])
   .ret)
   .skip))
  (.seq (.region [
    ⟨(some 26), .buildSlice 1 0 [(.int .u8 0)] [], none, [], true⟩,
    ⟨(some 27), .move (.tmp 0), none, [], true⟩,
    ⟨(some 28), .append 1 1 (.tmp 26) (.tmp 27), none, [], true⟩,
    ⟨(some 6), .move (.tmp 28), none, [], true⟩])
  (.seq (.seq (.region [
    ⟨(some 29), .move (.tmp 6), none, [], true⟩,
    ⟨(some 30), .lenSlice (.tmp 29), none, [], true⟩,
    ⟨(some 31), .move (.const (.int .i64 0)), none, [], true⟩])
  (.block 0 (.loop (.seq (.region [
    ⟨(some 32), .bin .lss (.tmp 31) (.tmp 30), none, [], true⟩])
  (.seq (.cond (.tmp 32)
   .skip
   (.exit 0))
  (.seq (.block 1 (.seq (.region [
    ⟨(some 33), .move (.tmp 31), none, [], true⟩,
    ⟨(some 7), .move (.tmp 33), none, [], true⟩])
  (.seq (.region [
    ⟨(some 34), .move (.tmp 7), none, [], true⟩,
    ⟨(some 35), .move (.tmp 1), none, [], true⟩,
    ⟨(some 36), .lenSlice (.tmp 35), none, [], true⟩,
    ⟨(some 37), .bin .lss (.tmp 34) (.tmp 36), none, [], true⟩])
  (.cond (.tmp 37)
   (.seq (.region [
     ⟨(some 38), .move (.tmp 1), none, [], true⟩,
     ⟨(some 39), .move (.tmp 7), none, [], true⟩,
     ⟨(some 40), .indexAddr 1 (.tmp 38) (.tmp 39), none, [], true⟩,
     ⟨(some 41), .load none (.tmp 40), none, [], true⟩,
     ⟨(some 42), .conv .i64 (.tmp 41), none, [], true⟩,
     ⟨(some 43), .move (.tmp 6), none, [], true⟩,
     ⟨(some 44), .lenSlice (.tmp 43), none, [], true⟩,
     ⟨(some 45), .bin .rem (.tmp 42) (.tmp 44), none, [], true⟩,
     ⟨(some 8), .move (.tmp 45), none, [], true⟩])
   (.drawn [
     ⟨(some 46), .move (.tmp 6), none, [], false⟩,
     ⟨(some 47), .move (.tmp 7), none, [], false⟩,
     ⟨(some 48), .move (.tmp 6), none, [], false⟩,
     ⟨(some 49), .move (.tmp 8), none, [], false⟩,
     ⟨(some 50), .move (.tmp 6), none, [], false⟩,
     ⟨(some 51), .move (.tmp 8), none, [], false⟩,
     ⟨(some 52), .indexAddr 1 (.tmp 50) (.tmp 51), none, [4, 5], false⟩,
     ⟨(some 53), .load none (.tmp 52), none, [6, 4, 5], false⟩,
     ⟨(some 54), .move (.tmp 6), none, [], false⟩,
     ⟨(some 55), .move (.tmp 7), none, [], false⟩,
     ⟨(some 56), .indexAddr 1 (.tmp 54) (.tmp 55), none, [8, 9], false⟩,
     ⟨(some 57), .load none (.tmp 56), none, [10, 8, 9], false⟩,
     ⟨(some 58), .indexAddr 1 (.tmp 46) (.tmp 47), none, [0, 1, 4, 5, 6, 7, 11, 10, 8, 9], true⟩,
     ⟨none, .store 1 (.tmp 58) (.tmp 53), none, [12, 7, 0, 1, 4, 5, 6, 11, 10, 8, 9], true⟩,
     ⟨(some 59), .indexAddr 1 (.tmp 48) (.tmp 49), none, [2, 3, 0, 1, 4, 5, 6, 7, 8, 9, 10, 11, 12, 13], true⟩,
     ⟨none, .store 1 (.tmp 59) (.tmp 57), none, [14, 11, 13, 0, 1, 2, 3, 4, 5, 6, 7, 8, 9, 10, 12], true⟩]))
   .skip))))
  (.region [
    ⟨(some 60), .bin .add (.tmp 31) (.const (.int .i64 1)), none, [], true⟩,
    ⟨(some 31), .move (.tmp 60), none, [], true⟩])))))))
  (.seq (.region [
    ⟨(some 9), .box (.const (.agg #[(.int .u32 0), (.int .u64 0)])), none, [], true⟩,
    ⟨(some 10), .box (.const (.agg #[(.int .u32 0), (.int .u64 0)])), none, [], true⟩])
  (.seq (.seq (.region [
    ⟨(some 61), .move (.tmp 0), none, [], true⟩,
    ⟨(some 62), .lenSlice (.tmp 61), none, [], true⟩,
    ⟨(some 63), .move (.const (.int .i64 0)), none, [], true⟩])
  (.block 2 (.loop (.seq (.region [
    ⟨(some 64), .bin .lss (.tmp 63) (.tmp 62), none, [], true⟩])
  (.seq (.cond (.tmp 64)
   .skip
   (.exit 2))
  (.seq (.block 3 (.seq (.region [
    ⟨(some 65), .move (.tmp 63), none, [], true⟩,
    ⟨(some 11), .move (.tmp 65), none, [], true⟩])
  (.seq (.region [
    ⟨(some 66), .move (.tmp 0), none, [], true⟩,
    ⟨(some 67), .move (.tmp 11), none, [], true⟩,
    ⟨(some 68), .indexAddr 1 (.tmp 66) (.tmp 67), none, [], true⟩,
    ⟨(some 69), .load none (.tmp 68), none, [], true⟩,
    ⟨(some 70), .bin .rem (.tmp 69) (.const (.int .u8 64)), none, [], true⟩,
    ⟨(some 71), .conv .u32 (.tmp 70), none, [], true⟩,
    ⟨(some 72), .bin .add (.const (.int .u32 1)) (.tmp 71), none, [], true⟩,
    ⟨(some 73), .call (.const (.func (.func 9) #[] #[])) [(.tmp 9), (.tmp 72)], none, [], true⟩])
  (.region [
    ⟨(some 74), .move (.tmp 6), none, [], true⟩,
    ⟨(some 75), .move (.tmp 11), none, [], true⟩,
    ⟨(some 76), .indexAddr 1 (.tmp 74) (.tmp 75), none, [], true⟩,
    ⟨(some 77), .load none (.tmp 76), none, [], true⟩,
    ⟨(some 78), .bin .rem (.tmp 77) (.const (.int .u8 64)), none, [], true⟩,
    ⟨(some 79), .conv .u32 (.tmp 78), none, [], true⟩,
    ⟨(some 80), .bin .add (.const (.int .u32 1)) (.tmp 79), none, [], true⟩,
    ⟨(some 81), .call (.const (.func (.func 9) #[] #[])) [(.tmp 10), (.tmp 80)], none, [], true⟩]))))
  (.region [
    ⟨(some 82), .bin .add (.tmp 63) (.const (.int .i64 1)), none, [], true⟩,
    ⟨(some 63), .move (.tmp 82), none, [], true⟩])))))))
  (.seq (.region [
    ⟨(some 83), .move (.tmp 5), none, [], true⟩,
    ⟨(some 84), .move (.tmp 83), none, [], true⟩,
    ⟨(some 85), .call (.const (.func (.func 10) #[] #[])) [(.tmp 9)], (some (84, true)), [], true⟩,
    ⟨(some 86), .call (.const (.func (.func 10) #[] #[])) [(.tmp 10)], (some (84, true)), [], true⟩,
    ⟨(some 87), .bin .eql (.tmp 85) (.tmp 86), (some (84, true)), [], true⟩,
    ⟨(some 88), .pick (.tmp 84) (.tmp 87) (.const (.bool false)), none, [], true⟩,
    ⟨(some 89), .move (.tmp 88), none, [], true⟩,
    ⟨(some 90), .call (.const (.func (.func 13) #[] #[])) [(.tmp 9)], (some (89, true)), [], true⟩,
    ⟨(some 91), .call (.const (.func (.func 13) #[] #[])) [(.tmp 10)], (some (89, true)), [], true⟩,
    ⟨(some 92), .call (.const (.func (.func 12) #[] #[])) [(.tmp 90), (.tmp 91)], (some (89, true)), [], true⟩,
    ⟨(some 93), .pick (.tmp 89) (.tmp 92) (.const (.bool false)), none, [], true⟩,
    ⟨(some 94), .move (.tmp 93), none, [], true⟩,
    ⟨(some 95), .call (.const (.func (.func 14) #[] #[])) [(.tmp 9)], (some (94, true)), [], true⟩,
    ⟨(some 96), .call (.const (.func (.func 14) #[] #[])) [(.tmp 10)], (some (94, true)), [], true⟩,
    ⟨(some 97), .call (.const (.func (.func 12) #[] #[])) [(.tmp 95), (.tmp 96)], (some (94, true)), [], true⟩,
    ⟨(some 98), .pick (.tmp 94) (.tmp 97) (.const (.bool false)), none, [], true⟩,
    ⟨(some 4), .move (.tmp 98), none, [], true⟩])
  .ret)))))))) }
theorem ir4_eq : funcC Tryd.prog 4 = some ir4 := by kernel_rfl
/-- wagonway/wagonwaylaw10.WindowMisses -/
def ir5 : IFunc :=
{ ntmps := 107, results := [.tmp 2], body :=
  (.seq (.region [
    ⟨(some 2), .move (.const (.bool false)), none, [], true⟩])
  (.seq (.region [
    ⟨(some 11), .call (.const (.func (.func 8) #[] #[])) [], none, [], true⟩,
    ⟨(some 3), .move (.tmp 11), none, [], true⟩])
  (.seq (.seq (.region [
    ⟨(some 12), .move (.tmp 0), none, [], true⟩,
    ⟨(some 13), .lenSlice (.tmp 12), none, [], true⟩,
    ⟨(some 14), .bin .gtr (.tmp 13) (.const (.int .i64 300)), none, [], true⟩,
    ⟨(some 15), .move (.tmp 14), none, [], true⟩,
    ⟨(some 16), .move (.tmp 3), (some (15, false)), [], true⟩,
    ⟨(some 17), .un .not (.tmp 16), (some (15, false)), [], true⟩,
    ⟨(some 18), .pick (.tmp 15) (.const (.bool true)) (.tmp 17), none, [], true⟩])
  (.cond (.tmp 18)
   (.seq (.region [
     ⟨(some 19), .move (.tmp 3), none, [], true⟩,
     ⟨(some 2), .move (.tmp 19), none, [], true⟩])
   .ret)
   .skip))
  (.seq (.region [
    ⟨(some 4), .box (.const (.agg #[(.int .u32 0), (.int .u64 0)])), none, [], true⟩])
  (.seq (.seq (.region [
    ⟨(some 20), .move (.tmp 0), none, [], true⟩,
    ⟨(some 21), .lenSlice (.tmp 20), none, [], true⟩,
    ⟨(some 22), .move (.const (.int .i64 0)), none, [], true⟩])
  (.block 0 (.loop (.seq (.region [
    ⟨(some 23), .bin .lss (.tmp 22) (.tmp 21), none, [], true⟩])
  (.seq (.cond (.tmp 23)
   .skip
   (.exit 0))
  (.seq (.block 1 (.seq (.region [
    ⟨(some 24), .move (.tmp 22), none, [], true⟩,
    ⟨(some 5), .move (.tmp 24), none, [], true⟩])
  (.seq (.region [
    ⟨(some 25), .move (.tmp 0), none, [], true⟩,
    ⟨(some 26), .move (.tmp 5), none, [], true⟩,
    ⟨(some 27), .indexAddr 1 (.tmp 25) (.tmp 26), none, [], true⟩,
    ⟨(some 28), .load none (.tmp 27), none, [], true⟩,
    ⟨(some 29), .call (.const (.func (.func 9) #[] #[])) [(.tmp 4), (.tmp 28)], none, [], true⟩])
  (.seq (.region [
    ⟨(some 30), .call (.const (.func (.func 13) #[] #[])) [(.tmp 4)], none, [], true⟩,
    ⟨(some 31), .call (.const (.func (.func 14) #[] #[])) [(.tmp 4)], none, [], true⟩,
    ⟨(some 6), .move (.tmp 30), none, [], true⟩,
    ⟨(some 7), .move (.tmp 31), none, [], true⟩])
  (.seq (.region [
    ⟨(some 8), .move (.const (.int .i64 0)), none, [], true⟩,
    ⟨(some 9), .move (.const (.int .i64 0)), none, [], true⟩])
  (.seq (.block 2 (.loop (.seq (.seq (.region [
    ⟨(some 32), .move (.tmp 8), none, [], true⟩,
    ⟨(some 33), .move (.tmp 6), none, [], true⟩,
    ⟨(some 34), .lenSlice (.tmp 33), none, [], true⟩,
    ⟨(some 35), .bin .lss (.tmp 32) (.tmp 34), none, [], true⟩,
    ⟨(some 36), .move (.tmp 35), none, [], true⟩,
    ⟨(some 37), .move (.tmp 9), (some (36, false)), [], true⟩,
    ⟨(some 38), .move (.tmp 7), (some (36, false)), [], true⟩,
    ⟨(some 39), .lenSlice (.tmp 38), (some (36, false)), [], true⟩,
    ⟨(some 40), .bin .lss (.tmp 37) (.tmp 39), (some (36, false)), [], true⟩,
    ⟨(some 41), .pick (.tmp 36) (.const (.bool true)) (.tmp 40), none, [], true⟩])
  (.cond (.tmp 41)
   .skip
   (.exit 2)))
  (.block 3 (.seq (.region [
    ⟨(some 42), .call (.const (.func (.func 10) #[] #[])) [(.tmp 4)], none, [], true⟩,
    ⟨(some 43), .bin .add (.tmp 42) (.const (.int .u32 1)), none, [], true⟩,
    ⟨(some 44), .move (.tmp 8), none, [], true⟩,
    ⟨(some 45), .move (.tmp 9), none, [], true⟩,
    ⟨(some 46), .bin .add (.tmp 44) (.tmp 45), none, [], true⟩,
    ⟨(some 47), .conv .u32 (.tmp 46), none, [], true⟩,
    ⟨(some 48), .bin .add (.tmp 43) (.tmp 47), none, [], true⟩,
    ⟨(some 10), .move (.tmp 48), none, [], true⟩])
  (.block 4 (.seq (.region [
    ⟨(some 50), .move (.tmp 8), none, [], true⟩,
    ⟨(some 51), .move (.tmp 6), none, [], true⟩,
    ⟨(some 52), .lenSlice (.tmp 51), none, [], true⟩,
    ⟨(some 53), .bin .lss (.tmp 50) (.tmp 52), none, [], true⟩,
    ⟨(some 54), .move (.tmp 53), none, [], true⟩,
    ⟨(some 55), .move (.tmp 6), (some (54, true)), [], true⟩,
    ⟨(some 56), .move (.tmp 8), (some (54, true)), [], true⟩,
    ⟨(some 57), .indexAddr 1 (.tmp 55) (.tmp 56), (some (54, true)), [], true⟩,
    ⟨(some 58), .load none (.tmp 57), (some (54, true)), [], true⟩,
    ⟨(some 59), .move (.tmp 10), (some (54, true)), [], true⟩,
    ⟨(some 60), .bin .eql (.tmp 58) (.tmp 59), (some (54, true)), [], true⟩,
    ⟨(some 61), .pick (.tmp 54) (.tmp 60) (.const (.bool false)), none, [], true⟩,
    ⟨(some 49), .move (.tmp 61), none, [], true⟩])
  (.cond (.tmp 49)
   (.region [
     ⟨(some 62), .move (.tmp 8), none, [], true⟩,
     ⟨(some 63), .bin .add (.tmp 62) (.const (.int .i64 1)), none, [], true⟩,
     ⟨(some 8), .move (.tmp 63), none, [], true⟩])
   (.seq (.region [
     ⟨(some 65), .move (.tmp 9), none, [], true⟩,
     ⟨(some 66), .move (.tmp 7), none, [], true⟩,
     ⟨(some 67), .lenSlice (.tmp 66), none, [], true⟩,
     ⟨(some 68), .bin .lss (.tmp 65) (.tmp 67), none, [], true⟩,
     ⟨(some 69), .move (.tmp 68), none, [], true⟩,
     ⟨(some 70), .move (.tmp 7), (some (69, true)), [], true⟩,
     ⟨(some 71), .move (.tmp 9), (some (69, true)), [], true⟩,
     ⟨(some 72), .indexAddr 1 (.tmp 70) (.tmp 71), (some (69, true)), [], true⟩,
     ⟨(some 73), .load none (.tmp 72), (some (69, true)), [], true⟩,
     ⟨(some 74), .move (.tmp 10), (some (69, true)), [], true⟩,
     ⟨(some 75), .bin .eql (.tmp 73) (.tmp 74), (some (69, true)), [], true⟩,
     ⟨(some 76), .pick (.tmp 69) (.tmp 75) (.const (.bool false)), none, [], true⟩,
     ⟨(some 64), .move (.tmp 76), none, [], true⟩])
   (.cond (.tmp 64)
    (.region [
      ⟨(some 77), .move (.tmp 9), none, [], true⟩,
      ⟨(some 78), .bin .add (.tmp 77) (.const (.int .i64 1)), none, [], true⟩,
      ⟨(some 9), .move (.tmp 78), none, [], true⟩])
    (.seq (.region [
      ⟨(some 2), .move (.const (.bool false)), none, [], true⟩])
    .ret)))))))))))
  (.seq (.region [
    ⟨(some 79), .move (.tmp 6), none, [], true⟩,
    ⟨(some 80), .lenSlice (.tmp 79), none, [], true⟩,
    ⟨(some 81), .bin .gtr (.tmp 80) (.const (.int .i64 0)), none, [], true⟩,
    ⟨(some 82), .move (.tmp 81), none, [], true⟩,
    ⟨(some 83), .move (.tmp 7), (some (82, true)), [], true⟩,
    ⟨(some 84), .lenSlice (.tmp 83), (some (82, true)), [], true⟩,
    ⟨(some 85), .bin .eql (.tmp 84) (.const (.int .i64 0)), (some (82, true)), [], true⟩,
    ⟨(some 86), .pick (.tmp 82) (.tmp 85) (.const (.bool false)), none, [], true⟩,
    ⟨(some 87), .move (.tmp 86), none, [], true⟩,
    ⟨(some 88), .move (.tmp 6), (some (87, false)), [], true⟩,
    ⟨(some 89), .lenSlice (.tmp 88), (some (87, false)), [], true⟩,
    ⟨(some 90), .move (.tmp 7), (some (87, false)), [], true⟩,
    ⟨(some 91), .lenSlice (.tmp 90), (some (87, false)), [], true⟩,
    ⟨(some 92), .bin .add (.tmp 89) (.tmp 91), (some (87, false)), [], true⟩,
    ⟨(some 93), .bin .gtr (.tmp 92) (.const (.int .i64 64)), (some (87, false)), [], true⟩,
    ⟨(some 94), .pick (.tmp 87) (.const (.bool true)) (.tmp 93), none, [], true⟩,
    ⟨(some 95), .move (.tmp 94), none, [], true⟩,
    ⟨(some 96), .move (.tmp 6), (some (95, false)), [], true⟩,
    ⟨(some 97), .lenSlice (.tmp 96), (some (95, false)), [], true⟩,
    ⟨(some 98), .bin .eql (.tmp 97) (.const (.int .i64 0)), (some (95, false)), [], true⟩,
    ⟨(some 99), .move (.tmp 98), (some (95, false)), [], true⟩,
    ⟨(some 100), .move (.tmp 7), (some (99, true)), [], true⟩,
    ⟨(some 101), .lenSlice (.tmp 100), (some (99, true)), [], true⟩,
    ⟨(some 102), .bin .gtr (.tmp 101) (.const (.int .i64 0)), (some (99, true)), [], true⟩,
    ⟨(some 103), .pick (.tmp 99) (.tmp 102) (.const (.bool false)), (some (95, false)), [], true⟩,
    ⟨(some 104), .pick (.tmp 95) (.const (.bool true)) (.tmp 103), none, [], true⟩])
  (.cond (.tmp 104)
   (.seq (.region [
     ⟨(some 2), .move (.const (.bool false)), none, [], true⟩])
   .ret)
   .skip))))))))
  (.region [
    ⟨(some 105), .bin .add (.tmp 22) (.const (.int .i64 1)), none, [], true⟩,
    ⟨(some 22), .move (.tmp 105), none, [], true⟩])))))))
  (.seq (.region [
    ⟨(some 106), .move (.tmp 3), none, [], true⟩,
    ⟨(some 2), .move (.tmp 106), none, [], true⟩])
  .ret)))))) }
theorem ir5_eq : funcC Tryd.prog 5 = some ir5 := by kernel_rfl
/-- wagonway/wagonwaylaw10.WindowPlays -/
def ir6 : IFunc :=
{ ntmps := 114, results := [.tmp 4], body :=
  (.seq (.region [
    ⟨(some 4), .move (.const (.bool false)), none, [], true⟩])
  (.seq (.seq (.region [
    ⟨(some 15), .move (.tmp 0), none, [], true⟩,
    ⟨(some 16), .lenSlice (.tmp 15), none, [], true⟩,
    ⟨(some 17), .bin .gtr (.tmp 16) (.const (.int .i64 200)), none, [], true⟩])
  (.cond (.tmp 17)
   (.seq (.region [
     ⟨(some 4), .move (.const (.bool true)), none, [], true⟩])
   .ret)
   .skip))
  (.seq (.region [
    ⟨(some 18), .build [(.int .u32 0), (.int .u64 0)] [], none, [], true⟩,
    ⟨(some 19), .box (.tmp 18), none, [], true⟩,
    ⟨(some 5), .move (.tmp 19), none, [], true⟩])
  (.seq (.region [
    ⟨(some 20), .build [(.int .u32 0), (.slice none 0 0)] [], none, [], true⟩,
    ⟨(some 21), .box (.tmp 20), none, [], true⟩,
    ⟨(some 6), .move (.tmp 21), none, [], true⟩])
  (.seq (.seq (.region [
    ⟨(some 22), .move (.tmp 0), none, [], true⟩,
    ⟨(some 23), .lenSlice (.tmp 22), none, [], true⟩,
    ⟨(some 24), .move (.const (.int .i64 0)), none, [], true⟩])
  (.block 0 (.loop (.seq (.region [
    ⟨(some 25), .bin .lss (.tmp 24) (.tmp 23), none, [], true⟩])
  (.seq (.cond (.tmp 25)
   .skip
   (.exit 0))
  (.seq (.block 1 (.seq (.region [
    ⟨(some 26), .move (.tmp 24), none, [], true⟩,
    ⟨(some 7), .move (.tmp 26), none, [], true⟩])
  (.seq (.region [
    ⟨(some 27), .move (.tmp 5), none, [], true⟩,
    ⟨(some 28), .move (.tmp 0), none, [], true⟩,
    ⟨(some 29), .move (.tmp 7), none, [], true⟩,
    ⟨(some 30), .indexAddr 1 (.tmp 28) (.tmp 29), none, [], true⟩,
    ⟨(some 31), .load none (.tmp 30), none, [], true⟩,
    ⟨(some 32), .call (.const (.func (.func 9) #[] #[])) [(.tmp 27), (.tmp 31)], none, [], true⟩,
    ⟨(some 8), .move (.tmp 32), none, [], true⟩])
  (.seq (.seq (.region [
    ⟨(some 33), .move (.tmp 8), none, [], true⟩,
    ⟨(some 34), .move (.tmp 6), none, [], true⟩,
    ⟨(some 35), .move (.tmp 0), none, [], true⟩,
    ⟨(some 36), .move (.tmp 7), none, [], true⟩,
    ⟨(some 37), .indexAddr 1 (.tmp 35) (.tmp 36), none, [], true⟩,
    ⟨(some 38), .load none (.tmp 37), none, [], true⟩,
    ⟨(some 39), .call (.const (.func (.func 15) #[] #[])) [(.tmp 34), (.tmp 38)], none, [], true⟩,
    ⟨(some 40), .bin .neq (.tmp 33) (.tmp 39), none, [], true⟩])
  (.cond (.tmp 40)
   (.seq (.region [
     ⟨(some 4), .move (.const (.bool false)), none, [], true⟩])
   .ret)
   .skip))
  (.seq (.region [
    ⟨(some 41), .move (.tmp 6), none, [], true⟩,
    ⟨(some 42), .call (.const (.func (.func 16) #[] #[])) [(.tmp 41)], none, [], true⟩,
    ⟨(some 9), .move (.tmp 42), none, [], true⟩])
  (.seq (.region [
    ⟨(some 44), .move (.tmp 5), none, [], true⟩,
    ⟨(some 45), .call (.const (.func (.func 17) #[] #[])) [(.tmp 44)], none, [], true⟩,
    ⟨(some 43), .move (.tmp 45), none, [], true⟩,
    ⟨(some 46), .extract (.tmp 43) 0, none, [], true⟩,
    ⟨(some 47), .extract (.tmp 43) 1, none, [], true⟩,
    ⟨(some 10), .move (.tmp 46), none, [], true⟩,
    ⟨(some 11), .move (.tmp 47), none, [], true⟩])
  (.seq (.region [
    ⟨(some 48), .move (.tmp 5), none, [], true⟩,
    ⟨(some 49), .call (.const (.func (.func 13) #[] #[])) [(.tmp 48)], none, [], true⟩,
    ⟨(some 12), .move (.tmp 49), none, [], true⟩])
  (.seq (.region [
    ⟨(some 50), .move (.tmp 5), none, [], true⟩,
    ⟨(some 51), .call (.const (.func (.func 14) #[] #[])) [(.tmp 50)], none, [], true⟩,
    ⟨(some 13), .move (.tmp 51), none, [], true⟩])
  (.seq (.seq (.drawn [
    ⟨(some 52), .move (.tmp 5), none, [], true⟩,
    ⟨(some 53), .call (.const (.func (.func 10) #[] #[])) [(.tmp 52)], none, [0], true⟩,
    ⟨(some 54), .move (.tmp 9), none, [], false⟩,
    ⟨(some 55), .bin .neq (.tmp 53) (.tmp 54), none, [1, 2, 0], true⟩,
    ⟨(some 56), .move (.tmp 55), none, [3, 1, 2, 0], true⟩,
    ⟨(some 57), .move (.tmp 11), (some (56, false)), [4, 3, 1, 2, 0], true⟩,
    ⟨(some 58), .un .not (.tmp 57), (some (56, false)), [5, 4, 3, 1, 2, 0], true⟩,
    ⟨(some 59), .pick (.tmp 56) (.const (.bool true)) (.tmp 58), none, [4, 6, 3, 1, 2, 0, 5], true⟩,
    ⟨(some 60), .move (.tmp 59), none, [7, 4, 6, 3, 1, 2, 0, 5], true⟩,
    ⟨(some 61), .move (.tmp 10), (some (60, false)), [8, 7, 4, 6, 3, 1, 2, 0, 5], true⟩,
    ⟨(some 62), .move (.tmp 9), (some (60, false)), [8, 7, 4, 6, 3, 1, 2, 0, 5], true⟩,
    ⟨(some 63), .bin .add (.tmp 62) (.const (.int .u32 1)), (some (60, false)), [10, 8, 7, 4, 6, 3, 1, 2, 0, 5], true⟩,
    ⟨(some 64), .bin .neq (.tmp 61) (.tmp 63), (some (60, false)), [9, 11, 8, 7, 4, 6, 3, 1, 2, 0, 5, 10], true⟩,
    ⟨(some 65), .pick (.tmp 60) (.const (.bool true)) (.tmp 64), none, [8, 12, 7, 4, 6, 3, 1, 2, 0, 5, 9, 11, 10], true⟩,
    ⟨(some 66), .move (.tmp 65), none, [13, 8, 12, 7, 4, 6, 3, 1, 2, 0, 5, 9, 11, 10], true⟩,
    ⟨(some 67), .move (.tmp 12), (some (66, false)), [14, 13, 8, 12, 7, 4, 6, 3, 1, 2, 0, 5, 9, 11, 10], false⟩,
    ⟨(some 68), .move (.tmp 6), (some (66, false)), [14, 13, 8, 12, 7, 4, 6, 3, 1, 2, 0, 5, 9, 11, 10], true⟩,
    ⟨(some 69), .call (.const (.func (.func 18) #[] #[])) [(.tmp 68), (.const (.bool true))], (some (66, false)), [16, 14, 13, 8, 12, 7, 4, 6, 3, 1, 2, 0, 5, 9, 11, 10], true⟩,
    ⟨(some 70), .call (.const (.func (.func 12) #[] #[])) [(.tmp 67), (.tmp 69)], (some (66, false)), [15, 17, 14, 13, 8, 12, 7, 4, 6, 3, 1, 2, 0, 5, 9, 11, 10, 16], true⟩,
    ⟨(some 71), .un .not (.tmp 70), (some (66, false)), [18, 14, 15, 17, 13, 8, 12, 7, 4, 6, 3, 1, 2, 0, 5, 9, 11, 10, 16], true⟩,
    ⟨(some 72), .pick (.tmp 66) (.const (.bool true)) (.tmp 71), none, [14, 19, 13, 8, 12, 7, 4, 6, 3, 1, 2, 0, 5, 9, 11, 10, 18, 15, 17, 16], true⟩,
    ⟨(some 73), .move (.tmp 72), none, [20, 18, 14, 19, 13, 8, 12, 7, 4, 6, 3, 1, 2, 0, 5, 9, 11, 10, 15, 17, 16], true⟩,
    ⟨(some 74), .move (.tmp 13), (some (73, false)), [21, 20, 18, 14, 19, 13, 8, 12, 7, 4, 6, 3, 1, 2, 0, 5, 9, 11, 10, 15, 17, 16], false⟩,
    ⟨(some 75), .move (.tmp 6), (some (73, false)), [21, 20, 18, 14, 19, 13, 8, 12, 7, 4, 6, 3, 1, 2, 0, 5, 9, 11, 10, 15, 17, 16], true⟩,
    ⟨(some 76), .call (.const (.func (.func 18) #[] #[])) [(.tmp 75), (.const (.bool false))], (some (73, false)), [23, 21, 20, 18, 14, 19, 13, 8, 12, 7, 4, 6, 3, 1, 2, 0, 5, 9, 11, 10, 15, 17, 16], true⟩,
    ⟨(some 77), .call (.const (.func (.func 12) #[] #[])) [(.tmp 74), (.tmp 76)], (some (73, false)), [22, 24, 21, 20, 18, 14, 19, 13, 8, 12, 7, 4, 6, 3, 1, 2, 0, 5, 9, 11, 10, 15, 17, 16, 23], true⟩,
    ⟨(some 78), .un .not (.tmp 77), (some (73, false)), [25, 21, 22, 24, 20, 18, 14, 19, 13, 8, 12, 7, 4, 6, 3, 1, 2, 0, 5, 9, 11, 10, 15, 17, 16, 23], true⟩,
    ⟨(some 79), .pick (.tmp 73) (.const (.bool true)) (.tmp 78), none, [21, 26, 20, 18, 14, 19, 13, 8, 12, 7, 4, 6, 3, 1, 2, 0, 5, 9, 11, 10, 15, 17, 16, 25, 22, 24, 23], true⟩,
    ⟨(some 80), .move (.tmp 79), none, [27, 25, 21, 26, 20, 18, 14, 19, 13, 8, 12, 7, 4, 6, 3, 1, 2, 0, 5, 9, 11, 10, 15, 17, 16, 22, 24, 23], true⟩,
    ⟨(some 81), .move (.tmp 5), (some (80, false)), [28, 27, 25, 21, 26, 20, 18, 14, 19, 13, 8, 12, 7, 4, 6, 3, 1, 2, 0, 5, 9, 11, 10, 15, 17, 16, 22, 24, 23], true⟩,
    ⟨(some 82), .move (.tmp 1), (some (80, false)), [28, 27, 25, 21, 26, 20, 18, 14, 19, 13, 8, 12, 7, 4, 6, 3, 1, 2, 0, 5, 9, 11, 10, 15, 17, 16, 22, 24, 23], true⟩,
    ⟨(some 83), .call (.const (.func (.func 11) #[] #[])) [(.tmp 81), (.tmp 82)], (some (80, false)), [29, 30, 28, 27, 25, 21, 26, 20, 18, 14, 19, 13, 8, 12, 7, 4, 6, 3, 1, 2, 0, 5, 9, 11, 10, 15, 17, 16, 22, 24, 23], true⟩,
    ⟨(some 84), .move (.tmp 6), (some (80, false)), [28, 27, 25, 21, 26, 20, 18, 14, 19, 13, 8, 12, 7, 4, 6, 3, 1, 2, 0, 5, 9, 11, 10, 15, 17, 16, 22, 24, 23], false⟩,
    ⟨(some 85), .move (.tmp 1), (some (80, false)), [28, 27, 25, 21, 26, 20, 18, 14, 19, 13, 8, 12, 7, 4, 6, 3, 1, 2, 0, 5, 9, 11, 10, 15, 17, 16, 22, 24, 23], false⟩,
    ⟨(some 86), .call (.const (.func (.func 19) #[] #[])) [(.tmp 84), (.tmp 85)], (some (80, false)), [32, 33, 31, 28, 27, 25, 21, 26, 20, 18, 14, 19, 13, 8, 12, 7, 4, 6, 3, 1, 2, 0, 5, 9, 11, 10, 15, 17, 16, 22, 24, 23, 29, 30], true⟩,
    ⟨(some 87), .eqBool true (.tmp 83) (.tmp 86), (some (80, false)), [31, 34, 28, 29, 30, 27, 25, 21, 26, 20, 18, 14, 19, 13, 8, 12, 7, 4, 6, 3, 1, 2, 0, 5, 9, 11, 10, 15, 17, 16, 22, 24, 23, 32, 33], true⟩,
    ⟨(some 88), .pick (.tmp 80) (.const (.bool true)) (.tmp 87), none, [28, 35, 27, 25, 21, 26, 20, 18, 14, 19, 13, 8, 12, 7, 4, 6, 3, 1, 2, 0, 5, 9, 11, 10, 15, 17, 16, 22, 24, 23, 31, 34, 29, 30, 32, 33], true⟩,
    ⟨(some 89), .move (.tmp 88), none, [36, 34, 28, 35, 27, 25, 21, 26, 20, 18, 14, 19, 13, 8, 12, 7, 4, 6, 3, 1, 2, 0, 5, 9, 11, 10, 15, 17, 16, 22, 24, 23, 31, 29, 30, 32, 33], true⟩,
    ⟨(some 90), .move (.tmp 5), (some (89, false)), [37, 36, 34, 28, 35, 27, 25, 21, 26, 20, 18, 14, 19, 13, 8, 12, 7, 4, 6, 3, 1, 2, 0, 5, 9, 11, 10, 15, 17, 16, 22, 24, 23, 31, 29, 30, 32, 33], false⟩,
    ⟨(some 91), .move (.tmp 0), (some (89, false)), [37, 36, 34, 28, 35, 27, 25, 21, 26, 20, 18, 14, 19, 13, 8, 12, 7, 4, 6, 3, 1, 2, 0, 5, 9, 11, 10, 15, 17, 16, 22, 24, 23, 31, 29, 30, 32, 33], false⟩,
    ⟨(some 92), .move (.tmp 7), (some (89, false)), [37, 36, 34, 28, 35, 27, 25, 21, 26, 20, 18, 14, 19, 13, 8, 12, 7, 4, 6, 3, 1, 2, 0, 5, 9, 11, 10, 15, 17, 16, 22, 24, 23, 31, 29, 30, 32, 33], false⟩,
    ⟨(some 93), .indexAddr 1 (.tmp 91) (.tmp 92), (some (89, false)), [39, 40, 37, 36, 34, 28, 35, 27, 25, 21, 26, 20, 18, 14, 19, 13, 8, 12, 7, 4, 6, 3, 1, 2, 0, 5, 9, 11, 10, 15, 17, 16, 22, 24, 23, 31, 29, 30, 32, 33], false⟩,
    ⟨(some 94), .load none (.tmp 93), (some (89, false)), [41, 37, 39, 40, 36, 34, 28, 35, 27, 25, 21, 26, 20, 18, 14, 19, 13, 8, 12, 7, 4, 6, 3, 1, 2, 0, 5, 9, 11, 10, 15, 17, 16, 22, 24, 23, 31, 29, 30, 32, 33], false⟩,
    ⟨(some 95), .call (.const (.func (.func 11) #[] #[])) [(.tmp 90), (.tmp 94)], (some (89, false)), [38, 42, 37, 36, 34, 28, 35, 27, 25, 21, 26, 20, 18, 14, 19, 13, 8, 12, 7, 4, 6, 3, 1, 2, 0, 5, 9, 11, 10, 15, 17, 16, 22, 24, 23, 31, 29, 30, 32, 33, 41, 39, 40], false⟩,
    ⟨(some 96), .move (.tmp 6), (some (89, false)), [37, 36, 34, 28, 35, 27, 25, 21, 26, 20, 18, 14, 19, 13, 8, 12, 7, 4, 6, 3, 1, 2, 0, 5, 9, 11, 10, 15, 17, 16, 22, 24, 23, 31, 29, 30, 32, 33], false⟩,
    ⟨(some 97), .move (.tmp 0), (some (89, false)), [37, 36, 34, 28, 35, 27, 25, 21, 26, 20, 18, 14, 19, 13, 8, 12, 7, 4, 6, 3, 1, 2, 0, 5, 9, 11, 10, 15, 17, 16, 22, 24, 23, 31, 29, 30, 32, 33], false⟩,
    ⟨(some 98), .move (.tmp 7), (some (89, false)), [37, 36, 34, 28, 35, 27, 25, 21, 26, 20, 18, 14, 19, 13, 8, 12, 7, 4, 6, 3, 1, 2, 0, 5, 9, 11, 10, 15, 17, 16, 22, 24, 23, 31, 29, 30, 32, 33], false⟩,
    ⟨(some 99), .indexAddr 1 (.tmp 97) (.tmp 98), (some (89, false)), [45, 46, 37, 36, 34, 28, 35, 27, 25, 21, 26, 20, 18, 14, 19, 13, 8, 12, 7, 4, 6, 3, 1, 2, 0, 5, 9, 11, 10, 15, 17, 16, 22, 24, 23, 31, 29, 30, 32, 33], false⟩,
    ⟨(some 100), .load none (.tmp 99), (some (89, false)), [47, 37, 45, 46, 36, 34, 28, 35, 27, 25, 21, 26, 20, 18, 14, 19, 13, 8, 12, 7, 4, 6, 3, 1, 2, 0, 5, 9, 11, 10, 15, 17, 16, 22, 24, 23, 31, 29, 30, 32, 33], false⟩,
    ⟨(some 101), .call (.const (.func (.func 19) #[] #[])) [(.tmp 96), (.tmp 100)], (some (89, false)), [44, 48, 43, 37, 36, 34, 28, 35, 27, 25, 21, 26, 20, 18, 14, 19, 13, 8, 12, 7, 4, 6, 3, 1, 2, 0, 5, 9, 11, 10, 15, 17, 16, 22, 24, 23, 31, 29, 30, 32, 33, 47, 45, 46, 38, 42, 41, 39, 40], true⟩,
    ⟨(some 102), .eqBool true (.tmp 95) (.tmp 101), (some (89, false)), [43, 49, 37, 38, 42, 36, 34, 28, 35, 27, 25, 21, 26, 20, 18, 14, 19, 13, 8, 12, 7, 4, 6, 3, 1, 2, 0, 5, 9, 11, 10, 15, 17, 16, 22, 24, 23, 31, 29, 30, 32, 33, 41, 39, 40, 44, 48, 47, 45, 46], true⟩,
    ⟨(some 103), .pick (.tmp 89) (.const (.bool true)) (.tmp 102), none, [37, 50, 36, 34, 28, 35, 27, 25, 21, 26, 20, 18, 14, 19, 13, 8, 12, 7, 4, 6, 3, 1, 2, 0, 5, 9, 11, 10, 15, 17, 16, 22, 24, 23, 31, 29, 30, 32, 33, 43, 49, 38, 42, 41, 39, 40, 44, 48, 47, 45, 46], true⟩])
  (.cond (.tmp 103)
   (.seq (.region [
     ⟨(some 4), .move (.const (.bool false)), none, [], true⟩])
   .ret)
   .skip))
  (.seq (.region [
    ⟨(some 104), .move (.tmp 12), none, [], true⟩,
    ⟨(some 105), .lenSlice (.tmp 104), none, [], true⟩,
    ⟨(some 106), .move (.const (.int .i64 0)), none, [], true⟩])
  (.block 2 (.loop (.seq (.region [
    ⟨(some 107), .bin .lss (.tmp 106) (.tmp 105), none, [], true⟩])
  (.seq (.cond (.tmp 107)
   .skip
   (.exit 2))
  (.seq (.block 3 (.seq (.region [
    ⟨(some 108), .move (.tmp 106), none, [], true⟩,
    ⟨(some 14), .move (.tmp 108), none, [], true⟩])
  (.region [
    ⟨(some 109), .move (.tmp 12), none, [], true⟩,
    ⟨(some 110), .move (.tmp 14), none, [], true⟩,
    ⟨(some 111), .indexAddr 1 (.tmp 109) (.tmp 110), none, [], true⟩,
    ⟨none, .store 1 (.tmp 111) (.const (.int .u32 0)), none, [], true⟩])))
  (.region [
    ⟨(some 112), .bin .add (.tmp 106) (.const (.int .i64 1)), none, [], true⟩,
    ⟨(some 106), .move (.tmp 112), none, [], true⟩]))))))))))))))))
  (.region [
    ⟨(some 113), .bin .add (.tmp 24) (.const (.int .i64 1)), none, [], true⟩,
    ⟨(some 24), .move (.tmp 113), none, [], true⟩])))))))
  (.seq (.region [
    ⟨(some 4), .move (.const (.bool true)), none, [], true⟩])
  .ret)))))) }
theorem ir6_eq : funcC Tryd.prog 6 = some ir6 := by kernel_rfl
/-- wagonway/wagonwaylaw10.WindowNames -/
def ir7 : IFunc :=
{ ntmps := 132, results := [.tmp 0], body :=
  (.seq (.region [
    ⟨(some 0), .move (.const (.bool false)), none, [], true⟩])
  (.seq (.region [
    ⟨(some 1), .box (.const (.agg #[(.int .u32 0), (.int .u64 0)])), none, [], true⟩])
  (.seq (.region [
    ⟨(some 15), .call (.const (.func (.func 9) #[] #[])) [(.tmp 1), (.const (.int .u32 2))], none, [], true⟩])
  (.seq (.region [
    ⟨(some 16), .call (.const (.func (.func 9) #[] #[])) [(.tmp 1), (.const (.int .u32 1))], none, [], true⟩,
    ⟨(some 17), .call (.const (.func (.func 9) #[] #[])) [(.tmp 1), (.const (.int .u32 2))], none, [], true⟩,
    ⟨(some 2), .move (.tmp 16), none, [], true⟩,
    ⟨(some 3), .move (.tmp 17), none, [], true⟩])
  (.seq (.region [
    ⟨(some 18), .call (.const (.func (.func 10) #[] #[])) [(.tmp 1)], none, [], true⟩,
    ⟨(some 4), .move (.tmp 18), none, [], true⟩])
  (.seq (.region [
    ⟨(some 19), .call (.const (.func (.func 9) #[] #[])) [(.tmp 1), (.const (.int .u32 67))], none, [], true⟩,
    ⟨(some 20), .call (.const (.func (.func 9) #[] #[])) [(.tmp 1), (.const (.int .u32 66))], none, [], true⟩,
    ⟨(some 5), .move (.tmp 19), none, [], true⟩,
    ⟨(some 6), .move (.tmp 20), none, [], true⟩])
  (.seq (.region [
    ⟨(some 22), .call (.const (.func (.func 17) #[] #[])) [(.tmp 1)], none, [], true⟩,
    ⟨(some 21), .move (.tmp 22), none, [], true⟩,
    ⟨(some 23), .extract (.tmp 21) 0, none, [], true⟩,
    ⟨(some 24), .extract (.tmp 21) 1, none, [], true⟩,
    ⟨(some 7), .move (.tmp 23), none, [], true⟩,
    ⟨(some 8), .move (.tmp 24), none, [], true⟩])
  (.seq (.region [
    ⟨(some 25), .move (.tmp 2), none, [], true⟩,
    ⟨(some 26), .bin .eql (.tmp 25) (.const (.int .i64 1)), none, [], true⟩,
    ⟨(some 27), .move (.tmp 26), none, [], true⟩,
    ⟨(some 28), .move (.tmp 3), (some (27, true)), [], true⟩,
    ⟨(some 29), .bin .eql (.tmp 28) (.const (.int .i64 2)), (some (27, true)), [], true⟩,
    ⟨(some 30), .pick (.tmp 27) (.tmp 29) (.const (.bool false)), none, [], true⟩,
    ⟨(some 31), .move (.tmp 30), none, [], true⟩,
    ⟨(some 32), .move (.tmp 4), (some (31, true)), [], true⟩,
    ⟨(some 33), .bin .eql (.tmp 32) (.const (.int .u32 2)), (some (31, true)), [], true⟩,
    ⟨(some 34), .pick (.tmp 31) (.tmp 33) (.const (.bool false)), none, [], true⟩,
    ⟨(some 35), .move (.tmp 34), none, [], true⟩,
    ⟨(some 36), .move (.tmp 5), (some (35, true)), [], true⟩,
    ⟨(some 37), .bin .eql (.tmp 36) (.const (.int .i64 3)), (some (35, true)), [], true⟩,
    ⟨(some 38), .pick (.tmp 35) (.tmp 37) (.const (.bool false)), none, [], true⟩,
    ⟨(some 39), .move (.tmp 38), none, [], true⟩,
    ⟨(some 40), .move (.tmp 6), (some (39, true)), [], true⟩,
    ⟨(some 41), .bin .eql (.tmp 40) (.const (.int .i64 1)), (some (39, true)), [], true⟩,
    ⟨(some 42), .pick (.tmp 39) (.tmp 41) (.const (.bool false)), none, [], true⟩,
    ⟨(some 43), .move (.tmp 42), none, [], true⟩,
    ⟨(some 44), .move (.tmp 7), (some (43, true)), [], true⟩,
    ⟨(some 45), .bin .eql (.tmp 44) (.const (.int .u32 3)), (some (43, true)), [], true⟩,
    ⟨(some 46), .pick (.tmp 43) (.tmp 45) (.const (.bool false)), none, [], true⟩,
    ⟨(some 47), .move (.tmp 46), none, [], true⟩,
    ⟨(some 48), .move (.tmp 8), (some (47, true)), [], true⟩,
    ⟨(some 49), .pick (.tmp 47) (.tmp 48) (.const (.bool false)), none, [], true⟩,
    ⟨(some 50), .move (.tmp 49), none, [], true⟩,
    ⟨(some 51), .call (.const (.func (.func 9) #[] #[])) [(.tmp 1), (.const (.int .u32 0))], (some (50, true)), [], true⟩,
    ⟨(some 52), .bin .eql (.tmp 51) (.const (.int .i64 0)), (some (50, true)), [], true⟩,
    ⟨(some 53), .pick (.tmp 50) (.tmp 52) (.const (.bool false)), none, [], true⟩,
    ⟨(some 54), .move (.tmp 53), none, [], true⟩,
    ⟨(some 55), .call (.const (.func (.func 11) #[] #[])) [(.tmp 1), (.const (.int .u32 0))], (some (54, true)), [], true⟩,
    ⟨(some 56), .un .not (.tmp 55), (some (54, true)), [], true⟩,
    ⟨(some 57), .pick (.tmp 54) (.tmp 56) (.const (.bool false)), none, [], true⟩,
    ⟨(some 58), .move (.tmp 57), none, [], true⟩,
    ⟨(some 59), .call (.const (.func (.func 11) #[] #[])) [(.tmp 1), (.const (.int .u32 67))], (some (58, true)), [], true⟩,
    ⟨(some 60), .un .not (.tmp 59), (some (58, true)), [], true⟩,
    ⟨(some 61), .pick (.tmp 58) (.tmp 60) (.const (.bool false)), none, [], true⟩,
    ⟨(some 62), .move (.tmp 61), none, [], true⟩,
    ⟨(some 63), .call (.const (.func (.func 11) #[] #[])) [(.tmp 1), (.const (.int .u32 66))], (some (62, true)), [], true⟩,
    ⟨(some 64), .pick (.tmp 62) (.tmp 63) (.const (.bool false)), none, [], true⟩,
    ⟨(some 65), .move (.tmp 64), none, [], true⟩,
    ⟨(some 66), .call (.const (.func (.func 9) #[] #[])) [(.tmp 1), (.const (.int .u32 4294967295))], (some (65, true)), [], true⟩,
    ⟨(some 67), .bin .eql (.tmp 66) (.const (.int .i64 3)), (some (65, true)), [], true⟩,
    ⟨(some 68), .pick (.tmp 65) (.tmp 67) (.const (.bool false)), none, [], true⟩,
    ⟨(some 9), .move (.tmp 68), none, [], true⟩])
  (.seq (.seq (.region [
    ⟨(some 10), .move (.const (.int .u32 3)), none, [], true⟩])
  (.block 0 (.loop (.seq (.seq (.region [
    ⟨(some 69), .move (.tmp 10), none, [], true⟩,
    ⟨(some 70), .bin .leq (.tmp 69) (.const (.int .u32 66)), none, [], true⟩])
  (.cond (.tmp 70)
   .skip
   (.exit 0)))
  (.seq (.block 1 (.region [
    ⟨(some 73), .move (.tmp 10), none, [], true⟩,
    ⟨(some 74), .call (.const (.func (.func 9) #[] #[])) [(.tmp 1), (.tmp 73)], none, [], true⟩]))
  (.region [
    ⟨(some 71), .move (.tmp 10), none, [], true⟩,
    ⟨(some 72), .bin .add (.tmp 71) (.const (.int .u32 1)), none, [], true⟩,
    ⟨(some 10), .move (.tmp 72), none, [], true⟩]))))))
  (.seq (.region [
    ⟨(some 75), .call (.const (.func (.func 10) #[] #[])) [(.tmp 1)], none, [], true⟩,
    ⟨(some 76), .bin .eql (.tmp 75) (.const (.int .u32 66)), none, [], true⟩,
    ⟨(some 77), .move (.tmp 76), none, [], true⟩,
    ⟨(some 78), .call (.const (.func (.func 13) #[] #[])) [(.tmp 1)], (some (77, true)), [], true⟩,
    ⟨(some 79), .lenSlice (.tmp 78), (some (77, true)), [], true⟩,
    ⟨(some 80), .bin .eql (.tmp 79) (.const (.int .i64 0)), (some (77, true)), [], true⟩,
    ⟨(some 81), .pick (.tmp 77) (.tmp 80) (.const (.bool false)), none, [], true⟩,
    ⟨(some 82), .move (.tmp 81), none, [], true⟩,
    ⟨(some 83), .call (.const (.func (.func 14) #[] #[])) [(.tmp 1)], (some (82, true)), [], true⟩,
    ⟨(some 84), .lenSlice (.tmp 83), (some (82, true)), [], true⟩,
    ⟨(some 85), .bin .eql (.tmp 84) (.const (.int .i64 0)), (some (82, true)), [], true⟩,
    ⟨(some 86), .pick (.tmp 82) (.tmp 85) (.const (.bool false)), none, [], true⟩,
    ⟨(some 11), .move (.tmp 86), none, [], true⟩])
  (.seq (.region [
    ⟨(some 12), .move (.const (.pointer none)), none, [], true⟩])
  (.seq (.region [
    ⟨(some 88), .move (.tmp 12), none, [], true⟩,
    ⟨(some 89), .call (.const (.func (.func 17) #[] #[])) [(.tmp 88)], none, [], true⟩,
    ⟨(some 87), .move (.tmp 89), none, [], true⟩,
    ⟨(some 90), .extract (.tmp 87) 0, none, [], true⟩,
    ⟨(some 91), .extract (.tmp 87) 1, none, [], true⟩,
    ⟨(some 13), .move (.tmp 90), none, [], true⟩,
    ⟨(some 14), .move (.tmp 91), none, [], true⟩])
  (.seq (.region [
    ⟨(some 92), .move (.const (.bool true)), none, [], true⟩,
    ⟨(some 93), .call (.const (.func (.func 8) #[] #[])) [], (some (92, true)), [], true⟩,
    ⟨(some 94), .pick (.tmp 92) (.tmp 93) (.const (.bool false)), none, [], true⟩,
    ⟨(some 95), .move (.tmp 94), none, [], true⟩,
    ⟨(some 96), .move (.tmp 9), (some (95, true)), [], true⟩,
    ⟨(some 97), .pick (.tmp 95) (.tmp 96) (.const (.bool false)), none, [], true⟩,
    ⟨(some 98), .move (.tmp 97), none, [], true⟩,
    ⟨(some 99), .move (.tmp 11), (some (98, true)), [], true⟩,
    ⟨(some 100), .pick (.tmp 98) (.tmp 99) (.const (.bool false)), none, [], true⟩,
    ⟨(some 101), .move (.tmp 100), none, [], true⟩,
    ⟨(some 102), .move (.tmp 12), (some (101, true)), [], true⟩,
    ⟨(some 103), .call (.const (.func (.func 9) #[] #[])) [(.tmp 102), (.const (.int .u32 1))], (some (101, true)), [], true⟩,
    ⟨(some 104), .bin .eql (.tmp 103) (.const (.int .i64 0)), (some (101, true)), [], true⟩,
    ⟨(some 105), .pick (.tmp 101) (.tmp 104) (.const (.bool false)), none, [], true⟩,
    ⟨(some 106), .move (.tmp 105), none, [], true⟩,
    ⟨(some 107), .move (.tmp 12), (some (106, true)), [], true⟩,
    ⟨(some 108), .call (.const (.func (.func 11) #[] #[])) [(.tmp 107), (.const (.int .u32 1))], (some (106, true)), [], true⟩,
    ⟨(some 109), .un .not (.tmp 108), (some (106, true)), [], true⟩,
    ⟨(some 110), .pick (.tmp 106) (.tmp 109) (.const (.bool false)), none, [], true⟩,
    ⟨(some 111), .move (.tmp 110), none, [], true⟩,
    ⟨(some 112), .move (.tmp 12), (some (111, true)), [], true⟩,
    ⟨(some 113), .call (.const (.func (.func 10) #[] #[])) [(.tmp 112)], (some (111, true)), [], true⟩,
    ⟨(some 114), .bin .eql (.tmp 113) (.const (.int .u32 0)), (some (111, true)), [], true⟩,
    ⟨(some 115), .pick (.tmp 111) (.tmp 114) (.const (.bool false)), none, [], true⟩,
    ⟨(some 116), .move (.tmp 115), none, [], true⟩,
    ⟨(some 117), .move (.tmp 14), (some (116, true)), [], true⟩,
    ⟨(some 118), .un .not (.tmp 117), (some (116, true)), [], true⟩,
    ⟨(some 119), .pick (.tmp 116) (.tmp 118) (.const (.bool false)), none, [], true⟩,
    ⟨(some 120), .move (.tmp 119), none, [], true⟩,
    ⟨(some 121), .move (.tmp 12), (some (120, true)), [], true⟩,
    ⟨(some 122), .call (.const (.func (.func 13) #[] #[])) [(.tmp 121)], (some (120, true)), [], true⟩,
    ⟨(some 123), .lenSlice (.tmp 122), (some (120, true)), [], true⟩,
    ⟨(some 124), .bin .eql (.tmp 123) (.const (.int .i64 0)), (some (120, true)), [], true⟩,
    ⟨(some 125), .pick (.tmp 120) (.tmp 124) (.const (.bool false)), none, [], true⟩,
    ⟨(some 126), .move (.tmp 125), none, [], true⟩,
    ⟨(some 127), .move (.tmp 12), (some (126, true)), [], true⟩,
    ⟨(some 128), .call (.const (.func (.func 14) #[] #[])) [(.tmp 127)], (some (126, true)), [], true⟩,
    ⟨(some 129), .lenSlice (.tmp 128), (some (126, true)), [], true⟩,
    ⟨(some 130), .bin .eql (.tmp 129) (.const (.int .i64 0)), (some (126, true)), [], true⟩,
    ⟨(some 131), .pick (.tmp 126) (.tmp 130) (.const (.bool false)), none, [], true⟩,
    ⟨(some 0), .move (.tmp 131), none, [], true⟩])
  .ret))))))))))))) }
theorem ir7_eq : funcC Tryd.prog 7 = some ir7 := by kernel_rfl
/-- wagonway/wagonwaylaw10.alive -/
def ir8 : IFunc :=
{ ntmps := 26, results := [.tmp 0], body :=
  (.seq (.region [
    ⟨(some 0), .move (.const (.bool false)), none, [], true⟩])
  (.seq (.region [
    ⟨(some 1), .box (.const (.agg #[(.int .u32 0), (.int .u64 0)])), none, [], true⟩])
  (.seq (.region [
    ⟨(some 4), .call (.const (.func (.func 9) #[] #[])) [(.tmp 1), (.const (.int .u32 2))], none, [], true⟩,
    ⟨(some 5), .call (.const (.func (.func 9) #[] #[])) [(.tmp 1), (.const (.int .u32 4))], none, [], true⟩,
    ⟨(some 2), .move (.tmp 4), none, [], true⟩,
    ⟨(some 3), .move (.tmp 5), none, [], true⟩])
  (.seq (.region [
    ⟨(some 6), .move (.tmp 2), none, [], true⟩,
    ⟨(some 7), .bin .eql (.tmp 6) (.const (.int .i64 1)), none, [], true⟩,
    ⟨(some 8), .move (.tmp 7), none, [], true⟩,
    ⟨(some 9), .move (.tmp 3), (some (8, true)), [], true⟩,
    ⟨(some 10), .bin .eql (.tmp 9) (.const (.int .i64 1)), (some (8, true)), [], true⟩,
    ⟨(some 11), .pick (.tmp 8) (.tmp 10) (.const (.bool false)), none, [], true⟩,
    ⟨(some 12), .move (.tmp 11), none, [], true⟩,
    ⟨(some 13), .call (.const (.func (.func 10) #[] #[])) [(.tmp 1)], (some (12, true)), [], true⟩,
    ⟨(some 14), .bin .eql (.tmp 13) (.const (.int .u32 0)), (some (12, true)), [], true⟩,
    ⟨(some 15), .pick (.tmp 12) (.tmp 14) (.const (.bool false)), none, [], true⟩,
    ⟨(some 16), .move (.tmp 15), none, [], true⟩,
    ⟨(some 17), .call (.const (.func (.func 13) #[] #[])) [(.tmp 1)], (some (16, true)), [], true⟩,
    ⟨(some 18), .buildSlice 1 2 [(.int .u32 0)] [(0, (.const (.int .u32 2))), (1, (.const (.int .u32 4)))], (some (16, true)), [], true⟩,
    ⟨(some 19), .call (.const (.func (.func 12) #[] #[])) [(.tmp 17), (.tmp 18)], (some (16, true)), [], true⟩,
    ⟨(some 20), .pick (.tmp 16) (.tmp 19) (.const (.bool false)), none, [], true⟩,
    ⟨(some 21), .move (.tmp 20), none, [], true⟩,
    ⟨(some 22), .call (.const (.func (.func 14) #[] #[])) [(.tmp 1)], (some (21, true)), [], true⟩,
    ⟨(some 23), .buildSlice 1 2 [(.int .u32 0)] [(0, (.const (.int .u32 1))), (1, (.const (.int .u32 3)))], (some (21, true)), [], true⟩,
    ⟨(some 24), .call (.const (.func (.func 12) #[] #[])) [(.tmp 22), (.tmp 23)], (some (21, true)), [], true⟩,
    ⟨(some 25), .pick (.tmp 21) (.tmp 24) (.const (.bool false)), none, [], true⟩,
    ⟨(some 0), .move (.tmp 25), none, [], true⟩])
  .ret)))) }
theorem ir8_eq : funcC Tryd.prog 8 = some ir8 := by kernel_rfl
/-- (*wagonway/window.Window).Meet -/
def ir9 : IFunc :=
{ ntmps := 63, results := [.tmp 4], body :=
  (.seq (.region [
    ⟨(some 4), .move (.const (.int .i64 0)), none, [], true⟩])
  (.seq (.block 0 (.seq (.region [
    ⟨(some 7), .move (.tmp 0), none, [], true⟩,
    ⟨(some 8), .eqPtr false (.tmp 7) (.const (.pointer none)), none, [], true⟩,
    ⟨(some 9), .move (.tmp 8), none, [], true⟩,
    ⟨(some 10), .move (.tmp 1), (some (9, false)), [], true⟩,
    ⟨(some 11), .bin .eql (.tmp 10) (.const (.int .u32 0)), (some (9, false)), [], true⟩,
    ⟨(some 12), .pick (.tmp 9) (.const (.bool true)) (.tmp 11), none, [], true⟩,
    ⟨(some 6), .move (.tmp 12), none, [], true⟩])
  (.cond (.tmp 6)
   (.seq (.region [
     ⟨(some 4), .move (.const (.int .i64 0)), none, [], true⟩])
   .ret)
   (.seq (.region [
     ⟨(some 14), .move (.tmp 0), none, [], true⟩,
     ⟨(some 15), .move (.tmp 1), none, [], true⟩,
     ⟨(some 16), .call (.const (.func (.func 11) #[] #[])) [(.tmp 14), (.tmp 15)], none, [], true⟩,
     ⟨(some 13), .move (.tmp 16), none, [], true⟩])
   (.cond (.tmp 13)
    (.seq (.region [
      ⟨(some 4), .move (.const (.int .i64 2)), none, [], true⟩])
    .ret)
    (.seq (.region [
      ⟨(some 18), .move (.tmp 1), none, [], true⟩,
      ⟨(some 19), .move (.tmp 0), none, [], true⟩,
      ⟨(some 20), .nilCheck (.tmp 19), none, [], true⟩,
      ⟨(some 21), .fieldAddr 0 (.tmp 20), none, [], true⟩,
      ⟨(some 22), .load none (.tmp 21), none, [], true⟩,
      ⟨(some 23), .bin .sub (.tmp 18) (.tmp 22), none, [], true⟩,
      ⟨(some 24), .bin .gtr (.tmp 23) (.const (.int .u32 64)), none, [], true⟩,
      ⟨(some 17), .move (.tmp 24), none, [], true⟩])
    (.cond (.tmp 17)
     (.seq (.region [
       ⟨(some 4), .move (.const (.int .i64 3)), none, [], true⟩])
     .ret)
     .skip)))))))
  (.seq (.drawn [
    ⟨(some 25), .move (.tmp 0), none, [], false⟩,
    ⟨(some 26), .nilCheck (.tmp 25), none, [0], false⟩,
    ⟨(some 27), .fieldAddr 1 (.tmp 26), none, [1, 0], false⟩,
    ⟨(some 28), .load none (.tmp 27), none, [2, 1, 0], false⟩,
    ⟨(some 29), .move (.tmp 1), none, [], false⟩,
    ⟨(some 30), .move (.tmp 0), none, [], false⟩,
    ⟨(some 31), .nilCheck (.tmp 30), none, [5], false⟩,
    ⟨(some 32), .fieldAddr 0 (.tmp 31), none, [6, 5], false⟩,
    ⟨(some 33), .load none (.tmp 32), none, [7, 6, 5], false⟩,
    ⟨(some 34), .bin .sub (.tmp 29) (.tmp 33), none, [4, 8, 7, 6, 5], false⟩,
    ⟨(some 35), .bin .sub (.tmp 34) (.const (.int .u32 1)), none, [9, 4, 8, 7, 6, 5], false⟩,
    ⟨(some 36), .bin .shl (.const (.int .u64 1)) (.tmp 35), none, [10, 9, 4, 8, 7, 6, 5], false⟩,
    ⟨(some 37), .bin .or (.tmp 28) (.tmp 36), none, [3, 11, 2, 1, 0, 10, 9, 4, 8, 7, 6, 5], true⟩,
    ⟨(some 38), .nilCheck (.tmp 25), none, [0, 1, 2, 3, 4, 5, 6, 7, 8, 9, 10, 11, 12], true⟩,
    ⟨(some 39), .fieldAddr 1 (.tmp 38), none, [13, 0, 1, 2, 3, 4, 5, 6, 7, 8, 9, 10, 11, 12], true⟩,
    ⟨none, .store 1 (.tmp 39) (.tmp 37), none, [14, 12, 0, 1, 2, 3, 4, 5, 6, 7, 8, 9, 10, 11, 13], true⟩])
  (.seq (.region [
    ⟨(some 40), .move (.tmp 0), none, [], true⟩,
    ⟨(some 41), .nilCheck (.tmp 40), none, [], true⟩,
    ⟨(some 42), .fieldAddr 1 (.tmp 41), none, [], true⟩,
    ⟨(some 43), .load none (.tmp 42), none, [], true⟩,
    ⟨(some 44), .un .xor (.tmp 43), none, [], true⟩,
    ⟨(some 45), .call (.const (.func (.func 20) #[] #[])) [(.tmp 44)], none, [], true⟩,
    ⟨(some 5), .move (.tmp 45), none, [], true⟩])
  (.seq (.region [
    ⟨(some 46), .move (.tmp 0), none, [], true⟩,
    ⟨(some 47), .nilCheck (.tmp 46), none, [], true⟩,
    ⟨(some 48), .fieldAddr 1 (.tmp 47), none, [], true⟩,
    ⟨(some 49), .load none (.tmp 48), none, [], true⟩,
    ⟨(some 50), .move (.tmp 5), none, [], true⟩,
    ⟨(some 51), .bin .shr (.tmp 49) (.tmp 50), none, [], true⟩,
    ⟨(some 52), .nilCheck (.tmp 46), none, [], true⟩,
    ⟨(some 53), .fieldAddr 1 (.tmp 52), none, [], true⟩,
    ⟨none, .store 1 (.tmp 53) (.tmp 51), none, [], true⟩])
  (.seq (.region [
    ⟨(some 54), .move (.tmp 0), none, [], true⟩,
    ⟨(some 55), .nilCheck (.tmp 54), none, [], true⟩,
    ⟨(some 56), .fieldAddr 0 (.tmp 55), none, [], true⟩,
    ⟨(some 57), .load none (.tmp 56), none, [], true⟩,
    ⟨(some 58), .move (.tmp 5), none, [], true⟩,
    ⟨(some 59), .conv .u32 (.tmp 58), none, [], true⟩,
    ⟨(some 60), .bin .add (.tmp 57) (.tmp 59), none, [], true⟩,
    ⟨(some 61), .nilCheck (.tmp 54), none, [], true⟩,
    ⟨(some 62), .fieldAddr 0 (.tmp 61), none, [], true⟩,
    ⟨none, .store 1 (.tmp 62) (.tmp 60), none, [], true⟩])
  (.seq (.region [
    ⟨(some 4), .move (.const (.int .i64 1)), none, [], true⟩])
  .ret))))))) }
theorem ir9_eq : funcC Tryd.prog 9 = some ir9 := by kernel_rfl
/-- (*wagonway/window.Window).Last -/
def ir10 : IFunc :=
{ ntmps := 9, results := [.tmp 2], body :=
  (.seq (.region [
    ⟨(some 2), .move (.const (.int .u32 0)), none, [], true⟩])
  (.seq (.seq (.region [
    ⟨(some 3), .move (.tmp 0), none, [], true⟩,
    ⟨(some 4), .eqPtr false (.tmp 3) (.const (.pointer none)), none, [], true⟩])
  (.cond (.tmp 4)
   (.seq (.region [
     ⟨(some 2), .move (.const (.int .u32 0)), none, [], true⟩])
   .ret)
   .skip))
  (.seq (.region [
    ⟨(some 5), .move (.tmp 0), none, [], true⟩,
    ⟨(some 6), .nilCheck (.tmp 5), none, [], true⟩,
    ⟨(some 7), .fieldAddr 0 (.tmp 6), none, [], true⟩,
    ⟨(some 8), .load none (.tmp 7), none, [], true⟩,
    ⟨(some 2), .move (.tmp 8), none, [], true⟩])
  .ret))) }
theorem ir10_eq : funcC Tryd.prog 10 = some ir10 := by kernel_rfl
/-- (*wagonway/window.Window).Has -/
def ir11 : IFunc :=
{ ntmps := 42, results := [.tmp 4], body :=
  (.seq (.region [
    ⟨(some 4), .move (.const (.bool false)), none, [], true⟩])
  (.seq (.block 0 (.seq (.region [
    ⟨(some 6), .move (.tmp 0), none, [], true⟩,
    ⟨(some 7), .eqPtr false (.tmp 6) (.const (.pointer none)), none, [], true⟩,
    ⟨(some 8), .move (.tmp 7), none, [], true⟩,
    ⟨(some 9), .move (.tmp 1), (some (8, false)), [], true⟩,
    ⟨(some 10), .bin .eql (.tmp 9) (.const (.int .u32 0)), (some (8, false)), [], true⟩,
    ⟨(some 11), .pick (.tmp 8) (.const (.bool true)) (.tmp 10), none, [], true⟩,
    ⟨(some 5), .move (.tmp 11), none, [], true⟩])
  (.cond (.tmp 5)
   (.seq (.region [
     ⟨(some 4), .move (.const (.bool false)), none, [], true⟩])
   .ret)
   (.seq (.region [
     ⟨(some 13), .move (.tmp 1), none, [], true⟩,
     ⟨(some 14), .move (.tmp 0), none, [], true⟩,
     ⟨(some 15), .nilCheck (.tmp 14), none, [], true⟩,
     ⟨(some 16), .fieldAddr 0 (.tmp 15), none, [], true⟩,
     ⟨(some 17), .load none (.tmp 16), none, [], true⟩,
     ⟨(some 18), .bin .leq (.tmp 13) (.tmp 17), none, [], true⟩,
     ⟨(some 12), .move (.tmp 18), none, [], true⟩])
   (.cond (.tmp 12)
    (.seq (.region [
      ⟨(some 4), .move (.const (.bool true)), none, [], true⟩])
    .ret)
    .skip)))))
  (.seq (.drawn [
    ⟨(some 19), .move (.tmp 1), none, [], false⟩,
    ⟨(some 20), .move (.tmp 0), none, [], true⟩,
    ⟨(some 21), .nilCheck (.tmp 20), none, [1], true⟩,
    ⟨(some 22), .fieldAddr 0 (.tmp 21), none, [2, 1], true⟩,
    ⟨(some 23), .load none (.tmp 22), none, [3, 2, 1], true⟩,
    ⟨(some 24), .bin .sub (.tmp 19) (.tmp 23), none, [0, 4, 3, 2, 1], true⟩,
    ⟨(some 25), .bin .leq (.tmp 24) (.const (.int .u32 64)), none, [5, 0, 4, 3, 2, 1], true⟩,
    ⟨(some 26), .move (.tmp 25), none, [6, 5, 0, 4, 3, 2, 1], true⟩,
    ⟨(some 27), .move (.tmp 0), (some (26, true)), [7, 6, 5, 0, 4, 3, 2, 1], false⟩,
    ⟨(some 28), .nilCheck (.tmp 27), (some (26, true)), [8, 7, 6, 5, 0, 4, 3, 2, 1], false⟩,
    ⟨(some 29), .fieldAddr 1 (.tmp 28), (some (26, true)), [9, 7, 8, 6, 5, 0, 4, 3, 2, 1], false⟩,
    ⟨(some 30), .load none (.tmp 29), (some (26, true)), [10, 7, 9, 8, 6, 5, 0, 4, 3, 2, 1], false⟩,
    ⟨(some 31), .move (.tmp 1), (some (26, true)), [7, 6, 5, 0, 4, 3, 2, 1], false⟩,
    ⟨(some 32), .move (.tmp 0), (some (26, true)), [7, 6, 5, 0, 4, 3, 2, 1], false⟩,
    ⟨(some 33), .nilCheck (.tmp 32), (some (26, true)), [13, 7, 6, 5, 0, 4, 3, 2, 1], false⟩,
    ⟨(some 34), .fieldAddr 0 (.tmp 33), (some (26, true)), [14, 7, 13, 6, 5, 0, 4, 3, 2, 1], false⟩,
    ⟨(some 35), .load none (.tmp 34), (some (26, true)), [15, 7, 14, 13, 6, 5, 0, 4, 3, 2, 1], false⟩,
    ⟨(some 36), .bin .sub (.tmp 31) (.tmp 35), (some (26, true)), [12, 16, 7, 6, 5, 0, 4, 3, 2, 1, 15, 14, 13], false⟩,
    ⟨(some 37), .bin .sub (.tmp 36) (.const (.int .u32 1)), (some (26, true)), [17, 7, 12, 16, 6, 5, 0, 4, 3, 2, 1, 15, 14, 13], false⟩,
    ⟨(some 38), .bin .shr (.tmp 30) (.tmp 37), (some (26, true)), [11, 18, 7, 10, 9, 8, 6, 5, 0, 4, 3, 2, 1, 17, 12, 16, 15, 14, 13], true⟩,
    ⟨(some 39), .bin .and (.tmp 38) (.const (.int .u64 1)), (some (26, true)), [19, 7, 11, 18, 10, 9, 8, 6, 5, 0, 4, 3, 2, 1, 17, 12, 16, 15, 14, 13], true⟩,
    ⟨(some 40), .bin .eql (.tmp 39) (.const (.int .u64 1)), (some (26, true)), [20, 7, 19, 11, 18, 10, 9, 8, 6, 5, 0, 4, 3, 2, 1, 17, 12, 16, 15, 14, 13], true⟩,
    ⟨(some 41), .pick (.tmp 26) (.tmp 40) (.const (.bool false)), none, [7, 21, 6, 5, 0, 4, 3, 2, 1, 20, 19, 11, 18, 10, 9, 8, 17, 12, 16, 15, 14, 13], true⟩,
    ⟨(some 4), .move (.tmp 41), none, [22, 7, 0, 1, 2, 3, 4, 5, 6, 8, 9, 10, 11, 12, 13, 14, 15, 16, 17, 18, 19, 20, 21], true⟩])
  .ret))) }
theorem ir11_eq : funcC Tryd.prog 11 = some ir11 := by kernel_rfl
/-- wagonway/wagonwaylaw10.same -/
def ir12 : IFunc :=
{ ntmps := 26, results := [.tmp 4], body :=
  (.seq (.region [
    ⟨(some 4), .move (.const (.bool false)), none, [], true⟩])
  (.seq (.seq (.region [
    ⟨(some 6), .move (.tmp 0), none, [], true⟩,
    ⟨(some 7), .lenSlice (.tmp 6), none, [], true⟩,
    ⟨(some 8), .move (.tmp 1), none, [], true⟩,
    ⟨(some 9), .lenSlice (.tmp 8), none, [], true⟩,
    ⟨(some 10), .bin .neq (.tmp 7) (.tmp 9), none, [], true⟩])
  (.cond (.tmp 10)
   (.seq (.region [
     ⟨(some 4), .move (.const (.bool false)), none, [], true⟩])
   .ret)
   .skip))
  (.seq (.seq (.region [
    ⟨(some 11), .move (.tmp 0), none, [], true⟩,
    ⟨(some 12), .lenSlice (.tmp 11), none, [], true⟩,
    ⟨(some 13), .move (.const (.int .i64 0)), none, [], true⟩])
  (.block 0 (.loop (.seq (.region [
    ⟨(some 14), .bin .lss (.tmp 13) (.tmp 12), none, [], true⟩])
  (.seq (.cond (.tmp 14)
   .skip
   (.exit 0))
  (.seq (.block 1 (.seq (.region [
    ⟨(some 15), .move (.tmp 13), none, [], true⟩,
    ⟨(some 5), .move (.tmp 15), none, [], true⟩])
  (.seq (.drawn [
    ⟨(some 16), .move (.tmp 0), none, [], false⟩,
    ⟨(some 17), .move (.tmp 5), none, [], false⟩,
    ⟨(some 18), .indexAddr 1 (.tmp 16) (.tmp 17), none, [0, 1], false⟩,
    ⟨(some 19), .load none (.tmp 18), none, [2, 0, 1], false⟩,
    ⟨(some 20), .move (.tmp 1), none, [], false⟩,
    ⟨(some 21), .move (.tmp 5), none, [], false⟩,
    ⟨(some 22), .indexAddr 1 (.tmp 20) (.tmp 21), none, [4, 5], false⟩,
    ⟨(some 23), .load none (.tmp 22), none, [6, 4, 5], false⟩,
    ⟨(some 24), .bin .neq (.tmp 19) (.tmp 23), none, [3, 7, 2, 0, 1, 6, 4, 5], true⟩])
  (.cond (.tmp 24)
   (.seq (.region [
     ⟨(some 4), .move (.const (.bool false)), none, [], true⟩])
   .ret)
   .skip))))
  (.region [
    ⟨(some 25), .bin .add (.tmp 13) (.const (.int .i64 1)), none, [], true⟩,
    ⟨(some 13), .move (.tmp 25), none, [], true⟩])))))))
  (.seq (.region [
    ⟨(some 4), .move (.const (.bool true)), none, [], true⟩])
  .ret)))) }
theorem ir12_eq : funcC Tryd.prog 12 = some ir12 := by kernel_rfl
/-- (*wagonway/window.Window).Early -/
def ir13 : IFunc :=
{ ntmps := 5, results := [.tmp 2], body :=
  (.seq (.region [
    ⟨(some 2), .move (.const (.slice none 0 0)), none, [], true⟩])
  (.seq (.region [
    ⟨(some 3), .move (.tmp 0), none, [], true⟩,
    ⟨(some 4), .call (.const (.func (.func 21) #[] #[])) [(.tmp 3), (.const (.bool true))], none, [], true⟩,
    ⟨(some 2), .move (.tmp 4), none, [], true⟩])
  .ret)) }
theorem ir13_eq : funcC Tryd.prog 13 = some ir13 := by kernel_rfl
/-- (*wagonway/window.Window).Missing -/
def ir14 : IFunc :=
{ ntmps := 5, results := [.tmp 2], body :=
  (.seq (.region [
    ⟨(some 2), .move (.const (.slice none 0 0)), none, [], true⟩])
  (.seq (.region [
    ⟨(some 3), .move (.tmp 0), none, [], true⟩,
    ⟨(some 4), .call (.const (.func (.func 21) #[] #[])) [(.tmp 3), (.const (.bool false))], none, [], true⟩,
    ⟨(some 2), .move (.tmp 4), none, [], true⟩])
  .ret)) }
theorem ir14_eq : funcC Tryd.prog 14 = some ir14 := by kernel_rfl
/-- (*wagonway/wagonwayref10.Window).Meet -/
def ir15 : IFunc :=
{ ntmps := 31, results := [.tmp 4], body :=
  (.seq (.region [
    ⟨(some 4), .move (.const (.int .i64 0)), none, [], true⟩])
  (.seq (.seq (.region [
    ⟨(some 7), .move (.tmp 1), none, [], true⟩,
    ⟨(some 8), .bin .eql (.tmp 7) (.const (.int .u32 0)), none, [], true⟩])
  (.cond (.tmp 8)
   (.seq (.region [
     ⟨(some 4), .move (.const (.int .i64 0)), none, [], true⟩])
   .ret)
   .skip))
  (.seq (.region [
    ⟨(some 9), .move (.tmp 0), none, [], true⟩,
    ⟨(some 10), .move (.tmp 1), none, [], true⟩,
    ⟨(some 11), .call (.const (.func (.func 19) #[] #[])) [(.tmp 9), (.tmp 10)], none, [], true⟩,
    ⟨(some 5), .move (.tmp 11), none, [], true⟩])
  (.seq (.seq (.region [
    ⟨(some 12), .move (.tmp 5), none, [], true⟩])
  (.cond (.tmp 12)
   (.seq (.region [
     ⟨(some 4), .move (.const (.int .i64 2)), none, [], true⟩])
   .ret)
   .skip))
  (.seq (.region [
    ⟨(some 13), .move (.tmp 0), none, [], true⟩,
    ⟨(some 14), .call (.const (.func (.func 16) #[] #[])) [(.tmp 13)], none, [], true⟩,
    ⟨(some 6), .move (.tmp 14), none, [], true⟩])
  (.seq (.seq (.region [
    ⟨(some 15), .move (.tmp 1), none, [], true⟩,
    ⟨(some 16), .conv .u64 (.tmp 15), none, [], true⟩,
    ⟨(some 17), .move (.tmp 6), none, [], true⟩,
    ⟨(some 18), .conv .u64 (.tmp 17), none, [], true⟩,
    ⟨(some 19), .bin .add (.tmp 18) (.const (.int .u64 64)), none, [], true⟩,
    ⟨(some 20), .bin .gtr (.tmp 16) (.tmp 19), none, [], true⟩])
  (.cond (.tmp 20)
   (.seq (.region [
     ⟨(some 4), .move (.const (.int .i64 3)), none, [], true⟩])
   .ret)
   .skip))
  (.seq (.region [
    ⟨(some 21), .move (.tmp 0), none, [], true⟩,
    ⟨(some 22), .move (.tmp 0), none, [], true⟩,
    ⟨(some 23), .nilCheck (.tmp 22), none, [], true⟩,
    ⟨(some 24), .fieldAddr 1 (.tmp 23), none, [], true⟩,
    ⟨(some 25), .load none (.tmp 24), none, [], true⟩,
    ⟨(some 26), .move (.tmp 1), none, [], true⟩,
    ⟨(some 27), .buildSlice 1 1 [(.int .u32 0)] [(0, (.tmp 26))], none, [], true⟩,
    ⟨(some 28), .append 1 4 (.tmp 25) (.tmp 27), none, [], true⟩,
    ⟨(some 29), .nilCheck (.tmp 21), none, [], true⟩,
    ⟨(some 30), .fieldAddr 1 (.tmp 29), none, [], true⟩,
    ⟨none, .store 1 (.tmp 30) (.tmp 28), none, [], true⟩])
  (.seq (.region [
    ⟨(some 4), .move (.const (.int .i64 1)), none, [], true⟩])
  .ret)))))))) }
theorem ir15_eq : funcC Tryd.prog 15 = some ir15 := by kernel_rfl
/-- (*wagonway/wagonwayref10.Window).Last -/
def ir16 : IFunc :=
{ ntmps := 32, results := [.tmp 2], body :=
  (.seq (.region [
    ⟨(some 2), .move (.const (.int .u32 0)), none, [], true⟩])
  (.seq (.region [
    ⟨(some 6), .move (.tmp 0), none, [], true⟩,
    ⟨(some 7), .nilCheck (.tmp 6), none, [], true⟩,
    ⟨(some 8), .fieldAddr 0 (.tmp 7), none, [], true⟩,
    ⟨(some 9), .load none (.tmp 8), none, [], true⟩,
    ⟨(some 3), .move (.tmp 9), none, [], true⟩])
  (.seq (.seq (.region [
    ⟨(some 4), .move (.const (.int .i64 0)), none, [], true⟩])
  (.block 0 (.loop (.seq (.seq (.region [
    ⟨(some 10), .move (.tmp 4), none, [], true⟩,
    ⟨(some 11), .move (.tmp 0), none, [], true⟩,
    ⟨(some 12), .nilCheck (.tmp 11), none, [], true⟩,
    ⟨(some 13), .fieldAddr 1 (.tmp 12), none, [], true⟩,
    ⟨(some 14), .load none (.tmp 13), none, [], true⟩,
    ⟨(some 15), .lenSlice (.tmp 14), none, [], true⟩,
    ⟨(some 16), .bin .leq (.tmp 10) (.tmp 15), none, [], true⟩,
    ⟨(some 17), .move (.tmp 16), none, [], true⟩,
    ⟨(some 18), .move (.tmp 3), (some (17, true)), [], true⟩,
    ⟨(some 19), .bin .lss (.tmp 18) (.const (.int .u32 4294967295)), (some (17, true)), [], true⟩,
    ⟨(some 20), .pick (.tmp 17) (.tmp 19) (.const (.bool false)), none, [], true⟩])
  (.cond (.tmp 20)
   .skip
   (.exit 0)))
  (.seq (.block 1 (.seq (.region [
    ⟨(some 23), .move (.tmp 0), none, [], true⟩,
    ⟨(some 24), .move (.tmp 3), none, [], true⟩,
    ⟨(some 25), .bin .add (.tmp 24) (.const (.int .u32 1)), none, [], true⟩,
    ⟨(some 26), .call (.const (.func (.func 19) #[] #[])) [(.tmp 23), (.tmp 25)], none, [], true⟩,
    ⟨(some 5), .move (.tmp 26), none, [], true⟩])
  (.seq (.seq (.region [
    ⟨(some 27), .move (.tmp 5), none, [], true⟩,
    ⟨(some 28), .un .not (.tmp 27), none, [], true⟩])
  (.cond (.tmp 28)
   (.exit 0)
   .skip))
  (.region [
    ⟨(some 29), .move (.tmp 3), none, [], true⟩,
    ⟨(some 30), .bin .add (.tmp 29) (.const (.int .u32 1)), none, [], true⟩,
    ⟨(some 3), .move (.tmp 30), none, [], true⟩]))))
  (.region [
    ⟨(some 21), .move (.tmp 4), none, [], true⟩,
    ⟨(some 22), .bin .add (.tmp 21) (.const (.int .i64 1)), none, [], true⟩,
    ⟨(some 4), .move (.tmp 22), none, [], true⟩]))))))
  (.seq (.region [
    ⟨(some 31), .move (.tmp 3), none, [], true⟩,
    ⟨(some 2), .move (.tmp 31), none, [], true⟩])
  .ret)))) }
theorem ir16_eq : funcC Tryd.prog 16 = some ir16 := by kernel_rfl
/-- (*wagonway/window.Window).Next -/
def ir17 : IFunc :=
{ ntmps := 18, results := [.tmp 2, .tmp 3], body :=
  (.seq (.region [
    ⟨(some 2), .move (.const (.int .u32 0)), none, [], true⟩,
    ⟨(some 3), .move (.const (.bool false)), none, [], true⟩])
  (.seq (.seq (.region [
    ⟨(some 4), .move (.tmp 0), none, [], true⟩,
    ⟨(some 5), .eqPtr false (.tmp 4) (.const (.pointer none)), none, [], true⟩,
    ⟨(some 6), .move (.tmp 5), none, [], true⟩,
    ⟨(some 7), .move (.tmp 0), (some (6, false)), [], true⟩,
    ⟨(some 8), .nilCheck (.tmp 7), (some (6, false)), [], true⟩,
    ⟨(some 9), .fieldAddr 0 (.tmp 8), (some (6, false)), [], true⟩,
    ⟨(some 10), .load none (.tmp 9), (some (6, false)), [], true⟩,
    ⟨(some 11), .bin .eql (.tmp 10) (.const (.int .u32 4294967295)), (some (6, false)), [], true⟩,
    ⟨(some 12), .pick (.tmp 6) (.const (.bool true)) (.tmp 11), none, [], true⟩])
  (.cond (.tmp 12)
   (.seq (.region [
     ⟨(some 2), .move (.const (.int .u32 0)), none, [], true⟩,
     ⟨(some 3), .move (.const (.bool false)), none, [], true⟩])
   .ret)
   .skip))
  (.seq (.region [
    ⟨(some 13), .move (.tmp 0), none, [], true⟩,
    ⟨(some 14), .nilCheck (.tmp 13), none, [], true⟩,
    ⟨(some 15), .fieldAddr 0 (.tmp 14), none, [], true⟩,
    ⟨(some 16), .load none (.tmp 15), none, [], true⟩,
    ⟨(some 17), .bin .add (.tmp 16) (.const (.int .u32 1)), none, [], true⟩,
    ⟨(some 2), .move (.tmp 17), none, [], true⟩,
    ⟨(some 3), .move (.const (.bool true)), none, [], true⟩])
  .ret))) }
theorem ir17_eq : funcC Tryd.prog 17 = some ir17 := by kernel_rfl
/-- (*wagonway/wagonwayref10.Window).Behind -/
def ir18 : IFunc :=
{ ntmps := 61, results := [.tmp 4], body :=
  (.seq (.region [
    ⟨(some 4), .move (.const (.slice none 0 0)), none, [], true⟩])
  (.seq (.region [
    ⟨(some 11), .move (.tmp 0), none, [], true⟩,
    ⟨(some 12), .call (.const (.func (.func 16) #[] #[])) [(.tmp 11)], none, [], true⟩,
    ⟨(some 5), .move (.tmp 12), none, [], true⟩])
  (.seq (.region [
    ⟨(some 13), .move (.tmp 5), none, [], true⟩,
    ⟨(some 6), .move (.tmp 13), none, [], true⟩])
  (.seq (.seq (.region [
    ⟨(some 7), .move (.const (.int .i64 0)), none, [], true⟩])
  (.block 0 (.loop (.seq (.seq (.region [
    ⟨(some 14), .move (.tmp 7), none, [], true⟩,
    ⟨(some 15), .move (.tmp 0), none, [], true⟩,
    ⟨(some 16), .nilCheck (.tmp 15), none, [], true⟩,
    ⟨(some 17), .fieldAddr 1 (.tmp 16), none, [], true⟩,
    ⟨(some 18), .load none (.tmp 17), none, [], true⟩,
    ⟨(some 19), .lenSlice (.tmp 18), none, [], true⟩,
    ⟨(some 20), .bin .lss (.tmp 14) (.tmp 19), none, [], true⟩])
  (.cond (.tmp 20)
   .skip
   (.exit 0)))
  (.seq (.block 1 (.seq (.region [
    ⟨(some 23), .move (.tmp 0), none, [], true⟩,
    ⟨(some 24), .nilCheck (.tmp 23), none, [], true⟩,
    ⟨(some 25), .fieldAddr 1 (.tmp 24), none, [], true⟩,
    ⟨(some 26), .load none (.tmp 25), none, [], true⟩,
    ⟨(some 27), .move (.tmp 7), none, [], true⟩,
    ⟨(some 28), .indexAddr 1 (.tmp 26) (.tmp 27), none, [], true⟩,
    ⟨(some 29), .load none (.tmp 28), none, [], true⟩,
    ⟨(some 30), .move (.tmp 6), none, [], true⟩,
    ⟨(some 31), .bin .gtr (.tmp 29) (.tmp 30), none, [], true⟩])
  (.cond (.tmp 31)
   (.region [
     ⟨(some 32), .move (.tmp 0), none, [], true⟩,
     ⟨(some 33), .nilCheck (.tmp 32), none, [], true⟩,
     ⟨(some 34), .fieldAddr 1 (.tmp 33), none, [], true⟩,
     ⟨(some 35), .load none (.tmp 34), none, [], true⟩,
     ⟨(some 36), .move (.tmp 7), none, [], true⟩,
     ⟨(some 37), .indexAddr 1 (.tmp 35) (.tmp 36), none, [], true⟩,
     ⟨(some 38), .load none (.tmp 37), none, [], true⟩,
     ⟨(some 6), .move (.tmp 38), none, [], true⟩])
   .skip)))
  (.region [
    ⟨(some 21), .move (.tmp 7), none, [], true⟩,
    ⟨(some 22), .bin .add (.tmp 21) (.const (.int .i64 1)), none, [], true⟩,
    ⟨(some 7), .move (.tmp 22), none, [], true⟩]))))))
  (.seq (.region [
    ⟨(some 8), .move (.const (.slice none 0 0)), none, [], true⟩])
  (.seq (.seq (.region [
    ⟨(some 39), .move (.tmp 5), none, [], true⟩,
    ⟨(some 40), .conv .u64 (.tmp 39), none, [], true⟩,
    ⟨(some 41), .bin .add (.tmp 40) (.const (.int .u64 1)), none, [], true⟩,
    ⟨(some 9), .move (.tmp 41), none, [], true⟩])
  (.block 2 (.loop (.seq (.seq (.region [
    ⟨(some 42), .move (.tmp 9), none, [], true⟩,
    ⟨(some 43), .move (.tmp 6), none, [], true⟩,
    ⟨(some 44), .conv .u64 (.tmp 43), none, [], true⟩,
    ⟨(some 45), .bin .leq (.tmp 42) (.tmp 44), none, [], true⟩])
  (.cond (.tmp 45)
   .skip
   (.exit 2)))
  (.seq (.block 3 (.seq (.region [
    ⟨(some 48), .move (.tmp 0), none, [], true⟩,
    ⟨(some 49), .move (.tmp 9), none, [], true⟩,
    ⟨(some 50), .conv .u32 (.tmp 49), none, [], true⟩,
    ⟨(some 51), .call (.const (.func (.func 19) #[] #[])) [(.tmp 48), (.tmp 50)], none, [], true⟩,
    ⟨(some 10), .move (.tmp 51), none, [], true⟩])
  (.seq (.region [
    ⟨(some 52), .move (.tmp 10), none, [], true⟩,
    ⟨(some 53), .move (.tmp 1), none, [], true⟩,
    ⟨(some 54), .eqBool false (.tmp 52) (.tmp 53), none, [], true⟩])
  (.cond (.tmp 54)
   (.region [
     ⟨(some 55), .move (.tmp 8), none, [], true⟩,
     ⟨(some 56), .move (.tmp 9), none, [], true⟩,
     ⟨(some 57), .conv .u32 (.tmp 56), none, [], true⟩,
     ⟨(some 58), .buildSlice 1 1 [(.int .u32 0)] [(0, (.tmp 57))], none, [], true⟩,
     ⟨(some 59), .append 1 4 (.tmp 55) (.tmp 58), none, [], true⟩,
     ⟨(some 8), .move (.tmp 59), none, [], true⟩])
   .skip))))
  (.region [
    ⟨(some 46), .move (.tmp 9), none, [], true⟩,
    ⟨(some 47), .bin .add (.tmp 46) (.const (.int .u64 1)), none, [], true⟩,
    ⟨(some 9), .move (.tmp 47), none, [], true⟩]))))))
  (.seq (.region [
    ⟨(some 60), .move (.tmp 8), none, [], true⟩,
    ⟨(some 4), .move (.tmp 60), none, [], true⟩])
  .ret))))))) }
theorem ir18_eq : funcC Tryd.prog 18 = some ir18 := by kernel_rfl
/-- (*wagonway/wagonwayref10.Window).Has -/
def ir19 : IFunc :=
{ ntmps := 34, results := [.tmp 4], body :=
  (.seq (.region [
    ⟨(some 4), .move (.const (.bool false)), none, [], true⟩])
  (.seq (.seq (.region [
    ⟨(some 6), .move (.tmp 1), none, [], true⟩,
    ⟨(some 7), .bin .gtr (.tmp 6) (.const (.int .u32 0)), none, [], true⟩,
    ⟨(some 8), .move (.tmp 7), none, [], true⟩,
    ⟨(some 9), .move (.tmp 1), (some (8, true)), [], true⟩,
    ⟨(some 10), .move (.tmp 0), (some (8, true)), [], true⟩,
    ⟨(some 11), .nilCheck (.tmp 10), (some (8, true)), [], true⟩,
    ⟨(some 12), .fieldAddr 0 (.tmp 11), (some (8, true)), [], true⟩,
    ⟨(some 13), .load none (.tmp 12), (some (8, true)), [], true⟩,
    ⟨(some 14), .bin .leq (.tmp 9) (.tmp 13), (some (8, true)), [], true⟩,
    ⟨(some 15), .pick (.tmp 8) (.tmp 14) (.const (.bool false)), none, [], true⟩])
  (.cond (.tmp 15)
   (.seq (.region [
     ⟨(some 4), .move (.const (.bool true)), none, [], true⟩])
   .ret)
   .skip))
  (.seq (.seq (.region [
    ⟨(some 5), .move (.const (.int .i64 0)), none, [], true⟩])
  (.block 0 (.loop (.seq (.seq (.region [
    ⟨(some 16), .move (.tmp 5), none, [], true⟩,
    ⟨(some 17), .move (.tmp 0), none, [], true⟩,
    ⟨(some 18), .nilCheck (.tmp 17), none, [], true⟩,
    ⟨(some 19), .fieldAddr 1 (.tmp 18), none, [], true⟩,
    ⟨(some 20), .load none (.tmp 19), none, [], true⟩,
    ⟨(some 21), .lenSlice (.tmp 20), none, [], true⟩,
    ⟨(some 22), .bin .lss (.tmp 16) (.tmp 21), none, [], true⟩])
  (.cond (.tmp 22)
   .skip
   (.exit 0)))
  (.seq (.block 1 (.seq (.region [
    ⟨(some 25), .move (.tmp 0), none, [], true⟩,
    ⟨(some 26), .nilCheck (.tmp 25), none, [], true⟩,
    ⟨(some 27), .fieldAddr 1 (.tmp 26), none, [], true⟩,
    ⟨(some 28), .load none (.tmp 27), none, [], true⟩,
    ⟨(some 29), .move (.tmp 5), none, [], true⟩,
    ⟨(some 30), .indexAddr 1 (.tmp 28) (.tmp 29), none, [], true⟩,
    ⟨(some 31), .load none (.tmp 30), none, [], true⟩,
    ⟨(some 32), .move (.tmp 1), none, [], true⟩,
    ⟨(some 33), .bin .eql (.tmp 31) (.tmp 32), none, [], true⟩])
  (.cond (.tmp 33)
   (.seq (.region [
     ⟨(some 4), .move (.const (.bool true)), none, [], true⟩])
   .ret)
   .skip)))
  (.region [
    ⟨(some 23), .move (.tmp 5), none, [], true⟩,
    ⟨(some 24), .bin .add (.tmp 23) (.const (.int .i64 1)), none, [], true⟩,
    ⟨(some 5), .move (.tmp 24), none, [], true⟩]))))))
  (.seq (.region [
    ⟨(some 4), .move (.const (.bool false)), none, [], true⟩])
  .ret)))) }
theorem ir19_eq : funcC Tryd.prog 19 = some ir19 := by kernel_rfl
/-- math/bits.TrailingZeros64 -/
def ir20 : IFunc :=
{ ntmps := 14, results := [.tmp 2], body :=
  (.seq (.region [
    ⟨(some 2), .move (.const (.int .i64 0)), none, [], true⟩])
  (.seq (.seq (.region [
    ⟨(some 3), .move (.tmp 0), none, [], true⟩,
    ⟨(some 4), .bin .eql (.tmp 3) (.const (.int .u64 0)), none, [], true⟩])
  (.cond (.tmp 4)
   (.seq (.region [
     ⟨(some 2), .move (.const (.int .i64 64)), none, [], true⟩])
   .ret)
   .skip))
  (.seq (.region [
    ⟨(some 5), .move (.tmp 0), none, [], true⟩,
    ⟨(some 6), .move (.tmp 0), none, [], true⟩,
    ⟨(some 7), .un .neg (.tmp 6), none, [], true⟩,
    ⟨(some 8), .bin .and (.tmp 5) (.tmp 7), none, [], true⟩,
    ⟨(some 9), .bin .mul (.tmp 8) (.const (.int .u64 285870213051353865)), none, [], true⟩,
    ⟨(some 10), .bin .shr (.tmp 9) (.const (.int .u64 58)), none, [], true⟩,
    ⟨(some 11), .indexAddrArr 64 1 (.const (.pointer (some ⟨1, 0, none⟩))) (.tmp 10), none, [], true⟩,
    ⟨(some 12), .load none (.tmp 11), none, [], true⟩,
    ⟨(some 13), .conv .i64 (.tmp 12), none, [], true⟩,
    ⟨(some 2), .move (.tmp 13), none, [], true⟩])
  .ret))) }
theorem ir20_eq : funcC Tryd.prog 20 = some ir20 := by kernel_rfl
/-- (*wagonway/window.Window).list -/
def ir21 : IFunc :=
{ ntmps := 16, results := [.tmp 4], body :=
  (.seq (.region [
    ⟨(some 4), .move (.const (.slice none 0 0)), none, [], true⟩])
  (.seq (.region [
    ⟨(some 5), .box (.const (.slice none 0 0)), none, [], true⟩])
  (.seq (.seq (.region [
    ⟨(some 7), .move (.tmp 0), none, [], true⟩,
    ⟨(some 8), .move (.tmp 1), none, [], true⟩,
    ⟨(some 9), .call (.const (.func (.func 22) #[] #[])) [(.tmp 7), (.tmp 8)], none, [], true⟩])
  (.block 0 (.rangeFunc (.tmp 9) [10]
   (.region [
     ⟨(some 6), .move (.tmp 10), none, [], true⟩])
   (.block 1 (.region [
     ⟨(some 11), .load none (.tmp 5), none, [], true⟩,
     ⟨(some 12), .move (.tmp 6), none, [], true⟩,
     ⟨(some 13), .buildSlice 1 1 [(.int .u32 0)] [(0, (.tmp 12))], none, [], true⟩,
     ⟨(some 14), .append 1 4 (.tmp 11) (.tmp 13), none, [], true⟩,
     ⟨none, .store 1 (.tmp 5) (.tmp 14), none, [], true⟩])))))
  (.seq (.region [
    ⟨(some 15), .load none (.tmp 5), none, [], true⟩,
    ⟨(some 4), .move (.tmp 15), none, [], true⟩])
  .ret)))) }
theorem ir21_eq : funcC Tryd.prog 21 = some ir21 := by kernel_rfl
/-- (*wagonway/window.Window).behind -/
def ir22 : IFunc :=
{ ntmps := 6, results := [.tmp 4], body :=
  (.seq (.region [
    ⟨(some 2), .box (.tmp 0), none, [], true⟩,
    ⟨(some 3), .box (.tmp 1), none, [], true⟩,
    ⟨(some 4), .move (.const .nilFunc), none, [], true⟩])
  (.seq (.region [
    ⟨(some 5), .func (.func 23) [] [(.tmp 2), (.tmp 3)], none, [], true⟩,
    ⟨(some 4), .move (.tmp 5), none, [], true⟩])
  .ret)) }
theorem ir22_eq : funcC Tryd.prog 22 = some ir22 := by kernel_rfl
/-- (*wagonway/window.Window).behind$1 -/
def ir23 : IFunc :=
{ ntmps := 37, results := [], body :=
  (.seq (.seq (.region [
    ⟨(some 5), .load none (.tmp 1), none, [], true⟩,
    ⟨(some 6), .eqPtr false (.tmp 5) (.const (.pointer none)), none, [], true⟩])
  (.cond (.tmp 6)
   .ret
   .skip))
  (.seq .skip
  (.seq (.region [
    ⟨(some 7), .load none (.tmp 1), none, [], true⟩,
    ⟨(some 8), .nilCheck (.tmp 7), none, [], true⟩,
    ⟨(some 9), .fieldAddr 1 (.tmp 8), none, [], true⟩,
    ⟨(some 10), .load none (.tmp 9), none, [], true⟩,
    ⟨(some 11), .call (.const (.func (.func 24) #[] #[])) [(.tmp 10)], none, [], true⟩,
    ⟨(some 12), .move (.const (.int .i64 0)), none, [], true⟩])
  (.block 0 (.loop (.seq (.region [
    ⟨(some 13), .bin .lss (.tmp 12) (.tmp 11), none, [], true⟩])
  (.seq (.cond (.tmp 13)
   .skip
   (.exit 0))
  (.seq (.block 1 (.seq (.region [
    ⟨(some 14), .move (.tmp 12), none, [], true⟩,
    ⟨(some 4), .move (.tmp 14), none, [], true⟩])
  (.seq (.seq (.drawn [
    ⟨(some 15), .load none (.tmp 1), none, [], false⟩,
    ⟨(some 16), .nilCheck (.tmp 15), none, [0], false⟩,
    ⟨(some 17), .fieldAddr 1 (.tmp 16), none, [1, 0], false⟩,
    ⟨(some 18), .load none (.tmp 17), none, [2, 1, 0], false⟩,
    ⟨(some 19), .move (.tmp 4), none, [], false⟩,
    ⟨(some 20), .bin .shr (.tmp 18) (.tmp 19), none, [3, 4, 2, 1, 0], false⟩,
    ⟨(some 21), .bin .and (.tmp 20) (.const (.int .u64 1)), none, [5, 3, 4, 2, 1, 0], false⟩,
    ⟨(some 22), .bin .eql (.tmp 21) (.const (.int .u64 1)), none, [6, 5, 3, 4, 2, 1, 0], false⟩,
    ⟨(some 23), .load none (.tmp 2), none, [], false⟩,
    ⟨(some 24), .eqBool true (.tmp 22) (.tmp 23), none, [7, 8, 6, 5, 3, 4, 2, 1, 0], true⟩])
  (.cond (.tmp 24)
   (.exit 1)
   .skip))
  (.seq (.region [
    ⟨(some 25), .move (.tmp 0), none, [], true⟩,
    ⟨(some 26), .load none (.tmp 1), none, [], true⟩,
    ⟨(some 27), .nilCheck (.tmp 26), none, [], true⟩,
    ⟨(some 28), .fieldAddr 0 (.tmp 27), none, [], true⟩,
    ⟨(some 29), .load none (.tmp 28), none, [], true⟩,
    ⟨(some 30), .bin .add (.tmp 29) (.const (.int .u32 1)), none, [], true⟩,
    ⟨(some 31), .move (.tmp 4), none, [], true⟩,
    ⟨(some 32), .conv .u32 (.tmp 31), none, [], true⟩,
    ⟨(some 33), .bin .add (.tmp 30) (.tmp 32), none, [], true⟩,
    ⟨(some 34), .call (.tmp 25) [(.tmp 33)], none, [], true⟩,
    ⟨(some 35), .un .not (.tmp 34), none, [], true⟩])
  (.cond (.tmp 35)
   .ret
   .skip)))))
  (.region [
    ⟨(some 36), .bin .add (.tmp 12) (.const (.int .i64 1)), none, [], true⟩,
    ⟨(some 12), .move (.tmp 36), none, [], true⟩]))))))))) }
theorem ir23_eq : funcC Tryd.prog 23 = some ir23 := by kernel_rfl
/-- math/bits.Len64 -/
def ir24 : IFunc :=
{ ntmps := 25, results := [.tmp 2], body :=
  (.seq (.region [
    ⟨(some 2), .move (.const (.int .i64 0)), none, [], true⟩])
  (.seq (.seq (.region [
    ⟨(some 3), .move (.tmp 0), none, [], true⟩,
    ⟨(some 4), .bin .geq (.tmp 3) (.const (.int .u64 4294967296)), none, [], true⟩])
  (.cond (.tmp 4)
   (.seq (.region [
     ⟨(some 5), .move (.tmp 0), none, [], true⟩,
     ⟨(some 6), .bin .shr (.tmp 5) (.const (.int .u64 32)), none, [], true⟩,
     ⟨(some 0), .move (.tmp 6), none, [], true⟩])
   (.region [
     ⟨(some 2), .move (.const (.int .i64 32)), none, [], true⟩]))
   .skip))
  (.seq (.seq (.region [
    ⟨(some 7), .move (.tmp 0), none, [], true⟩,
    ⟨(some 8), .bin .geq (.tmp 7) (.const (.int .u64 65536)), none, [], true⟩])
  (.cond (.tmp 8)
   (.seq (.region [
     ⟨(some 9), .move (.tmp 0), none, [], true⟩,
     ⟨(some 10), .bin .shr (.tmp 9) (.const (.int .u64 16)), none, [], true⟩,
     ⟨(some 0), .move (.tmp 10), none, [], true⟩])
   (.region [
     ⟨(some 11), .move (.tmp 2), none, [], true⟩,
     ⟨(some 12), .bin .add (.tmp 11) (.const (.int .i64 16)), none, [], true⟩,
     ⟨(some 2), .move (.tmp 12), none, [], true⟩]))
   .skip))
  (.seq (.seq (.region [
    ⟨(some 13), .move (.tmp 0), none, [], true⟩,
    ⟨(some 14), .bin .geq (.tmp 13) (.const (.int .u64 256)), none, [], true⟩])
  (.cond (.tmp 14)
   (.seq (.region [
     ⟨(some 15), .move (.tmp 0), none, [], true⟩,
     ⟨(some 16), .bin .shr (.tmp 15) (.const (.int .u64 8)), none, [], true⟩,
     ⟨(some 0), .move (.tmp 16), none, [], true⟩])
   (.region [
     ⟨(some 17), .move (.tmp 2), none, [], true⟩,
     ⟨(some 18), .bin .add (.tmp 17) (.const (.int .i64 8)), none, [], true⟩,
     ⟨(some 2), .move (.tmp 18), none, [], true⟩]))
   .skip))
  (.seq (.region [
    ⟨(some 19), .move (.tmp 2), none, [], true⟩,
    ⟨(some 20), .move (.tmp 0), none, [], true⟩,
    ⟨(some 21), .conv .u8 (.tmp 20), none, [], true⟩,
    ⟨(some 22), .indexStr (.const (.string ⟨#[0, 1, 2, 2, 3, 3, 3, 3, 4, 4, 4, 4, 4, 4, 4, 4, 5, 5, 5, 5, 5, 5, 5, 5, 5, 5, 5, 5, 5, 5, 5, 5, 6, 6, 6, 6, 6, 6, 6, 6, 6, 6, 6, 6, 6, 6, 6, 6, 6, 6, 6, 6, 6, 6, 6, 6, 6, 6, 6, 6, 6, 6, 6, 6, 7, 7, 7, 7, 7, 7, 7, 7, 7, 7, 7, 7, 7, 7, 7, 7, 7, 7, 7, 7, 7, 7, 7, 7, 7, 7, 7, 7, 7, 7, 7, 7, 7, 7, 7, 7, 7, 7, 7, 7, 7, 7, 7, 7, 7, 7, 7, 7, 7, 7, 7, 7, 7, 7, 7, 7, 7, 7, 7, 7, 7, 7, 7, 7, 8, 8, 8, 8, 8, 8, 8, 8, 8, 8, 8, 8, 8, 8, 8, 8, 8, 8, 8, 8, 8, 8, 8, 8, 8, 8, 8, 8, 8, 8, 8, 8, 8, 8, 8, 8, 8, 8, 8, 8, 8, 8, 8, 8, 8, 8, 8, 8, 8, 8, 8, 8, 8, 8, 8, 8, 8, 8, 8, 8, 8, 8, 8, 8, 8, 8, 8, 8, 8, 8, 8, 8, 8, 8, 8, 8, 8, 8, 8, 8, 8, 8, 8, 8, 8, 8, 8, 8, 8, 8, 8, 8, 8, 8, 8, 8, 8, 8, 8, 8, 8, 8, 8, 8, 8, 8, 8, 8, 8, 8, 8, 8, 8, 8, 8, 8, 8, 8, 8, 8, 8, 8, 8, 8, 8, 8, 8, 8]⟩)) (.tmp 21), none, [], true⟩,
    ⟨(some 23), .conv .i64 (.tmp 22), none, [], true⟩,
    ⟨(some 24), .bin .add (.tmp 19) (.tmp 23), none, [], true⟩,
    ⟨(some 2), .move (.tmp 24), none, [], true⟩])
  .ret))))) }
theorem ir24_eq : funcC Tryd.prog 24 = some ir24 := by kernel_rfl
def table : List (Option IFunc) :=
  [none, none, none, some ir3, some ir4, some ir5, some ir6, some ir7, some ir8, some ir9, some ir10, some ir11, some ir12, some ir13, some ir14, some ir15, some ir16, some ir17, some ir18, some ir19, some ir20, some ir21, some ir22, some ir23, some ir24]
def env : Env := fun g => (table[g]?).join
theorem env_ok : ∀ g F, env g = some F → funcC Tryd.prog g = some F := by
  intro g F h
  match g with
  | 0 => cases h
  | 1 => cases h
  | 2 => cases h
  | 3 => cases h; exact ir3_eq
  | 4 => cases h; exact ir4_eq
  | 5 => cases h; exact ir5_eq
  | 6 => cases h; exact ir6_eq
  | 7 => cases h; exact ir7_eq
  | 8 => cases h; exact ir8_eq
  | 9 => cases h; exact ir9_eq
  | 10 => cases h; exact ir10_eq
  | 11 => cases h; exact ir11_eq
  | 12 => cases h; exact ir12_eq
  | 13 => cases h; exact ir13_eq
  | 14 => cases h; exact ir14_eq
  | 15 => cases h; exact ir15_eq
  | 16 => cases h; exact ir16_eq
  | 17 => cases h; exact ir17_eq
  | 18 => cases h; exact ir18_eq
  | 19 => cases h; exact ir19_eq
  | 20 => cases h; exact ir20_eq
  | 21 => cases h; exact ir21_eq
  | 22 => cases h; exact ir22_eq
  | 23 => cases h; exact ir23_eq
  | 24 => cases h; exact ir24_eq
  | g + 25 => simp [env, table] at h
end Go.Proofs.YtjfhgjchocdhmaaDoor
