/-
  THE FUNCTIONS THAT THE STATEMENTS REACH, in the intermediate form; written by a program of this claim.
-/
import Derived.Test.YtafaefeekilclaaChecked
import Derived.Test.YtafaefeekilclaaFa
import Derived.KernelRfl
namespace Go.Proofs.Ytafaefeekilclaa
open Go Go.Ideal
/-- wagonway/wagonwaylaw03.PileMerges -/
def ir4 : IFunc :=
{ ntmps := 118, results := [.tmp 4], body :=
  (.seq (.region [
    ⟨(some 4), .move (.const (.bool false)), none, [], true⟩])
  (.seq (.region [
    ⟨(some 19), .call (.const (.func (.func 9) #[] #[])) [], none, [], true⟩,
    ⟨(some 5), .move (.tmp 19), none, [], true⟩])
  (.seq (.seq (.region [
    ⟨(some 20), .move (.tmp 0), none, [], true⟩,
    ⟨(some 21), .lenSlice (.tmp 20), none, [], true⟩,
    ⟨(some 22), .bin .gtr (.tmp 21) (.const (.int .i64 200)), none, [], true⟩,
    ⟨(some 23), .move (.tmp 22), none, [], true⟩,
    ⟨(some 24), .move (.tmp 5), (some (23, false)), [], true⟩,
    ⟨(some 25), .un .not (.tmp 24), (some (23, false)), [], true⟩,
    ⟨(some 26), .pick (.tmp 23) (.const (.bool true)) (.tmp 25), none, [], true⟩])
  (.cond (.tmp 26)
   (.seq (.region [
     ⟨(some 27), .move (.tmp 5), none, [], true⟩,
     ⟨(some 4), .move (.tmp 27), none, [], true⟩])
   .ret)
   .skip))
  (.seq (.region [
    ⟨(some 6), .box (.const (.agg #[(.slice none 0 0), (.slice none 0 0)])), none, [], true⟩])
  (.seq (.region [
    ⟨(some 7), .box (.const (.agg #[(.slice none 0 0)])), none, [], true⟩])
  (.seq (.seq (.region [
    ⟨(some 28), .move (.tmp 0), none, [], true⟩,
    ⟨(some 29), .lenSlice (.tmp 28), none, [], true⟩,
    ⟨(some 30), .move (.const (.int .i64 0)), none, [], true⟩])
  (.block 0 (.loop (.seq (.region [
    ⟨(some 31), .bin .lss (.tmp 30) (.tmp 29), none, [], true⟩])
  (.seq (.cond (.tmp 31)
   .skip
   (.exit 0))
  (.seq (.block 1 (.seq (.region [
    ⟨(some 32), .move (.tmp 30), none, [], true⟩,
    ⟨(some 8), .move (.tmp 32), none, [], true⟩])
  (.seq (.region [
    ⟨(some 9), .move (.const (.int .i64 0)), none, [], true⟩])
  (.seq (.seq (.region [
    ⟨(some 33), .move (.tmp 8), none, [], true⟩,
    ⟨(some 34), .move (.tmp 1), none, [], true⟩,
    ⟨(some 35), .lenSlice (.tmp 34), none, [], true⟩,
    ⟨(some 36), .bin .lss (.tmp 33) (.tmp 35), none, [], true⟩,
    ⟨(some 37), .move (.tmp 36), none, [], true⟩,
    ⟨(some 38), .move (.tmp 1), (some (37, true)), [], true⟩,
    ⟨(some 39), .move (.tmp 8), (some (37, true)), [], true⟩,
    ⟨(some 40), .indexAddr 1 (.tmp 38) (.tmp 39), (some (37, true)), [], true⟩,
    ⟨(some 41), .load none (.tmp 40), (some (37, true)), [], true⟩,
    ⟨(some 42), .pick (.tmp 37) (.tmp 41) (.const (.bool false)), none, [], true⟩])
  (.cond (.tmp 42)
   (.region [
     ⟨(some 9), .move (.const (.int .i64 1)), none, [], true⟩])
   .skip))
  (.seq (.drawn [
    ⟨(some 43), .move (.tmp 9), none, [], false⟩,
    ⟨(some 44), .indexAddrArr 2 1 (.tmp 6) (.tmp 43), none, [0], false⟩,
    ⟨(some 45), .move (.tmp 0), none, [], true⟩,
    ⟨(some 46), .move (.tmp 8), none, [], true⟩,
    ⟨(some 47), .indexAddr 3 (.tmp 45) (.tmp 46), none, [2, 3], true⟩,
    ⟨(some 48), .load (some 3) (.tmp 47), none, [4, 2, 3], true⟩,
    ⟨(some 49), .call (.const (.func (.func 10) #[] #[])) [(.tmp 44), (.tmp 48)], none, [1, 5, 0, 4, 2, 3], true⟩])
  (.region [
    ⟨(some 50), .move (.tmp 0), none, [], true⟩,
    ⟨(some 51), .move (.tmp 8), none, [], true⟩,
    ⟨(some 52), .indexAddr 3 (.tmp 50) (.tmp 51), none, [], true⟩,
    ⟨(some 53), .load (some 3) (.tmp 52), none, [], true⟩,
    ⟨(some 54), .call (.const (.func (.func 10) #[] #[])) [(.tmp 7), (.tmp 53)], none, [], true⟩]))))))
  (.region [
    ⟨(some 55), .bin .add (.tmp 30) (.const (.int .i64 1)), none, [], true⟩,
    ⟨(some 30), .move (.tmp 55), none, [], true⟩])))))))
  (.seq (.seq (.region [
    ⟨(some 56), .move (.tmp 0), none, [], true⟩,
    ⟨(some 57), .lenSlice (.tmp 56), none, [], true⟩,
    ⟨(some 58), .move (.const (.int .i64 0)), none, [], true⟩])
  (.block 2 (.loop (.seq (.region [
    ⟨(some 59), .bin .lss (.tmp 58) (.tmp 57), none, [], true⟩])
  (.seq (.cond (.tmp 59)
   .skip
   (.exit 2))
  (.seq (.block 3 (.seq (.region [
    ⟨(some 61), .indexAddrArr 2 1 (.tmp 6) (.const (.int .i64 0)), none, [], true⟩,
    ⟨(some 62), .call (.const (.func (.func 14) #[] #[])) [(.tmp 61)], none, [], true⟩,
    ⟨(some 60), .move (.tmp 62), none, [], true⟩,
    ⟨(some 63), .extract (.tmp 60) 0, none, [], true⟩,
    ⟨(some 64), .extract (.tmp 60) 1, none, [], true⟩,
    ⟨(some 10), .box (.const (.agg #[(.int .i64 0), (.int .i64 0), (.int .i64 0)])), none, [], true⟩,
    ⟨none, .store 3 (.tmp 10) (.tmp 63), none, [], true⟩,
    ⟨(some 11), .move (.tmp 64), none, [], true⟩])
  (.seq (.region [
    ⟨(some 66), .indexAddrArr 2 1 (.tmp 6) (.const (.int .i64 1)), none, [], true⟩,
    ⟨(some 67), .call (.const (.func (.func 14) #[] #[])) [(.tmp 66)], none, [], true⟩,
    ⟨(some 65), .move (.tmp 67), none, [], true⟩,
    ⟨(some 68), .extract (.tmp 65) 0, none, [], true⟩,
    ⟨(some 69), .extract (.tmp 65) 1, none, [], true⟩,
    ⟨(some 12), .box (.const (.agg #[(.int .i64 0), (.int .i64 0), (.int .i64 0)])), none, [], true⟩,
    ⟨none, .store 3 (.tmp 12) (.tmp 68), none, [], true⟩,
    ⟨(some 13), .move (.tmp 69), none, [], true⟩])
  (.seq (.region [
    ⟨(some 14), .move (.const (.int .i64 1)), none, [], true⟩])
  (.seq (.seq (.region [
    ⟨(some 70), .move (.tmp 13), none, [], true⟩,
    ⟨(some 71), .un .not (.tmp 70), none, [], true⟩,
    ⟨(some 72), .move (.tmp 71), none, [], true⟩,
    ⟨(some 73), .move (.tmp 11), (some (72, false)), [], true⟩,
    ⟨(some 74), .move (.tmp 73), (some (72, false)), [], true⟩,
    ⟨(some 75), .load (some 3) (.tmp 12), (some (74, true)), [], true⟩,
    ⟨(some 76), .load (some 3) (.tmp 10), (some (74, true)), [], true⟩,
    ⟨(some 77), .call (.const (.func (.func 12) #[] #[])) [(.tmp 75), (.tmp 76)], (some (74, true)), [], true⟩,
    ⟨(some 78), .un .not (.tmp 77), (some (74, true)), [], true⟩,
    ⟨(some 79), .pick (.tmp 74) (.tmp 78) (.const (.bool false)), (some (72, false)), [], true⟩,
    ⟨(some 80), .pick (.tmp 72) (.const (.bool true)) (.tmp 79), none, [], true⟩])
  (.cond (.tmp 80)
   (.region [
     ⟨(some 14), .move (.const (.int .i64 0)), none, [], true⟩])
   .skip))
  (.seq (.region [
    ⟨(some 82), .move (.tmp 14), none, [], true⟩,
    ⟨(some 83), .indexAddrArr 2 1 (.tmp 6) (.tmp 82), none, [], true⟩,
    ⟨(some 84), .call (.const (.func (.func 11) #[] #[])) [(.tmp 83)], none, [], true⟩,
    ⟨(some 81), .move (.tmp 84), none, [], true⟩,
    ⟨(some 85), .extract (.tmp 81) 0, none, [], true⟩,
    ⟨(some 86), .extract (.tmp 81) 1, none, [], true⟩,
    ⟨(some 15), .box (.const (.agg #[(.int .i64 0), (.int .i64 0), (.int .i64 0)])), none, [], true⟩,
    ⟨none, .store 3 (.tmp 15) (.tmp 85), none, [], true⟩,
    ⟨(some 16), .move (.tmp 86), none, [], true⟩])
  (.seq (.region [
    ⟨(some 88), .call (.const (.func (.func 11) #[] #[])) [(.tmp 7)], none, [], true⟩,
    ⟨(some 87), .move (.tmp 88), none, [], true⟩,
    ⟨(some 89), .extract (.tmp 87) 0, none, [], true⟩,
    ⟨(some 90), .extract (.tmp 87) 1, none, [], true⟩,
    ⟨(some 17), .box (.const (.agg #[(.int .i64 0), (.int .i64 0), (.int .i64 0)])), none, [], true⟩,
    ⟨none, .store 3 (.tmp 17) (.tmp 89), none, [], true⟩,
    ⟨(some 18), .move (.tmp 90), none, [], true⟩])
  (.seq (.region [
    ⟨(some 91), .move (.tmp 16), none, [], true⟩,
    ⟨(some 92), .un .not (.tmp 91), none, [], true⟩,
    ⟨(some 93), .move (.tmp 92), none, [], true⟩,
    ⟨(some 94), .move (.tmp 18), (some (93, false)), [], true⟩,
    ⟨(some 95), .un .not (.tmp 94), (some (93, false)), [], true⟩,
    ⟨(some 96), .pick (.tmp 93) (.const (.bool true)) (.tmp 95), none, [], true⟩,
    ⟨(some 97), .move (.tmp 96), none, [], true⟩,
    ⟨(some 98), .load (some 3) (.tmp 15), (some (97, false)), [], true⟩,
    ⟨(some 99), .load (some 3) (.tmp 17), (some (97, false)), [], true⟩,
    ⟨(some 100), .eqAgg true [.int, .int, .int] (.tmp 98) (.tmp 99), (some (97, false)), [], true⟩,
    ⟨(some 101), .pick (.tmp 97) (.const (.bool true)) (.tmp 100), none, [], true⟩])
  (.cond (.tmp 101)
   (.seq (.region [
     ⟨(some 4), .move (.const (.bool false)), none, [], true⟩])
   .ret)
   .skip)))))))))
  (.region [
    ⟨(some 102), .bin .add (.tmp 58) (.const (.int .i64 1)), none, [], true⟩,
    ⟨(some 58), .move (.tmp 102), none, [], true⟩])))))))
  (.seq (.region [
    ⟨(some 103), .move (.tmp 5), none, [], true⟩,
    ⟨(some 104), .move (.tmp 103), none, [], true⟩,
    ⟨(some 105), .call (.const (.func (.func 13) #[] #[])) [(.tmp 7)], (some (104, true)), [], true⟩,
    ⟨(some 106), .bin .eql (.tmp 105) (.const (.int .i64 0)), (some (104, true)), [], true⟩,
    ⟨(some 107), .pick (.tmp 104) (.tmp 106) (.const (.bool false)), none, [], true⟩,
    ⟨(some 108), .move (.tmp 107), none, [], true⟩,
    ⟨(some 109), .indexAddrArr 2 1 (.tmp 6) (.const (.int .i64 0)), (some (108, true)), [], true⟩,
    ⟨(some 110), .call (.const (.func (.func 13) #[] #[])) [(.tmp 109)], (some (108, true)), [], true⟩,
    ⟨(some 111), .bin .eql (.tmp 110) (.const (.int .i64 0)), (some (108, true)), [], true⟩,
    ⟨(some 112), .pick (.tmp 108) (.tmp 111) (.const (.bool false)), none, [], true⟩,
    ⟨(some 113), .move (.tmp 112), none, [], true⟩,
    ⟨(some 114), .indexAddrArr 2 1 (.tmp 6) (.const (.int .i64 1)), (some (113, true)), [], true⟩,
    ⟨(some 115), .call (.const (.func (.func 13) #[] #[])) [(.tmp 114)], (some (113, true)), [], true⟩,
    ⟨(some 116), .bin .eql (.tmp 115) (.const (.int .i64 0)), (some (113, true)), [], true⟩,
    ⟨(some 117), .pick (.tmp 113) (.tmp 116) (.const (.bool false)), none, [], true⟩,
    ⟨(some 4), .move (.tmp 117), none, [], true⟩])
  .ret)))))))) }
theorem ir4_eq : funcC Try.prog 4 = some ir4 := by kernel_rfl
/-- wagonway/wagonwaylaw03.alive -/
def ir9 : IFunc :=
{ ntmps := 50, results := [.tmp 0], body :=
  (.seq (.region [
    ⟨(some 0), .move (.const (.bool false)), none, [], true⟩])
  (.seq (.region [
    ⟨(some 5), .call (.const (.func (.func 21) #[] #[])) [], none, [], true⟩,
    ⟨(some 1), .move (.tmp 5), none, [], true⟩])
  (.seq (.region [
    ⟨(some 7), .move (.tmp 1), none, [], true⟩,
    ⟨(some 8), .call (.const (.func (.func 14) #[] #[])) [(.tmp 7)], none, [], true⟩,
    ⟨(some 6), .move (.tmp 8), none, [], true⟩,
    ⟨(some 9), .extract (.tmp 6) 0, none, [], true⟩,
    ⟨(some 10), .extract (.tmp 6) 1, none, [], true⟩,
    ⟨(some 2), .box (.const (.agg #[(.int .i64 0), (.int .i64 0), (.int .i64 0)])), none, [], true⟩,
    ⟨none, .store 3 (.tmp 2) (.tmp 9), none, [], true⟩,
    ⟨(some 3), .move (.tmp 10), none, [], true⟩])
  (.seq (.region [
    ⟨(some 11), .move (.tmp 1), none, [], true⟩,
    ⟨(some 12), .call (.const (.func (.func 18) #[] #[])) [(.tmp 11), (.const (.int .i64 3))], none, [], true⟩,
    ⟨(some 4), .move (.tmp 12), none, [], true⟩])
  (.seq (.drawn [
    ⟨(some 13), .move (.tmp 3), none, [], true⟩,
    ⟨(some 14), .move (.tmp 13), none, [0], true⟩,
    ⟨(some 15), .load (some 3) (.tmp 2), (some (14, true)), [1, 0], true⟩,
    ⟨(some 16), .build [(.int .i64 0), (.int .i64 0), (.int .i64 0)] [(0, 1, (.const (.int .i64 3))), (1, 1, (.const (.int .i64 1))), (2, 1, (.const (.int .i64 3)))], (some (14, true)), [1, 0], false⟩,
    ⟨(some 17), .eqAgg false [.int, .int, .int] (.tmp 15) (.tmp 16), (some (14, true)), [2, 3, 1, 0], true⟩,
    ⟨(some 18), .pick (.tmp 14) (.tmp 17) (.const (.bool false)), none, [1, 4, 0, 2, 3], true⟩,
    ⟨(some 19), .move (.tmp 18), none, [5, 1, 4, 0, 2, 3], true⟩,
    ⟨(some 20), .move (.tmp 4), (some (19, true)), [6, 5, 1, 4, 0, 2, 3], true⟩,
    ⟨(some 21), .lenSlice (.tmp 20), (some (19, true)), [7, 6, 5, 1, 4, 0, 2, 3], true⟩,
    ⟨(some 22), .bin .eql (.tmp 21) (.const (.int .i64 3)), (some (19, true)), [8, 6, 7, 5, 1, 4, 0, 2, 3], true⟩,
    ⟨(some 23), .pick (.tmp 19) (.tmp 22) (.const (.bool false)), none, [6, 9, 5, 1, 4, 0, 2, 3, 8, 7], true⟩,
    ⟨(some 24), .move (.tmp 23), none, [10, 6, 9, 5, 1, 4, 0, 2, 3, 8, 7], true⟩,
    ⟨(some 25), .move (.tmp 4), (some (24, true)), [11, 10, 6, 9, 5, 1, 4, 0, 2, 3, 8, 7], false⟩,
    ⟨(some 26), .indexAddr 3 (.tmp 25) (.const (.int .i64 0)), (some (24, true)), [12, 11, 10, 6, 9, 5, 1, 4, 0, 2, 3, 8, 7], false⟩,
    ⟨(some 27), .load (some 3) (.tmp 26), (some (24, true)), [13, 11, 12, 10, 6, 9, 5, 1, 4, 0, 2, 3, 8, 7], false⟩,
    ⟨(some 28), .load (some 3) (.tmp 2), (some (24, true)), [11, 10, 6, 9, 5, 1, 4, 0, 2, 3, 8, 7], false⟩,
    ⟨(some 29), .eqAgg false [.int, .int, .int] (.tmp 27) (.tmp 28), (some (24, true)), [14, 15, 11, 13, 12, 10, 6, 9, 5, 1, 4, 0, 2, 3, 8, 7], true⟩,
    ⟨(some 30), .pick (.tmp 24) (.tmp 29) (.const (.bool false)), none, [11, 16, 10, 6, 9, 5, 1, 4, 0, 2, 3, 8, 7, 14, 15, 13, 12], true⟩,
    ⟨(some 31), .move (.tmp 30), none, [17, 11, 16, 10, 6, 9, 5, 1, 4, 0, 2, 3, 8, 7, 14, 15, 13, 12], true⟩,
    ⟨(some 32), .move (.tmp 4), (some (31, true)), [18, 17, 11, 16, 10, 6, 9, 5, 1, 4, 0, 2, 3, 8, 7, 14, 15, 13, 12], false⟩,
    ⟨(some 33), .indexAddr 3 (.tmp 32) (.const (.int .i64 1)), (some (31, true)), [19, 18, 17, 11, 16, 10, 6, 9, 5, 1, 4, 0, 2, 3, 8, 7, 14, 15, 13, 12], false⟩,
    ⟨(some 34), .load (some 3) (.tmp 33), (some (31, true)), [20, 18, 19, 17, 11, 16, 10, 6, 9, 5, 1, 4, 0, 2, 3, 8, 7, 14, 15, 13, 12], false⟩,
    ⟨(some 35), .load (some 3) (.tmp 2), (some (31, true)), [18, 17, 11, 16, 10, 6, 9, 5, 1, 4, 0, 2, 3, 8, 7, 14, 15, 13, 12], false⟩,
    ⟨(some 36), .eqAgg false [.int, .int, .int] (.tmp 34) (.tmp 35), (some (31, true)), [21, 22, 18, 20, 19, 17, 11, 16, 10, 6, 9, 5, 1, 4, 0, 2, 3, 8, 7, 14, 15, 13, 12], true⟩,
    ⟨(some 37), .pick (.tmp 31) (.tmp 36) (.const (.bool false)), none, [18, 23, 17, 11, 16, 10, 6, 9, 5, 1, 4, 0, 2, 3, 8, 7, 14, 15, 13, 12, 21, 22, 20, 19], true⟩,
    ⟨(some 38), .move (.tmp 37), none, [24, 18, 23, 17, 11, 16, 10, 6, 9, 5, 1, 4, 0, 2, 3, 8, 7, 14, 15, 13, 12, 21, 22, 20, 19], true⟩,
    ⟨(some 39), .move (.tmp 4), (some (38, true)), [25, 24, 18, 23, 17, 11, 16, 10, 6, 9, 5, 1, 4, 0, 2, 3, 8, 7, 14, 15, 13, 12, 21, 22, 20, 19], true⟩,
    ⟨(some 40), .indexAddr 3 (.tmp 39) (.const (.int .i64 2)), (some (38, true)), [26, 25, 24, 18, 23, 17, 11, 16, 10, 6, 9, 5, 1, 4, 0, 2, 3, 8, 7, 14, 15, 13, 12, 21, 22, 20, 19], true⟩,
    ⟨(some 41), .load (some 3) (.tmp 40), (some (38, true)), [27, 25, 26, 24, 18, 23, 17, 11, 16, 10, 6, 9, 5, 1, 4, 0, 2, 3, 8, 7, 14, 15, 13, 12, 21, 22, 20, 19], true⟩,
    ⟨(some 42), .build [(.int .i64 0), (.int .i64 0), (.int .i64 0)] [(0, 1, (.const (.int .i64 3))), (1, 1, (.const (.int .i64 9))), (2, 1, (.const (.int .i64 2)))], (some (38, true)), [25, 24, 18, 23, 17, 11, 16, 10, 6, 9, 5, 1, 4, 0, 2, 3, 8, 7, 14, 15, 13, 12, 21, 22, 20, 19], false⟩,
    ⟨(some 43), .eqAgg false [.int, .int, .int] (.tmp 41) (.tmp 42), (some (38, true)), [28, 29, 25, 27, 26, 24, 18, 23, 17, 11, 16, 10, 6, 9, 5, 1, 4, 0, 2, 3, 8, 7, 14, 15, 13, 12, 21, 22, 20, 19], true⟩,
    ⟨(some 44), .pick (.tmp 38) (.tmp 43) (.const (.bool false)), none, [25, 30, 24, 18, 23, 17, 11, 16, 10, 6, 9, 5, 1, 4, 0, 2, 3, 8, 7, 14, 15, 13, 12, 21, 22, 20, 19, 28, 29, 27, 26], true⟩,
    ⟨(some 45), .move (.tmp 44), none, [31, 25, 30, 24, 18, 23, 17, 11, 16, 10, 6, 9, 5, 1, 4, 0, 2, 3, 8, 7, 14, 15, 13, 12, 21, 22, 20, 19, 28, 29, 27, 26], true⟩,
    ⟨(some 46), .move (.tmp 1), (some (45, true)), [32, 31, 25, 30, 24, 18, 23, 17, 11, 16, 10, 6, 9, 5, 1, 4, 0, 2, 3, 8, 7, 14, 15, 13, 12, 21, 22, 20, 19, 28, 29, 27, 26], true⟩,
    ⟨(some 47), .call (.const (.func (.func 13) #[] #[])) [(.tmp 46)], (some (45, true)), [33, 32, 31, 25, 30, 24, 18, 23, 17, 11, 16, 10, 6, 9, 5, 1, 4, 0, 2, 3, 8, 7, 14, 15, 13, 12, 21, 22, 20, 19, 28, 29, 27, 26], true⟩,
    ⟨(some 48), .bin .eql (.tmp 47) (.const (.int .i64 1)), (some (45, true)), [34, 32, 33, 31, 25, 30, 24, 18, 23, 17, 11, 16, 10, 6, 9, 5, 1, 4, 0, 2, 3, 8, 7, 14, 15, 13, 12, 21, 22, 20, 19, 28, 29, 27, 26], true⟩,
    ⟨(some 49), .pick (.tmp 45) (.tmp 48) (.const (.bool false)), none, [32, 35, 31, 25, 30, 24, 18, 23, 17, 11, 16, 10, 6, 9, 5, 1, 4, 0, 2, 3, 8, 7, 14, 15, 13, 12, 21, 22, 20, 19, 28, 29, 27, 26, 34, 33], true⟩,
    ⟨(some 0), .move (.tmp 49), none, [36, 34, 0, 1, 2, 3, 4, 5, 6, 7, 8, 9, 10, 11, 12, 13, 14, 15, 16, 17, 18, 19, 20, 21, 22, 23, 24, 25, 26, 27, 28, 29, 30, 31, 32, 33, 35], true⟩])
  .ret))))) }
theorem ir9_eq : funcC Try.prog 9 = some ir9 := by kernel_rfl
/-- (*wagonway/pile.Pile).Push -/
def ir10 : IFunc :=
{ ntmps := 60, results := [], body :=
  (.seq (.region [
    ⟨(some 3), .box (.tmp 1), none, [], true⟩])
  (.seq (.seq (.region [
    ⟨(some 6), .move (.tmp 0), none, [], true⟩,
    ⟨(some 7), .eqPtr false (.tmp 6) (.const (.pointer none)), none, [], true⟩])
  (.cond (.tmp 7)
   .ret
   .skip))
  (.seq (.drawn [
    ⟨(some 8), .move (.tmp 0), none, [], false⟩,
    ⟨(some 9), .move (.tmp 0), none, [], false⟩,
    ⟨(some 10), .nilCheck (.tmp 9), none, [1], false⟩,
    ⟨(some 11), .fieldAddr 0 (.tmp 10), none, [2, 1], false⟩,
    ⟨(some 12), .load none (.tmp 11), none, [3, 2, 1], false⟩,
    ⟨(some 13), .load (some 3) (.tmp 3), none, [], false⟩,
    ⟨(some 14), .buildSlice 3 1 [(.int .i64 0), (.int .i64 0), (.int .i64 0)] [(0, (.tmp 13))], none, [5], false⟩,
    ⟨(some 15), .append 3 24 (.tmp 12) (.tmp 14), none, [4, 6, 3, 2, 1, 5], true⟩,
    ⟨(some 16), .nilCheck (.tmp 8), none, [0, 1, 2, 3, 4, 5, 6, 7], true⟩,
    ⟨(some 17), .fieldAddr 0 (.tmp 16), none, [8, 0, 1, 2, 3, 4, 5, 6, 7], true⟩,
    ⟨none, .store 1 (.tmp 17) (.tmp 15), none, [9, 7, 0, 1, 2, 3, 4, 5, 6, 8], true⟩])
  (.seq (.region [
    ⟨(some 18), .move (.tmp 0), none, [], true⟩,
    ⟨(some 19), .nilCheck (.tmp 18), none, [], true⟩,
    ⟨(some 20), .fieldAddr 0 (.tmp 19), none, [], true⟩,
    ⟨(some 21), .load none (.tmp 20), none, [], true⟩,
    ⟨(some 22), .lenSlice (.tmp 21), none, [], true⟩,
    ⟨(some 23), .bin .sub (.tmp 22) (.const (.int .i64 1)), none, [], true⟩,
    ⟨(some 4), .move (.tmp 23), none, [], true⟩])
  (.seq .skip
  (.seq (.block 0 (.loop (.seq (.seq (.region [
    ⟨(some 24), .move (.tmp 4), none, [], true⟩,
    ⟨(some 25), .bin .gtr (.tmp 24) (.const (.int .i64 0)), none, [], true⟩])
  (.cond (.tmp 25)
   .skip
   (.exit 0)))
  (.block 1 (.seq (.region [
    ⟨(some 26), .move (.tmp 4), none, [], true⟩,
    ⟨(some 27), .bin .sub (.tmp 26) (.const (.int .i64 1)), none, [], true⟩,
    ⟨(some 28), .bin .quo (.tmp 27) (.const (.int .i64 2)), none, [], true⟩,
    ⟨(some 5), .move (.tmp 28), none, [], true⟩])
  (.seq (.seq (.drawn [
    ⟨(some 29), .move (.tmp 0), none, [], false⟩,
    ⟨(some 30), .nilCheck (.tmp 29), none, [0], false⟩,
    ⟨(some 31), .fieldAddr 0 (.tmp 30), none, [1, 0], false⟩,
    ⟨(some 32), .load none (.tmp 31), none, [2, 1, 0], false⟩,
    ⟨(some 33), .move (.tmp 5), none, [], false⟩,
    ⟨(some 34), .indexAddr 3 (.tmp 32) (.tmp 33), none, [3, 4, 2, 1, 0], false⟩,
    ⟨(some 35), .load (some 3) (.tmp 34), none, [5, 3, 4, 2, 1, 0], false⟩,
    ⟨(some 36), .load (some 3) (.tmp 3), none, [], false⟩,
    ⟨(some 37), .call (.const (.func (.func 22) #[] #[])) [(.tmp 35), (.tmp 36)], none, [6, 7, 5, 3, 4, 2, 1, 0], true⟩,
    ⟨(some 38), .bin .leq (.tmp 37) (.const (.int .i64 0)), none, [8, 6, 7, 5, 3, 4, 2, 1, 0], true⟩])
  (.cond (.tmp 38)
   (.exit 0)
   .skip))
  (.seq (.drawn [
    ⟨(some 39), .move (.tmp 0), none, [], false⟩,
    ⟨(some 40), .nilCheck (.tmp 39), none, [0], false⟩,
    ⟨(some 41), .fieldAddr 0 (.tmp 40), none, [1, 0], false⟩,
    ⟨(some 42), .load none (.tmp 41), none, [2, 1, 0], false⟩,
    ⟨(some 43), .move (.tmp 4), none, [], false⟩,
    ⟨(some 44), .move (.tmp 0), none, [], false⟩,
    ⟨(some 45), .nilCheck (.tmp 44), none, [5], false⟩,
    ⟨(some 46), .fieldAddr 0 (.tmp 45), none, [6, 5], false⟩,
    ⟨(some 47), .load none (.tmp 46), none, [7, 6, 5], false⟩,
    ⟨(some 48), .move (.tmp 5), none, [], false⟩,
    ⟨(some 49), .indexAddr 3 (.tmp 47) (.tmp 48), none, [8, 9, 7, 6, 5], false⟩,
    ⟨(some 50), .load (some 3) (.tmp 49), none, [10, 8, 9, 7, 6, 5], false⟩,
    ⟨(some 51), .indexAddr 3 (.tmp 42) (.tmp 43), none, [3, 4, 0, 1, 2, 5, 6, 7, 8, 9, 10, 11], true⟩,
    ⟨none, .store 3 (.tmp 51) (.tmp 50), none, [12, 11, 0, 1, 2, 3, 4, 5, 6, 7, 8, 9, 10], true⟩])
  (.region [
    ⟨(some 52), .move (.tmp 5), none, [], true⟩,
    ⟨(some 4), .move (.tmp 52), none, [], true⟩]))))))))
  (.drawn [
    ⟨(some 53), .move (.tmp 0), none, [], false⟩,
    ⟨(some 54), .nilCheck (.tmp 53), none, [0], false⟩,
    ⟨(some 55), .fieldAddr 0 (.tmp 54), none, [1, 0], false⟩,
    ⟨(some 56), .load none (.tmp 55), none, [2, 1, 0], false⟩,
    ⟨(some 57), .move (.tmp 4), none, [], false⟩,
    ⟨(some 58), .load (some 3) (.tmp 3), none, [], false⟩,
    ⟨(some 59), .indexAddr 3 (.tmp 56) (.tmp 57), none, [3, 4, 0, 1, 2, 5], true⟩,
    ⟨none, .store 3 (.tmp 59) (.tmp 58), none, [6, 5, 0, 1, 2, 3, 4], true⟩]))))))) }
theorem ir10_eq : funcC Try.prog 10 = some ir10 := by kernel_rfl
/-- (*wagonway/pile.Pile).Pop -/
def ir11 : IFunc :=
{ ntmps := 50, results := [.cell 2 (some 3), .tmp 3], body :=
  (.seq (.region [
    ⟨(some 2), .box (.const (.agg #[(.int .i64 0), (.int .i64 0), (.int .i64 0)])), none, [], true⟩,
    ⟨(some 3), .move (.const (.bool false)), none, [], true⟩])
  (.seq (.region [
    ⟨(some 8), .move (.tmp 0), none, [], true⟩,
    ⟨(some 9), .call (.const (.func (.func 14) #[] #[])) [(.tmp 8)], none, [], true⟩,
    ⟨(some 7), .move (.tmp 9), none, [], true⟩,
    ⟨(some 10), .extract (.tmp 7) 0, none, [], true⟩,
    ⟨(some 11), .extract (.tmp 7) 1, none, [], true⟩,
    ⟨(some 4), .box (.const (.agg #[(.int .i64 0), (.int .i64 0), (.int .i64 0)])), none, [], true⟩,
    ⟨none, .store 3 (.tmp 4) (.tmp 10), none, [], true⟩,
    ⟨(some 5), .move (.tmp 11), none, [], true⟩])
  (.seq (.seq (.region [
    ⟨(some 12), .move (.tmp 5), none, [], true⟩])
  (.cond (.tmp 12)
   (.seq (.drawn [
     ⟨(some 13), .move (.tmp 0), none, [], false⟩,
     ⟨(some 14), .nilCheck (.tmp 13), none, [0], false⟩,
     ⟨(some 15), .fieldAddr 0 (.tmp 14), none, [1, 0], false⟩,
     ⟨(some 16), .load none (.tmp 15), none, [2, 1, 0], false⟩,
     ⟨(some 17), .move (.tmp 0), none, [], false⟩,
     ⟨(some 18), .nilCheck (.tmp 17), none, [4], false⟩,
     ⟨(some 19), .fieldAddr 0 (.tmp 18), none, [5, 4], false⟩,
     ⟨(some 20), .load none (.tmp 19), none, [6, 5, 4], false⟩,
     ⟨(some 21), .lenSlice (.tmp 20), none, [7, 6, 5, 4], false⟩,
     ⟨(some 22), .bin .sub (.tmp 21) (.const (.int .i64 1)), none, [8, 7, 6, 5, 4], false⟩,
     ⟨(some 23), .indexAddr 3 (.tmp 16) (.tmp 22), none, [3, 9, 2, 1, 0, 8, 7, 6, 5, 4], false⟩,
     ⟨(some 24), .load (some 3) (.tmp 23), none, [10, 3, 9, 2, 1, 0, 8, 7, 6, 5, 4], false⟩,
     ⟨(some 6), .box (.const (.agg #[(.int .i64 0), (.int .i64 0), (.int .i64 0)])), none, [], false⟩,
     ⟨none, .store 3 (.tmp 6) (.tmp 24), none, [12, 11, 0, 1, 2, 3, 4, 5, 6, 7, 8, 9, 10], true⟩])
   (.seq (.drawn [
     ⟨(some 25), .move (.tmp 0), none, [], false⟩,
     ⟨(some 26), .move (.tmp 0), none, [], false⟩,
     ⟨(some 27), .nilCheck (.tmp 26), none, [1], false⟩,
     ⟨(some 28), .fieldAddr 0 (.tmp 27), none, [2, 1], false⟩,
     ⟨(some 29), .load none (.tmp 28), none, [3, 2, 1], false⟩,
     ⟨(some 30), .move (.tmp 0), none, [], false⟩,
     ⟨(some 31), .nilCheck (.tmp 30), none, [5], false⟩,
     ⟨(some 32), .fieldAddr 0 (.tmp 31), none, [6, 5], false⟩,
     ⟨(some 33), .load none (.tmp 32), none, [7, 6, 5], false⟩,
     ⟨(some 34), .lenSlice (.tmp 33), none, [8, 7, 6, 5], false⟩,
     ⟨(some 35), .bin .sub (.tmp 34) (.const (.int .i64 1)), none, [9, 8, 7, 6, 5], false⟩,
     ⟨(some 36), .slice 3 (.tmp 29) none (some (.tmp 35)) none, none, [4, 10, 3, 2, 1, 9, 8, 7, 6, 5], true⟩,
     ⟨(some 37), .nilCheck (.tmp 25), none, [0, 1, 2, 3, 4, 5, 6, 7, 8, 9, 10, 11], true⟩,
     ⟨(some 38), .fieldAddr 0 (.tmp 37), none, [12, 0, 1, 2, 3, 4, 5, 6, 7, 8, 9, 10, 11], true⟩,
     ⟨none, .store 1 (.tmp 38) (.tmp 36), none, [13, 11, 0, 1, 2, 3, 4, 5, 6, 7, 8, 9, 10, 12], true⟩])
   (.seq (.region [
     ⟨(some 39), .move (.tmp 0), none, [], true⟩,
     ⟨(some 40), .nilCheck (.tmp 39), none, [], true⟩,
     ⟨(some 41), .fieldAddr 0 (.tmp 40), none, [], true⟩,
     ⟨(some 42), .load none (.tmp 41), none, [], true⟩,
     ⟨(some 43), .lenSlice (.tmp 42), none, [], true⟩,
     ⟨(some 44), .bin .gtr (.tmp 43) (.const (.int .i64 0)), none, [], true⟩])
   (.cond (.tmp 44)
    (.region [
      ⟨(some 45), .move (.tmp 0), none, [], true⟩,
      ⟨(some 46), .load (some 3) (.tmp 6), none, [], true⟩,
      ⟨(some 47), .call (.const (.func (.func 23) #[] #[])) [(.tmp 45), (.tmp 46)], none, [], true⟩])
    .skip))))
   .skip))
  (.seq (.region [
    ⟨(some 48), .load (some 3) (.tmp 4), none, [], true⟩,
    ⟨(some 49), .move (.tmp 5), none, [], true⟩,
    ⟨none, .store 3 (.tmp 2) (.tmp 48), none, [], true⟩,
    ⟨(some 3), .move (.tmp 49), none, [], true⟩])
  .ret)))) }
theorem ir11_eq : funcC Try.prog 11 = some ir11 := by kernel_rfl
/-- wagonway/wagonwayref03.Ahead -/
def ir12 : IFunc :=
{ ntmps := 30, results := [.tmp 4], body :=
  (.seq (.region [
    ⟨(some 2), .box (.tmp 0), none, [], true⟩,
    ⟨(some 3), .box (.tmp 1), none, [], true⟩,
    ⟨(some 4), .move (.const (.bool false)), none, [], true⟩])
  (.seq (.seq (.region [
    ⟨(some 5), .fieldAddr 0 (.tmp 2), none, [], true⟩,
    ⟨(some 6), .load none (.tmp 5), none, [], true⟩,
    ⟨(some 7), .fieldAddr 0 (.tmp 3), none, [], true⟩,
    ⟨(some 8), .load none (.tmp 7), none, [], true⟩,
    ⟨(some 9), .bin .neq (.tmp 6) (.tmp 8), none, [], true⟩])
  (.cond (.tmp 9)
   (.seq (.region [
     ⟨(some 10), .fieldAddr 0 (.tmp 2), none, [], true⟩,
     ⟨(some 11), .load none (.tmp 10), none, [], true⟩,
     ⟨(some 12), .fieldAddr 0 (.tmp 3), none, [], true⟩,
     ⟨(some 13), .load none (.tmp 12), none, [], true⟩,
     ⟨(some 14), .bin .lss (.tmp 11) (.tmp 13), none, [], true⟩,
     ⟨(some 4), .move (.tmp 14), none, [], true⟩])
   .ret)
   .skip))
  (.seq (.seq (.region [
    ⟨(some 15), .fieldAddr 1 (.tmp 2), none, [], true⟩,
    ⟨(some 16), .load none (.tmp 15), none, [], true⟩,
    ⟨(some 17), .fieldAddr 1 (.tmp 3), none, [], true⟩,
    ⟨(some 18), .load none (.tmp 17), none, [], true⟩,
    ⟨(some 19), .bin .neq (.tmp 16) (.tmp 18), none, [], true⟩])
  (.cond (.tmp 19)
   (.seq (.region [
     ⟨(some 20), .fieldAddr 1 (.tmp 2), none, [], true⟩,
     ⟨(some 21), .load none (.tmp 20), none, [], true⟩,
     ⟨(some 22), .fieldAddr 1 (.tmp 3), none, [], true⟩,
     ⟨(some 23), .load none (.tmp 22), none, [], true⟩,
     ⟨(some 24), .bin .lss (.tmp 21) (.tmp 23), none, [], true⟩,
     ⟨(some 4), .move (.tmp 24), none, [], true⟩])
   .ret)
   .skip))
  (.seq (.region [
    ⟨(some 25), .fieldAddr 2 (.tmp 2), none, [], true⟩,
    ⟨(some 26), .load none (.tmp 25), none, [], true⟩,
    ⟨(some 27), .fieldAddr 2 (.tmp 3), none, [], true⟩,
    ⟨(some 28), .load none (.tmp 27), none, [], true⟩,
    ⟨(some 29), .bin .lss (.tmp 26) (.tmp 28), none, [], true⟩,
    ⟨(some 4), .move (.tmp 29), none, [], true⟩])
  .ret)))) }
theorem ir12_eq : funcC Try.prog 12 = some ir12 := by kernel_rfl
/-- (*wagonway/pile.Pile).Len -/
def ir13 : IFunc :=
{ ntmps := 10, results := [.tmp 2], body :=
  (.seq (.region [
    ⟨(some 2), .move (.const (.int .i64 0)), none, [], true⟩])
  (.seq (.seq (.region [
    ⟨(some 3), .move (.tmp 0), none, [], true⟩,
    ⟨(some 4), .eqPtr false (.tmp 3) (.const (.pointer none)), none, [], true⟩])
  (.cond (.tmp 4)
   (.seq (.region [
     ⟨(some 2), .move (.const (.int .i64 0)), none, [], true⟩])
   .ret)
   .skip))
  (.seq (.region [
    ⟨(some 5), .move (.tmp 0), none, [], true⟩,
    ⟨(some 6), .nilCheck (.tmp 5), none, [], true⟩,
    ⟨(some 7), .fieldAddr 0 (.tmp 6), none, [], true⟩,
    ⟨(some 8), .load none (.tmp 7), none, [], true⟩,
    ⟨(some 9), .lenSlice (.tmp 8), none, [], true⟩,
    ⟨(some 2), .move (.tmp 9), none, [], true⟩])
  .ret))) }
theorem ir13_eq : funcC Try.prog 13 = some ir13 := by kernel_rfl
/-- (*wagonway/pile.Pile).Top -/
def ir14 : IFunc :=
{ ntmps := 14, results := [.cell 2 (some 3), .tmp 3], body :=
  (.seq (.region [
    ⟨(some 2), .box (.const (.agg #[(.int .i64 0), (.int .i64 0), (.int .i64 0)])), none, [], true⟩,
    ⟨(some 3), .move (.const (.bool false)), none, [], true⟩])
  (.seq (.seq (.region [
    ⟨(some 4), .move (.tmp 0), none, [], true⟩,
    ⟨(some 5), .call (.const (.func (.func 13) #[] #[])) [(.tmp 4)], none, [], true⟩,
    ⟨(some 6), .bin .eql (.tmp 5) (.const (.int .i64 0)), none, [], true⟩])
  (.cond (.tmp 6)
   (.seq (.region [
     ⟨(some 7), .build [(.int .i64 0), (.int .i64 0), (.int .i64 0)] [], none, [], true⟩,
     ⟨none, .store 3 (.tmp 2) (.tmp 7), none, [], true⟩,
     ⟨(some 3), .move (.const (.bool false)), none, [], true⟩])
   .ret)
   .skip))
  (.seq (.region [
    ⟨(some 8), .move (.tmp 0), none, [], true⟩,
    ⟨(some 9), .nilCheck (.tmp 8), none, [], true⟩,
    ⟨(some 10), .fieldAddr 0 (.tmp 9), none, [], true⟩,
    ⟨(some 11), .load none (.tmp 10), none, [], true⟩,
    ⟨(some 12), .indexAddr 3 (.tmp 11) (.const (.int .i64 0)), none, [], true⟩,
    ⟨(some 13), .load (some 3) (.tmp 12), none, [], true⟩,
    ⟨none, .store 3 (.tmp 2) (.tmp 13), none, [], true⟩,
    ⟨(some 3), .move (.const (.bool true)), none, [], true⟩])
  .ret))) }
theorem ir14_eq : funcC Try.prog 14 = some ir14 := by kernel_rfl
/-- (*wagonway/pile.Pile).Least -/
def ir18 : IFunc :=
{ ntmps := 21, results := [.tmp 4], body :=
  (.seq (.region [
    ⟨(some 3), .box (.tmp 1), none, [], true⟩,
    ⟨(some 4), .move (.const (.slice none 0 0)), none, [], true⟩])
  (.seq (.region [
    ⟨(some 5), .box (.const (.slice none 0 0)), none, [], true⟩])
  (.seq (.seq (.region [
    ⟨(some 7), .load none (.tmp 3), none, [], true⟩,
    ⟨(some 8), .bin .lss (.tmp 7) (.const (.int .i64 1)), none, [], true⟩])
  (.cond (.tmp 8)
   (.seq (.region [
     ⟨(some 4), .move (.const (.slice none 0 0)), none, [], true⟩])
   .ret)
   .skip))
  (.seq (.seq (.region [
    ⟨(some 9), .move (.tmp 0), none, [], true⟩,
    ⟨(some 10), .call (.const (.func (.func 24) #[] #[])) [(.tmp 9)], none, [], true⟩])
  (.block 0 (.rangeFunc (.tmp 10) [11]
   (.region [
     ⟨(some 6), .box (.const (.agg #[(.int .i64 0), (.int .i64 0), (.int .i64 0)])), none, [], true⟩,
     ⟨none, .store 3 (.tmp 6) (.tmp 11), none, [], true⟩])
   (.block 1 (.seq (.region [
     ⟨(some 12), .load none (.tmp 5), none, [], true⟩,
     ⟨(some 13), .load (some 3) (.tmp 6), none, [], true⟩,
     ⟨(some 14), .buildSlice 3 1 [(.int .i64 0), (.int .i64 0), (.int .i64 0)] [(0, (.tmp 13))], none, [], true⟩,
     ⟨(some 15), .append 3 24 (.tmp 12) (.tmp 14), none, [], true⟩,
     ⟨none, .store 1 (.tmp 5) (.tmp 15), none, [], true⟩])
   (.seq (.region [
     ⟨(some 16), .load none (.tmp 5), none, [], true⟩,
     ⟨(some 17), .lenSlice (.tmp 16), none, [], true⟩,
     ⟨(some 18), .load none (.tmp 3), none, [], true⟩,
     ⟨(some 19), .bin .eql (.tmp 17) (.tmp 18), none, [], true⟩])
   (.cond (.tmp 19)
    (.exit 0)
    .skip)))))))
  (.seq (.region [
    ⟨(some 20), .load none (.tmp 5), none, [], true⟩,
    ⟨(some 4), .move (.tmp 20), none, [], true⟩])
  .ret))))) }
theorem ir18_eq : funcC Try.prog 18 = some ir18 := by kernel_rfl
/-- wagonway/wagonwaylaw03.some -/
def ir21 : IFunc :=
{ ntmps := 21, results := [.tmp 0], body :=
  (.seq (.region [
    ⟨(some 0), .move (.const (.pointer none)), none, [], true⟩])
  (.seq (.region [
    ⟨(some 4), .build [(.slice none 0 0)] [], none, [], true⟩,
    ⟨(some 5), .box (.tmp 4), none, [], true⟩,
    ⟨(some 1), .move (.tmp 5), none, [], true⟩])
  (.seq (.seq (.region [
    ⟨(some 6), .build [(.int .i64 0), (.int .i64 0), (.int .i64 0)] [(0, 1, (.const (.int .i64 5))), (2, 1, (.const (.int .i64 1)))], none, [], true⟩,
    ⟨(some 7), .build [(.int .i64 0), (.int .i64 0), (.int .i64 0)] [(0, 1, (.const (.int .i64 3))), (1, 1, (.const (.int .i64 9))), (2, 1, (.const (.int .i64 2)))], none, [], true⟩,
    ⟨(some 8), .build [(.int .i64 0), (.int .i64 0), (.int .i64 0)] [(0, 1, (.const (.int .i64 3))), (1, 1, (.const (.int .i64 1))), (2, 1, (.const (.int .i64 3)))], none, [], true⟩,
    ⟨(some 9), .build [(.int .i64 0), (.int .i64 0), (.int .i64 0)] [(0, 1, (.const (.int .i64 3))), (1, 1, (.const (.int .i64 1))), (2, 1, (.const (.int .i64 3)))], none, [], true⟩,
    ⟨(some 10), .buildSlice 3 4 [(.int .i64 0), (.int .i64 0), (.int .i64 0)] [(0, (.tmp 6)), (1, (.tmp 7)), (2, (.tmp 8)), (3, (.tmp 9))], none, [], true⟩,
    ⟨(some 11), .lenSlice (.tmp 10), none, [], true⟩,
    ⟨(some 12), .move (.const (.int .i64 0)), none, [], true⟩])
  (.block 0 (.loop (.seq (.region [
    ⟨(some 13), .bin .lss (.tmp 12) (.tmp 11), none, [], true⟩])
  (.seq (.cond (.tmp 13)
   .skip
   (.exit 0))
  (.seq (.block 1 (.seq (.region [
    ⟨(some 14), .indexAddr 3 (.tmp 10) (.tmp 12), none, [], true⟩,
    ⟨(some 15), .load (some 3) (.tmp 14), none, [], true⟩,
    ⟨(some 3), .box (.const (.agg #[(.int .i64 0), (.int .i64 0), (.int .i64 0)])), none, [], true⟩,
    ⟨none, .store 3 (.tmp 3) (.tmp 15), none, [], true⟩])
  (.region [
    ⟨(some 16), .move (.tmp 1), none, [], true⟩,
    ⟨(some 17), .load (some 3) (.tmp 3), none, [], true⟩,
    ⟨(some 18), .call (.const (.func (.func 10) #[] #[])) [(.tmp 16), (.tmp 17)], none, [], true⟩])))
  (.region [
    ⟨(some 19), .bin .add (.tmp 12) (.const (.int .i64 1)), none, [], true⟩,
    ⟨(some 12), .move (.tmp 19), none, [], true⟩])))))))
  (.seq (.region [
    ⟨(some 20), .move (.tmp 1), none, [], true⟩,
    ⟨(some 0), .move (.tmp 20), none, [], true⟩])
  .ret)))) }
theorem ir21_eq : funcC Try.prog 21 = some ir21 := by kernel_rfl
/-- wagonway/pile.compare -/
def ir22 : IFunc :=
{ ntmps := 22, results := [.tmp 4], body :=
  (.seq (.region [
    ⟨(some 2), .box (.tmp 0), none, [], true⟩,
    ⟨(some 3), .box (.tmp 1), none, [], true⟩,
    ⟨(some 4), .move (.const (.int .i64 0)), none, [], true⟩])
  (.seq (.drawn [
    ⟨(some 5), .fieldAddr 0 (.tmp 2), none, [], false⟩,
    ⟨(some 6), .load none (.tmp 5), none, [0], false⟩,
    ⟨(some 7), .fieldAddr 0 (.tmp 3), none, [], false⟩,
    ⟨(some 8), .load none (.tmp 7), none, [2], false⟩,
    ⟨(some 9), .call (.const (.func (.func 29) #[] #[])) [(.tmp 6), (.tmp 8)], none, [1, 3, 0, 2], false⟩,
    ⟨(some 10), .fieldAddr 1 (.tmp 2), none, [], false⟩,
    ⟨(some 11), .load none (.tmp 10), none, [5], false⟩,
    ⟨(some 12), .fieldAddr 1 (.tmp 3), none, [], false⟩,
    ⟨(some 13), .load none (.tmp 12), none, [7], false⟩,
    ⟨(some 14), .call (.const (.func (.func 29) #[] #[])) [(.tmp 11), (.tmp 13)], none, [6, 8, 4, 5, 7, 1, 3, 0, 2], false⟩,
    ⟨(some 15), .fieldAddr 2 (.tmp 2), none, [], false⟩,
    ⟨(some 16), .load none (.tmp 15), none, [10], false⟩,
    ⟨(some 17), .fieldAddr 2 (.tmp 3), none, [], false⟩,
    ⟨(some 18), .load none (.tmp 17), none, [12], false⟩,
    ⟨(some 19), .call (.const (.func (.func 29) #[] #[])) [(.tmp 16), (.tmp 18)], none, [11, 13, 9, 10, 12, 6, 8, 4, 5, 7, 1, 3, 0, 2], true⟩,
    ⟨(some 20), .buildSlice 1 3 [(.int .i64 0)] [(0, (.tmp 9)), (1, (.tmp 14)), (2, (.tmp 19))], none, [4, 9, 14, 1, 3, 0, 2, 6, 8, 5, 7, 11, 13, 10, 12], true⟩,
    ⟨(some 21), .call (.const (.func (.func 28) #[] #[])) [(.tmp 20)], none, [15, 14, 4, 9, 1, 3, 0, 2, 6, 8, 5, 7, 11, 13, 10, 12], true⟩,
    ⟨(some 4), .move (.tmp 21), none, [16, 0, 1, 2, 3, 4, 5, 6, 7, 8, 9, 10, 11, 12, 13, 14, 15], true⟩])
  .ret)) }
theorem ir22_eq : funcC Try.prog 22 = some ir22 := by kernel_rfl
/-- (*wagonway/pile.Pile).down -/
def ir23 : IFunc :=
{ ntmps := 78, results := [], body :=
  (.seq (.region [
    ⟨(some 3), .box (.tmp 1), none, [], true⟩])
  (.seq (.region [
    ⟨(some 4), .move (.const (.int .i64 0)), none, [], true⟩])
  (.seq .skip
  (.seq (.block 0 (.loop (.seq (.seq (.region [
    ⟨(some 6), .move (.tmp 4), none, [], true⟩,
    ⟨(some 7), .bin .mul (.const (.int .i64 2)) (.tmp 6), none, [], true⟩,
    ⟨(some 8), .bin .add (.tmp 7) (.const (.int .i64 1)), none, [], true⟩,
    ⟨(some 9), .move (.tmp 0), none, [], true⟩,
    ⟨(some 10), .nilCheck (.tmp 9), none, [], true⟩,
    ⟨(some 11), .fieldAddr 0 (.tmp 10), none, [], true⟩,
    ⟨(some 12), .load none (.tmp 11), none, [], true⟩,
    ⟨(some 13), .lenSlice (.tmp 12), none, [], true⟩,
    ⟨(some 14), .bin .lss (.tmp 8) (.tmp 13), none, [], true⟩])
  (.cond (.tmp 14)
   .skip
   (.exit 0)))
  (.block 1 (.seq (.region [
    ⟨(some 15), .move (.tmp 4), none, [], true⟩,
    ⟨(some 16), .bin .mul (.const (.int .i64 2)) (.tmp 15), none, [], true⟩,
    ⟨(some 17), .bin .add (.tmp 16) (.const (.int .i64 1)), none, [], true⟩,
    ⟨(some 5), .move (.tmp 17), none, [], true⟩])
  (.seq (.seq (.drawn [
    ⟨(some 18), .move (.tmp 5), none, [], false⟩,
    ⟨(some 19), .bin .add (.tmp 18) (.const (.int .i64 1)), none, [0], false⟩,
    ⟨(some 20), .move (.tmp 0), none, [], true⟩,
    ⟨(some 21), .nilCheck (.tmp 20), none, [2], true⟩,
    ⟨(some 22), .fieldAddr 0 (.tmp 21), none, [3, 2], true⟩,
    ⟨(some 23), .load none (.tmp 22), none, [4, 3, 2], true⟩,
    ⟨(some 24), .lenSlice (.tmp 23), none, [5, 4, 3, 2], true⟩,
    ⟨(some 25), .bin .lss (.tmp 19) (.tmp 24), none, [1, 6, 0, 5, 4, 3, 2], true⟩,
    ⟨(some 26), .move (.tmp 25), none, [7, 1, 6, 0, 5, 4, 3, 2], true⟩,
    ⟨(some 27), .move (.tmp 0), (some (26, true)), [8, 7, 1, 6, 0, 5, 4, 3, 2], false⟩,
    ⟨(some 28), .nilCheck (.tmp 27), (some (26, true)), [9, 8, 7, 1, 6, 0, 5, 4, 3, 2], false⟩,
    ⟨(some 29), .fieldAddr 0 (.tmp 28), (some (26, true)), [10, 8, 9, 7, 1, 6, 0, 5, 4, 3, 2], false⟩,
    ⟨(some 30), .load none (.tmp 29), (some (26, true)), [11, 8, 10, 9, 7, 1, 6, 0, 5, 4, 3, 2], false⟩,
    ⟨(some 31), .move (.tmp 5), (some (26, true)), [8, 7, 1, 6, 0, 5, 4, 3, 2], false⟩,
    ⟨(some 32), .bin .add (.tmp 31) (.const (.int .i64 1)), (some (26, true)), [13, 8, 7, 1, 6, 0, 5, 4, 3, 2], false⟩,
    ⟨(some 33), .indexAddr 3 (.tmp 30) (.tmp 32), (some (26, true)), [12, 14, 8, 11, 10, 9, 7, 1, 6, 0, 5, 4, 3, 2, 13], false⟩,
    ⟨(some 34), .load (some 3) (.tmp 33), (some (26, true)), [15, 8, 12, 14, 11, 10, 9, 7, 1, 6, 0, 5, 4, 3, 2, 13], false⟩,
    ⟨(some 35), .move (.tmp 0), (some (26, true)), [8, 7, 1, 6, 0, 5, 4, 3, 2], false⟩,
    ⟨(some 36), .nilCheck (.tmp 35), (some (26, true)), [17, 8, 7, 1, 6, 0, 5, 4, 3, 2], false⟩,
    ⟨(some 37), .fieldAddr 0 (.tmp 36), (some (26, true)), [18, 8, 17, 7, 1, 6, 0, 5, 4, 3, 2], false⟩,
    ⟨(some 38), .load none (.tmp 37), (some (26, true)), [19, 8, 18, 17, 7, 1, 6, 0, 5, 4, 3, 2], false⟩,
    ⟨(some 39), .move (.tmp 5), (some (26, true)), [8, 7, 1, 6, 0, 5, 4, 3, 2], false⟩,
    ⟨(some 40), .indexAddr 3 (.tmp 38) (.tmp 39), (some (26, true)), [20, 21, 8, 19, 18, 17, 7, 1, 6, 0, 5, 4, 3, 2], false⟩,
    ⟨(some 41), .load (some 3) (.tmp 40), (some (26, true)), [22, 8, 20, 21, 19, 18, 17, 7, 1, 6, 0, 5, 4, 3, 2], false⟩,
    ⟨(some 42), .call (.const (.func (.func 22) #[] #[])) [(.tmp 34), (.tmp 41)], (some (26, true)), [16, 23, 8, 15, 12, 14, 11, 10, 9, 7, 1, 6, 0, 5, 4, 3, 2, 13, 22, 20, 21, 19, 18, 17], true⟩,
    ⟨(some 43), .bin .lss (.tmp 42) (.const (.int .i64 0)), (some (26, true)), [24, 8, 16, 23, 15, 12, 14, 11, 10, 9, 7, 1, 6, 0, 5, 4, 3, 2, 13, 22, 20, 21, 19, 18, 17], true⟩,
    ⟨(some 44), .pick (.tmp 26) (.tmp 43) (.const (.bool false)), none, [8, 25, 7, 1, 6, 0, 5, 4, 3, 2, 24, 16, 23, 15, 12, 14, 11, 10, 9, 13, 22, 20, 21, 19, 18, 17], true⟩])
  (.cond (.tmp 44)
   (.region [
     ⟨(some 45), .move (.tmp 5), none, [], true⟩,
     ⟨(some 46), .bin .add (.tmp 45) (.const (.int .i64 1)), none, [], true⟩,
     ⟨(some 5), .move (.tmp 46), none, [], true⟩])
   .skip))
  (.seq (.seq (.drawn [
    ⟨(some 47), .load (some 3) (.tmp 3), none, [], false⟩,
    ⟨(some 48), .move (.tmp 0), none, [], false⟩,
    ⟨(some 49), .nilCheck (.tmp 48), none, [1], false⟩,
    ⟨(some 50), .fieldAddr 0 (.tmp 49), none, [2, 1], false⟩,
    ⟨(some 51), .load none (.tmp 50), none, [3, 2, 1], false⟩,
    ⟨(some 52), .move (.tmp 5), none, [], false⟩,
    ⟨(some 53), .indexAddr 3 (.tmp 51) (.tmp 52), none, [4, 5, 3, 2, 1], false⟩,
    ⟨(some 54), .load (some 3) (.tmp 53), none, [6, 4, 5, 3, 2, 1], false⟩,
    ⟨(some 55), .call (.const (.func (.func 22) #[] #[])) [(.tmp 47), (.tmp 54)], none, [0, 7, 6, 4, 5, 3, 2, 1], true⟩,
    ⟨(some 56), .bin .leq (.tmp 55) (.const (.int .i64 0)), none, [8, 0, 7, 6, 4, 5, 3, 2, 1], true⟩])
  (.cond (.tmp 56)
   (.exit 0)
   .skip))
  (.seq (.drawn [
    ⟨(some 57), .move (.tmp 0), none, [], false⟩,
    ⟨(some 58), .nilCheck (.tmp 57), none, [0], false⟩,
    ⟨(some 59), .fieldAddr 0 (.tmp 58), none, [1, 0], false⟩,
    ⟨(some 60), .load none (.tmp 59), none, [2, 1, 0], false⟩,
    ⟨(some 61), .move (.tmp 4), none, [], false⟩,
    ⟨(some 62), .move (.tmp 0), none, [], false⟩,
    ⟨(some 63), .nilCheck (.tmp 62), none, [5], false⟩,
    ⟨(some 64), .fieldAddr 0 (.tmp 63), none, [6, 5], false⟩,
    ⟨(some 65), .load none (.tmp 64), none, [7, 6, 5], false⟩,
    ⟨(some 66), .move (.tmp 5), none, [], false⟩,
    ⟨(some 67), .indexAddr 3 (.tmp 65) (.tmp 66), none, [8, 9, 7, 6, 5], false⟩,
    ⟨(some 68), .load (some 3) (.tmp 67), none, [10, 8, 9, 7, 6, 5], false⟩,
    ⟨(some 69), .indexAddr 3 (.tmp 60) (.tmp 61), none, [3, 4, 0, 1, 2, 5, 6, 7, 8, 9, 10, 11], true⟩,
    ⟨none, .store 3 (.tmp 69) (.tmp 68), none, [12, 11, 0, 1, 2, 3, 4, 5, 6, 7, 8, 9, 10], true⟩])
  (.region [
    ⟨(some 70), .move (.tmp 5), none, [], true⟩,
    ⟨(some 4), .move (.tmp 70), none, [], true⟩])))))))))
  (.drawn [
    ⟨(some 71), .move (.tmp 0), none, [], false⟩,
    ⟨(some 72), .nilCheck (.tmp 71), none, [0], false⟩,
    ⟨(some 73), .fieldAddr 0 (.tmp 72), none, [1, 0], false⟩,
    ⟨(some 74), .load none (.tmp 73), none, [2, 1, 0], false⟩,
    ⟨(some 75), .move (.tmp 4), none, [], false⟩,
    ⟨(some 76), .load (some 3) (.tmp 3), none, [], false⟩,
    ⟨(some 77), .indexAddr 3 (.tmp 74) (.tmp 75), none, [3, 4, 0, 1, 2, 5], true⟩,
    ⟨none, .store 3 (.tmp 77) (.tmp 76), none, [6, 5, 0, 1, 2, 3, 4], true⟩]))))) }
theorem ir23_eq : funcC Try.prog 23 = some ir23 := by kernel_rfl
/-- (*wagonway/pile.Pile).popped -/
def ir24 : IFunc :=
{ ntmps := 4, results := [.tmp 2], body :=
  (.seq (.region [
    ⟨(some 1), .box (.tmp 0), none, [], true⟩,
    ⟨(some 2), .move (.const .nilFunc), none, [], true⟩])
  (.seq (.region [
    ⟨(some 3), .func (.func 30) [] [(.tmp 1)], none, [], true⟩,
    ⟨(some 2), .move (.tmp 3), none, [], true⟩])
  .ret)) }
theorem ir24_eq : funcC Try.prog 24 = some ir24 := by kernel_rfl
/-- cmp.Or[int] -/
def ir28 : IFunc :=
{ ntmps := 18, results := [.tmp 2], body :=
  (.seq (.region [
    ⟨(some 2), .move (.const (.int .i64 0)), none, [], true⟩])
  (.seq (.region [
    ⟨(some 3), .move (.const (.int .i64 0)), none, [], true⟩])
  (.seq (.seq (.region [
    ⟨(some 6), .move (.tmp 0), none, [], true⟩,
    ⟨(some 7), .lenSlice (.tmp 6), none, [], true⟩,
    ⟨(some 8), .move (.const (.int .i64 0)), none, [], true⟩])
  (.block 0 (.loop (.seq (.region [
    ⟨(some 9), .bin .lss (.tmp 8) (.tmp 7), none, [], true⟩])
  (.seq (.cond (.tmp 9)
   .skip
   (.exit 0))
  (.seq (.block 1 (.seq (.region [
    ⟨(some 10), .indexAddr 1 (.tmp 6) (.tmp 8), none, [], true⟩,
    ⟨(some 11), .load none (.tmp 10), none, [], true⟩,
    ⟨(some 5), .move (.tmp 11), none, [], true⟩])
  (.seq (.region [
    ⟨(some 12), .move (.tmp 5), none, [], true⟩,
    ⟨(some 13), .move (.tmp 3), none, [], true⟩,
    ⟨(some 14), .bin .neq (.tmp 12) (.tmp 13), none, [], true⟩])
  (.cond (.tmp 14)
   (.seq (.region [
     ⟨(some 15), .move (.tmp 5), none, [], true⟩,
     ⟨(some 2), .move (.tmp 15), none, [], true⟩])
   .ret)
   .skip))))
  (.region [
    ⟨(some 16), .bin .add (.tmp 8) (.const (.int .i64 1)), none, [], true⟩,
    ⟨(some 8), .move (.tmp 16), none, [], true⟩])))))))
  (.seq (.region [
    ⟨(some 17), .move (.tmp 3), none, [], true⟩,
    ⟨(some 2), .move (.tmp 17), none, [], true⟩])
  .ret)))) }
theorem ir28_eq : funcC Try.prog 28 = some ir28 := by kernel_rfl
/-- cmp.Compare[int] -/
def ir29 : IFunc :=
{ ntmps := 20, results := [.tmp 4], body :=
  (.seq (.region [
    ⟨(some 4), .move (.const (.int .i64 0)), none, [], true⟩])
  (.seq (.region [
    ⟨(some 7), .move (.tmp 0), none, [], true⟩,
    ⟨(some 8), .call (.const (.func (.func 33) #[] #[])) [(.tmp 7)], none, [], true⟩,
    ⟨(some 5), .move (.tmp 8), none, [], true⟩])
  (.seq (.region [
    ⟨(some 9), .move (.tmp 1), none, [], true⟩,
    ⟨(some 10), .call (.const (.func (.func 33) #[] #[])) [(.tmp 9)], none, [], true⟩,
    ⟨(some 6), .move (.tmp 10), none, [], true⟩])
  (.seq (.seq (.region [
    ⟨(some 11), .move (.tmp 5), none, [], true⟩])
  (.cond (.tmp 11)
   (.seq (.seq (.region [
     ⟨(some 12), .move (.tmp 6), none, [], true⟩])
   (.cond (.tmp 12)
    (.seq (.region [
      ⟨(some 4), .move (.const (.int .i64 0)), none, [], true⟩])
    .ret)
    .skip))
   (.seq (.region [
     ⟨(some 4), .move (.const (.int .i64 (-1))), none, [], true⟩])
   .ret))
   .skip))
  (.seq (.seq (.region [
    ⟨(some 13), .move (.tmp 6), none, [], true⟩])
  (.cond (.tmp 13)
   (.seq (.region [
     ⟨(some 4), .move (.const (.int .i64 1)), none, [], true⟩])
   .ret)
   .skip))
  (.seq (.seq (.region [
    ⟨(some 14), .move (.tmp 0), none, [], true⟩,
    ⟨(some 15), .move (.tmp 1), none, [], true⟩,
    ⟨(some 16), .bin .lss (.tmp 14) (.tmp 15), none, [], true⟩])
  (.cond (.tmp 16)
   (.seq (.region [
     ⟨(some 4), .move (.const (.int .i64 (-1))), none, [], true⟩])
   .ret)
   .skip))
  (.seq (.seq (.region [
    ⟨(some 17), .move (.tmp 0), none, [], true⟩,
    ⟨(some 18), .move (.tmp 1), none, [], true⟩,
    ⟨(some 19), .bin .gtr (.tmp 17) (.tmp 18), none, [], true⟩])
  (.cond (.tmp 19)
   (.seq (.region [
     ⟨(some 4), .move (.const (.int .i64 1)), none, [], true⟩])
   .ret)
   .skip))
  (.seq (.region [
    ⟨(some 4), .move (.const (.int .i64 0)), none, [], true⟩])
  .ret)))))))) }
theorem ir29_eq : funcC Try.prog 29 = some ir29 := by kernel_rfl
/-- (*wagonway/pile.Pile).popped$1 -/
def ir30 : IFunc :=
{ ntmps := 18, results := [], body :=
  (.block 0 (.loop (.block 1 (.seq (.region [
    ⟨(some 6), .load none (.tmp 1), none, [], true⟩,
    ⟨(some 7), .call (.const (.func (.func 11) #[] #[])) [(.tmp 6)], none, [], true⟩,
    ⟨(some 5), .move (.tmp 7), none, [], true⟩,
    ⟨(some 8), .extract (.tmp 5) 0, none, [], true⟩,
    ⟨(some 9), .extract (.tmp 5) 1, none, [], true⟩,
    ⟨(some 3), .box (.const (.agg #[(.int .i64 0), (.int .i64 0), (.int .i64 0)])), none, [], true⟩,
    ⟨none, .store 3 (.tmp 3) (.tmp 8), none, [], true⟩,
    ⟨(some 4), .move (.tmp 9), none, [], true⟩])
  (.seq (.region [
    ⟨(some 10), .move (.tmp 4), none, [], true⟩,
    ⟨(some 11), .un .not (.tmp 10), none, [], true⟩,
    ⟨(some 12), .move (.tmp 11), none, [], true⟩,
    ⟨(some 13), .move (.tmp 0), (some (12, false)), [], true⟩,
    ⟨(some 14), .load (some 3) (.tmp 3), (some (12, false)), [], true⟩,
    ⟨(some 15), .call (.tmp 13) [(.tmp 14)], (some (12, false)), [], true⟩,
    ⟨(some 16), .un .not (.tmp 15), (some (12, false)), [], true⟩,
    ⟨(some 17), .pick (.tmp 12) (.const (.bool true)) (.tmp 16), none, [], true⟩])
  (.cond (.tmp 17)
   .ret
   .skip)))))) }
theorem ir30_eq : funcC Try.prog 30 = some ir30 := by kernel_rfl
/-- cmp.isNaN[int] -/
def ir33 : IFunc :=
{ ntmps := 6, results := [.tmp 2], body :=
  (.seq (.region [
    ⟨(some 2), .move (.const (.bool false)), none, [], true⟩])
  (.seq (.region [
    ⟨(some 3), .move (.tmp 0), none, [], true⟩,
    ⟨(some 4), .move (.tmp 0), none, [], true⟩,
    ⟨(some 5), .bin .neq (.tmp 3) (.tmp 4), none, [], true⟩,
    ⟨(some 2), .move (.tmp 5), none, [], true⟩])
  .ret)) }
theorem ir33_eq : funcC Try.prog 33 = some ir33 := by kernel_rfl
def table : List (Option IFunc) :=
  [none, none, none, none, some ir4, none, none, none, none, some ir9, some ir10, some ir11, some ir12, some ir13, some ir14, none, none, none, some ir18, none, none, some ir21, some ir22, some ir23, some ir24, none, none, none, some ir28, some ir29, some ir30, none, none, some ir33]
def env : Env := fun g => (table[g]?).join
theorem env_ok : ∀ g F, env g = some F → funcC Try.prog g = some F := by
  intro g F h
  match g with
  | 0 => cases h
  | 1 => cases h
  | 2 => cases h
  | 3 => cases h
  | 4 => cases h; exact ir4_eq
  | 5 => cases h
  | 6 => cases h
  | 7 => cases h
  | 8 => cases h
  | 9 => cases h; exact ir9_eq
  | 10 => cases h; exact ir10_eq
  | 11 => cases h; exact ir11_eq
  | 12 => cases h; exact ir12_eq
  | 13 => cases h; exact ir13_eq
  | 14 => cases h; exact ir14_eq
  | 15 => cases h
  | 16 => cases h
  | 17 => cases h
  | 18 => cases h; exact ir18_eq
  | 19 => cases h
  | 20 => cases h
  | 21 => cases h; exact ir21_eq
  | 22 => cases h; exact ir22_eq
  | 23 => cases h; exact ir23_eq
  | 24 => cases h; exact ir24_eq
  | 25 => cases h
  | 26 => cases h
  | 27 => cases h
  | 28 => cases h; exact ir28_eq
  | 29 => cases h; exact ir29_eq
  | 30 => cases h; exact ir30_eq
  | 31 => cases h
  | 32 => cases h
  | 33 => cases h; exact ir33_eq
  | g + 34 => simp [env, table] at h
end Go.Proofs.Ytafaefeekilclaa
