/-
  THE FUNCTIONS THAT THE STATEMENTS REACH, in the intermediate form; written by a program of this claim.
-/
import Derived.Test.YtdifjoelfnagmaaChecked
import Derived.Test.YtdifjoelfnagmaaFa
import Derived.KernelRfl
namespace Go.Proofs.Ytdifjoelfnagmaa
open Go Go.Ideal
/-- wagonway/wagonwaylaw09.AlarmFirst -/
def ir3 : IFunc :=
{ ntmps := 70, results := [.tmp 2], body :=
  (.seq (.region [
    ⟨(some 2), .move (.const (.bool false)), none, [], true⟩])
  (.seq (.seq (.region [
    ⟨(some 9), .move (.tmp 0), none, [], true⟩,
    ⟨(some 10), .lenSlice (.tmp 9), none, [], true⟩,
    ⟨(some 11), .bin .gtr (.tmp 10) (.const (.int .i64 100)), none, [], true⟩])
  (.cond (.tmp 11)
   (.seq (.region [
     ⟨(some 2), .move (.const (.bool true)), none, [], true⟩])
   .ret)
   .skip))
  (.seq (.region [
    ⟨(some 13), .move (.tmp 0), none, [], true⟩,
    ⟨(some 14), .call (.const (.func (.func 8) #[] #[])) [(.tmp 13)], none, [], true⟩,
    ⟨(some 12), .move (.tmp 14), none, [], true⟩,
    ⟨(some 15), .extract (.tmp 12) 0, none, [], true⟩,
    ⟨(some 16), .extract (.tmp 12) 1, none, [], true⟩,
    ⟨(some 3), .move (.tmp 15), none, [], true⟩,
    ⟨(some 4), .move (.tmp 16), none, [], true⟩])
  (.seq (.region [
    ⟨(some 5), .move (.const (.bool false)), none, [], true⟩])
  (.seq (.seq (.region [
    ⟨(some 6), .move (.const (.int .i64 0)), none, [], true⟩])
  (.block 0 (.loop (.seq (.seq (.region [
    ⟨(some 17), .move (.tmp 6), none, [], true⟩,
    ⟨(some 18), .move (.tmp 0), none, [], true⟩,
    ⟨(some 19), .lenSlice (.tmp 18), none, [], true⟩,
    ⟨(some 20), .bin .lss (.tmp 17) (.tmp 19), none, [], true⟩])
  (.cond (.tmp 20)
   .skip
   (.exit 0)))
  (.seq (.block 1 (.seq (.region [
    ⟨(some 23), .move (.tmp 0), none, [], true⟩,
    ⟨(some 24), .move (.tmp 6), none, [], true⟩,
    ⟨(some 25), .indexAddr 3 (.tmp 23) (.tmp 24), none, [], true⟩,
    ⟨(some 26), .fieldAddr 0 (.tmp 25), none, [], true⟩,
    ⟨(some 27), .load none (.tmp 26), none, [], true⟩])
  (.cond (.tmp 27)
   (.seq (.region [
     ⟨(some 5), .move (.const (.bool true)), none, [], true⟩])
   (.seq (.region [
     ⟨(some 28), .move (.tmp 3), none, [], true⟩,
     ⟨(some 29), .move (.tmp 0), none, [], true⟩,
     ⟨(some 30), .move (.tmp 6), none, [], true⟩,
     ⟨(some 31), .indexAddr 3 (.tmp 29) (.tmp 30), none, [], true⟩,
     ⟨(some 32), .fieldAddr 1 (.tmp 31), none, [], true⟩,
     ⟨(some 33), .load none (.tmp 32), none, [], true⟩,
     ⟨(some 34), .bin .gtr (.tmp 28) (.tmp 33), none, [], true⟩])
   (.cond (.tmp 34)
    (.seq (.region [
      ⟨(some 2), .move (.const (.bool false)), none, [], true⟩])
    .ret)
    .skip)))
   .skip)))
  (.region [
    ⟨(some 21), .move (.tmp 6), none, [], true⟩,
    ⟨(some 22), .bin .add (.tmp 21) (.const (.int .i64 1)), none, [], true⟩,
    ⟨(some 6), .move (.tmp 22), none, [], true⟩]))))))
  (.seq (.region [
    ⟨(some 35), .move (.tmp 5), none, [], true⟩,
    ⟨(some 36), .un .not (.tmp 35), none, [], true⟩,
    ⟨(some 37), .move (.tmp 36), none, [], true⟩,
    ⟨(some 38), .move (.tmp 3), (some (37, true)), [], true⟩,
    ⟨(some 39), .bin .eql (.tmp 38) (.const (.int .u64 0)), (some (37, true)), [], true⟩,
    ⟨(some 40), .pick (.tmp 37) (.tmp 39) (.const (.bool false)), none, [], true⟩,
    ⟨(some 7), .move (.tmp 40), none, [], true⟩])
  (.seq (.seq (.region [
    ⟨(some 8), .move (.const (.int .i64 0)), none, [], true⟩])
  (.block 2 (.loop (.seq (.seq (.region [
    ⟨(some 41), .move (.tmp 8), none, [], true⟩,
    ⟨(some 42), .move (.tmp 0), none, [], true⟩,
    ⟨(some 43), .lenSlice (.tmp 42), none, [], true⟩,
    ⟨(some 44), .bin .lss (.tmp 41) (.tmp 43), none, [], true⟩])
  (.cond (.tmp 44)
   .skip
   (.exit 2)))
  (.seq (.block 3 (.region [
    ⟨(some 47), .move (.tmp 7), none, [], true⟩,
    ⟨(some 48), .move (.tmp 47), none, [], true⟩,
    ⟨(some 49), .move (.tmp 0), (some (48, false)), [], true⟩,
    ⟨(some 50), .move (.tmp 8), (some (48, false)), [], true⟩,
    ⟨(some 51), .indexAddr 3 (.tmp 49) (.tmp 50), (some (48, false)), [], true⟩,
    ⟨(some 52), .fieldAddr 0 (.tmp 51), (some (48, false)), [], true⟩,
    ⟨(some 53), .load none (.tmp 52), (some (48, false)), [], true⟩,
    ⟨(some 54), .move (.tmp 53), (some (48, false)), [], true⟩,
    ⟨(some 55), .move (.tmp 0), (some (54, true)), [], true⟩,
    ⟨(some 56), .move (.tmp 8), (some (54, true)), [], true⟩,
    ⟨(some 57), .indexAddr 3 (.tmp 55) (.tmp 56), (some (54, true)), [], true⟩,
    ⟨(some 58), .fieldAddr 1 (.tmp 57), (some (54, true)), [], true⟩,
    ⟨(some 59), .load none (.tmp 58), (some (54, true)), [], true⟩,
    ⟨(some 60), .move (.tmp 3), (some (54, true)), [], true⟩,
    ⟨(some 61), .bin .eql (.tmp 59) (.tmp 60), (some (54, true)), [], true⟩,
    ⟨(some 62), .pick (.tmp 54) (.tmp 61) (.const (.bool false)), (some (48, false)), [], true⟩,
    ⟨(some 63), .pick (.tmp 48) (.const (.bool true)) (.tmp 62), none, [], true⟩,
    ⟨(some 7), .move (.tmp 63), none, [], true⟩]))
  (.region [
    ⟨(some 45), .move (.tmp 8), none, [], true⟩,
    ⟨(some 46), .bin .add (.tmp 45) (.const (.int .i64 1)), none, [], true⟩,
    ⟨(some 8), .move (.tmp 46), none, [], true⟩]))))))
  (.seq (.region [
    ⟨(some 64), .move (.tmp 4), none, [], true⟩,
    ⟨(some 65), .move (.tmp 5), none, [], true⟩,
    ⟨(some 66), .eqBool false (.tmp 64) (.tmp 65), none, [], true⟩,
    ⟨(some 67), .move (.tmp 66), none, [], true⟩,
    ⟨(some 68), .move (.tmp 7), (some (67, true)), [], true⟩,
    ⟨(some 69), .pick (.tmp 67) (.tmp 68) (.const (.bool false)), none, [], true⟩,
    ⟨(some 2), .move (.tmp 69), none, [], true⟩])
  .ret)))))))) }
theorem ir3_eq : funcC Try.prog 3 = some ir3 := by kernel_rfl
/-- wagonway/wagonwaylaw09.AlarmChain -/
def ir4 : IFunc :=
{ ntmps := 87, results := [.tmp 6], body :=
  (.seq (.region [
    ⟨(some 3), .box (.tmp 0), none, [], true⟩,
    ⟨(some 6), .move (.const (.bool false)), none, [], true⟩])
  (.seq (.region [
    ⟨(some 10), .call (.const (.func (.func 9) #[] #[])) [], none, [], true⟩,
    ⟨(some 7), .move (.tmp 10), none, [], true⟩])
  (.seq (.seq (.region [
    ⟨(some 11), .load (some 2) (.tmp 3), none, [], true⟩,
    ⟨(some 12), .call (.const (.func (.func 10) #[] #[])) [(.tmp 11)], none, [], true⟩,
    ⟨(some 13), .bin .neq (.tmp 12) (.const (.int .i64 0)), none, [], true⟩,
    ⟨(some 14), .move (.tmp 13), none, [], true⟩,
    ⟨(some 15), .move (.tmp 1), (some (14, false)), [], true⟩,
    ⟨(some 16), .bin .geq (.tmp 15) (.const (.int .u64 1152921504606846976)), (some (14, false)), [], true⟩,
    ⟨(some 17), .pick (.tmp 14) (.const (.bool true)) (.tmp 16), none, [], true⟩,
    ⟨(some 18), .move (.tmp 17), none, [], true⟩,
    ⟨(some 19), .move (.tmp 7), (some (18, false)), [], true⟩,
    ⟨(some 20), .un .not (.tmp 19), (some (18, false)), [], true⟩,
    ⟨(some 21), .pick (.tmp 18) (.const (.bool true)) (.tmp 20), none, [], true⟩])
  (.cond (.tmp 21)
   (.seq (.region [
     ⟨(some 22), .move (.tmp 7), none, [], true⟩,
     ⟨(some 6), .move (.tmp 22), none, [], true⟩])
   .ret)
   .skip))
  (.seq (.region [
    ⟨(some 23), .load (some 2) (.tmp 3), none, [], true⟩,
    ⟨(some 24), .move (.tmp 1), none, [], true⟩,
    ⟨(some 25), .call (.const (.func (.func 11) #[] #[])) [(.tmp 23), (.tmp 24)], none, [], true⟩,
    ⟨(some 8), .box (.const (.agg #[(.bool false), (.int .u64 0), (.int .i64 0)])), none, [], true⟩,
    ⟨none, .store 3 (.tmp 8) (.tmp 25), none, [], true⟩])
  (.seq (.seq (.region [
    ⟨(some 9), .move (.const (.int .i64 0)), none, [], true⟩])
  (.block 0 (.loop (.seq (.seq (.region [
    ⟨(some 26), .move (.tmp 9), none, [], true⟩,
    ⟨(some 27), .move (.tmp 2), none, [], true⟩,
    ⟨(some 28), .conv .i64 (.tmp 27), none, [], true⟩,
    ⟨(some 29), .bin .rem (.tmp 28) (.const (.int .i64 60)), none, [], true⟩,
    ⟨(some 30), .bin .lss (.tmp 26) (.tmp 29), none, [], true⟩])
  (.cond (.tmp 30)
   .skip
   (.exit 0)))
  (.seq (.block 1 (.seq (.seq (.region [
    ⟨(some 33), .fieldAddr 0 (.tmp 8), none, [], true⟩,
    ⟨(some 34), .load none (.tmp 33), none, [], true⟩,
    ⟨(some 35), .un .not (.tmp 34), none, [], true⟩,
    ⟨(some 36), .move (.tmp 35), none, [], true⟩,
    ⟨(some 37), .fieldAddr 1 (.tmp 8), (some (36, false)), [], true⟩,
    ⟨(some 38), .load none (.tmp 37), (some (36, false)), [], true⟩,
    ⟨(some 39), .move (.tmp 1), (some (36, false)), [], true⟩,
    ⟨(some 40), .fieldAddr 0 (.tmp 3), (some (36, false)), [], true⟩,
    ⟨(some 41), .load none (.tmp 40), (some (36, false)), [], true⟩,
    ⟨(some 42), .bin .add (.tmp 39) (.tmp 41), (some (36, false)), [], true⟩,
    ⟨(some 43), .bin .lss (.tmp 38) (.tmp 42), (some (36, false)), [], true⟩,
    ⟨(some 44), .pick (.tmp 36) (.const (.bool true)) (.tmp 43), none, [], true⟩,
    ⟨(some 45), .move (.tmp 44), none, [], true⟩,
    ⟨(some 46), .fieldAddr 1 (.tmp 8), (some (45, false)), [], true⟩,
    ⟨(some 47), .load none (.tmp 46), (some (45, false)), [], true⟩,
    ⟨(some 48), .move (.tmp 1), (some (45, false)), [], true⟩,
    ⟨(some 49), .fieldAddr 1 (.tmp 3), (some (45, false)), [], true⟩,
    ⟨(some 50), .load none (.tmp 49), (some (45, false)), [], true⟩,
    ⟨(some 51), .bin .add (.tmp 48) (.tmp 50), (some (45, false)), [], true⟩,
    ⟨(some 52), .bin .gtr (.tmp 47) (.tmp 51), (some (45, false)), [], true⟩,
    ⟨(some 53), .pick (.tmp 45) (.const (.bool true)) (.tmp 52), none, [], true⟩,
    ⟨(some 54), .move (.tmp 53), none, [], true⟩,
    ⟨(some 55), .fieldAddr 2 (.tmp 8), (some (54, false)), [], true⟩,
    ⟨(some 56), .load none (.tmp 55), (some (54, false)), [], true⟩,
    ⟨(some 57), .move (.tmp 9), (some (54, false)), [], true⟩,
    ⟨(some 58), .bin .neq (.tmp 56) (.tmp 57), (some (54, false)), [], true⟩,
    ⟨(some 59), .pick (.tmp 54) (.const (.bool true)) (.tmp 58), none, [], true⟩,
    ⟨(some 60), .move (.tmp 59), none, [], true⟩,
    ⟨(some 61), .load (some 2) (.tmp 3), (some (60, false)), [], true⟩,
    ⟨(some 62), .load (some 3) (.tmp 8), (some (60, false)), [], true⟩,
    ⟨(some 63), .fieldAddr 1 (.tmp 8), (some (60, false)), [], true⟩,
    ⟨(some 64), .load none (.tmp 63), (some (60, false)), [], true⟩,
    ⟨(some 65), .call (.const (.func (.func 12) #[] #[])) [(.tmp 61), (.tmp 62), (.tmp 64)], (some (60, false)), [], true⟩,
    ⟨(some 66), .un .not (.tmp 65), (some (60, false)), [], true⟩,
    ⟨(some 67), .pick (.tmp 60) (.const (.bool true)) (.tmp 66), none, [], true⟩,
    ⟨(some 68), .move (.tmp 67), none, [], true⟩,
    ⟨(some 69), .load (some 2) (.tmp 3), (some (68, false)), [], true⟩,
    ⟨(some 70), .load (some 3) (.tmp 8), (some (68, false)), [], true⟩,
    ⟨(some 71), .fieldAddr 1 (.tmp 8), (some (68, false)), [], true⟩,
    ⟨(some 72), .load none (.tmp 71), (some (68, false)), [], true⟩,
    ⟨(some 73), .bin .sub (.tmp 72) (.const (.int .u64 1)), (some (68, false)), [], true⟩,
    ⟨(some 74), .call (.const (.func (.func 12) #[] #[])) [(.tmp 69), (.tmp 70), (.tmp 73)], (some (68, false)), [], true⟩,
    ⟨(some 75), .pick (.tmp 68) (.const (.bool true)) (.tmp 74), none, [], true⟩])
  (.cond (.tmp 75)
   (.seq (.region [
     ⟨(some 6), .move (.const (.bool false)), none, [], true⟩])
   .ret)
   .skip))
  (.seq (.region [
    ⟨(some 76), .fieldAddr 1 (.tmp 8), none, [], true⟩,
    ⟨(some 77), .load none (.tmp 76), none, [], true⟩,
    ⟨(some 1), .move (.tmp 77), none, [], true⟩])
  (.region [
    ⟨(some 78), .load (some 2) (.tmp 3), none, [], true⟩,
    ⟨(some 79), .load (some 3) (.tmp 8), none, [], true⟩,
    ⟨(some 80), .move (.tmp 1), none, [], true⟩,
    ⟨(some 81), .call (.const (.func (.func 13) #[] #[])) [(.tmp 78), (.tmp 79), (.tmp 80)], none, [], true⟩,
    ⟨none, .store 3 (.tmp 8) (.tmp 81), none, [], true⟩]))))
  (.region [
    ⟨(some 31), .move (.tmp 9), none, [], true⟩,
    ⟨(some 32), .bin .add (.tmp 31) (.const (.int .i64 1)), none, [], true⟩,
    ⟨(some 9), .move (.tmp 32), none, [], true⟩]))))))
  (.seq (.region [
    ⟨(some 82), .move (.tmp 7), none, [], true⟩,
    ⟨(some 83), .move (.tmp 82), none, [], true⟩,
    ⟨(some 84), .fieldAddr 0 (.tmp 8), (some (83, true)), [], true⟩,
    ⟨(some 85), .load none (.tmp 84), (some (83, true)), [], true⟩,
    ⟨(some 86), .pick (.tmp 83) (.tmp 85) (.const (.bool false)), none, [], true⟩,
    ⟨(some 6), .move (.tmp 86), none, [], true⟩])
  .ret)))))) }
theorem ir4_eq : funcC Try.prog 4 = some ir4 := by kernel_rfl
/-- wagonway/wagonwaylaw09.AlarmGrows -/
def ir5 : IFunc :=
{ ntmps := 95, results := [.tmp 6], body :=
  (.seq (.region [
    ⟨(some 3), .box (.tmp 0), none, [], true⟩,
    ⟨(some 6), .move (.const (.bool false)), none, [], true⟩])
  (.seq (.region [
    ⟨(some 11), .call (.const (.func (.func 9) #[] #[])) [], none, [], true⟩,
    ⟨(some 7), .move (.tmp 11), none, [], true⟩])
  (.seq (.seq (.region [
    ⟨(some 12), .load (some 2) (.tmp 3), none, [], true⟩,
    ⟨(some 13), .call (.const (.func (.func 10) #[] #[])) [(.tmp 12)], none, [], true⟩,
    ⟨(some 14), .bin .neq (.tmp 13) (.const (.int .i64 0)), none, [], true⟩,
    ⟨(some 15), .move (.tmp 14), none, [], true⟩,
    ⟨(some 16), .move (.tmp 1), (some (15, false)), [], true⟩,
    ⟨(some 17), .bin .lss (.tmp 16) (.const (.int .i64 0)), (some (15, false)), [], true⟩,
    ⟨(some 18), .pick (.tmp 15) (.const (.bool true)) (.tmp 17), none, [], true⟩,
    ⟨(some 19), .move (.tmp 18), none, [], true⟩,
    ⟨(some 20), .move (.tmp 1), (some (19, false)), [], true⟩,
    ⟨(some 21), .bin .gtr (.tmp 20) (.const (.int .i64 1099511627776)), (some (19, false)), [], true⟩,
    ⟨(some 22), .pick (.tmp 19) (.const (.bool true)) (.tmp 21), none, [], true⟩,
    ⟨(some 23), .move (.tmp 22), none, [], true⟩,
    ⟨(some 24), .move (.tmp 7), (some (23, false)), [], true⟩,
    ⟨(some 25), .un .not (.tmp 24), (some (23, false)), [], true⟩,
    ⟨(some 26), .pick (.tmp 23) (.const (.bool true)) (.tmp 25), none, [], true⟩])
  (.cond (.tmp 26)
   (.seq (.region [
     ⟨(some 27), .move (.tmp 7), none, [], true⟩,
     ⟨(some 6), .move (.tmp 27), none, [], true⟩])
   .ret)
   .skip))
  (.seq (.region [
    ⟨(some 28), .load (some 2) (.tmp 3), none, [], true⟩,
    ⟨(some 29), .move (.tmp 1), none, [], true⟩,
    ⟨(some 30), .call (.const (.func (.func 14) #[] #[])) [(.tmp 28), (.tmp 29)], none, [], true⟩,
    ⟨(some 8), .move (.tmp 30), none, [], true⟩])
  (.seq (.region [
    ⟨(some 31), .load (some 2) (.tmp 3), none, [], true⟩,
    ⟨(some 32), .move (.tmp 1), none, [], true⟩,
    ⟨(some 33), .bin .add (.tmp 32) (.const (.int .i64 1)), none, [], true⟩,
    ⟨(some 34), .call (.const (.func (.func 14) #[] #[])) [(.tmp 31), (.tmp 33)], none, [], true⟩,
    ⟨(some 9), .move (.tmp 34), none, [], true⟩])
  (.seq (.region [
    ⟨(some 35), .load (some 2) (.tmp 3), none, [], true⟩,
    ⟨(some 36), .move (.tmp 1), none, [], true⟩,
    ⟨(some 37), .move (.tmp 2), none, [], true⟩,
    ⟨(some 38), .call (.const (.func (.func 15) #[] #[])) [(.tmp 35), (.tmp 36), (.tmp 37)], none, [], true⟩,
    ⟨(some 10), .move (.tmp 38), none, [], true⟩])
  (.seq (.drawn [
    ⟨(some 39), .move (.tmp 7), none, [], true⟩,
    ⟨(some 40), .move (.tmp 39), none, [0], true⟩,
    ⟨(some 41), .move (.tmp 8), (some (40, true)), [1, 0], false⟩,
    ⟨(some 42), .fieldAddr 0 (.tmp 3), (some (40, true)), [1, 0], true⟩,
    ⟨(some 43), .load none (.tmp 42), (some (40, true)), [3, 1, 0], true⟩,
    ⟨(some 44), .bin .geq (.tmp 41) (.tmp 43), (some (40, true)), [2, 4, 1, 0, 3], true⟩,
    ⟨(some 45), .pick (.tmp 40) (.tmp 44) (.const (.bool false)), none, [1, 5, 0, 2, 4, 3], true⟩,
    ⟨(some 46), .move (.tmp 45), none, [6, 1, 5, 0, 2, 4, 3], true⟩,
    ⟨(some 47), .move (.tmp 9), (some (46, true)), [7, 6, 1, 5, 0, 2, 4, 3], true⟩,
    ⟨(some 48), .move (.tmp 8), (some (46, true)), [7, 6, 1, 5, 0, 2, 4, 3], true⟩,
    ⟨(some 49), .bin .geq (.tmp 47) (.tmp 48), (some (46, true)), [8, 9, 7, 6, 1, 5, 0, 2, 4, 3], true⟩,
    ⟨(some 50), .pick (.tmp 46) (.tmp 49) (.const (.bool false)), none, [7, 10, 6, 1, 5, 0, 2, 4, 3, 8, 9], true⟩,
    ⟨(some 51), .move (.tmp 50), none, [11, 7, 10, 6, 1, 5, 0, 2, 4, 3, 8, 9], true⟩,
    ⟨(some 52), .move (.tmp 9), (some (51, true)), [12, 11, 7, 10, 6, 1, 5, 0, 2, 4, 3, 8, 9], true⟩,
    ⟨(some 53), .move (.tmp 8), (some (51, true)), [12, 11, 7, 10, 6, 1, 5, 0, 2, 4, 3, 8, 9], true⟩,
    ⟨(some 54), .bin .mul (.const (.int .u64 2)) (.tmp 53), (some (51, true)), [14, 12, 11, 7, 10, 6, 1, 5, 0, 2, 4, 3, 8, 9], true⟩,
    ⟨(some 55), .bin .leq (.tmp 52) (.tmp 54), (some (51, true)), [13, 15, 12, 11, 7, 10, 6, 1, 5, 0, 2, 4, 3, 8, 9, 14], true⟩,
    ⟨(some 56), .pick (.tmp 51) (.tmp 55) (.const (.bool false)), none, [12, 16, 11, 7, 10, 6, 1, 5, 0, 2, 4, 3, 8, 9, 13, 15, 14], true⟩,
    ⟨(some 57), .move (.tmp 56), none, [17, 12, 16, 11, 7, 10, 6, 1, 5, 0, 2, 4, 3, 8, 9, 13, 15, 14], true⟩,
    ⟨(some 58), .move (.tmp 9), (some (57, true)), [18, 17, 12, 16, 11, 7, 10, 6, 1, 5, 0, 2, 4, 3, 8, 9, 13, 15, 14], false⟩,
    ⟨(some 59), .fieldAddr 1 (.tmp 3), (some (57, true)), [18, 17, 12, 16, 11, 7, 10, 6, 1, 5, 0, 2, 4, 3, 8, 9, 13, 15, 14], true⟩,
    ⟨(some 60), .load none (.tmp 59), (some (57, true)), [20, 18, 17, 12, 16, 11, 7, 10, 6, 1, 5, 0, 2, 4, 3, 8, 9, 13, 15, 14], true⟩,
    ⟨(some 61), .bin .leq (.tmp 58) (.tmp 60), (some (57, true)), [19, 21, 18, 17, 12, 16, 11, 7, 10, 6, 1, 5, 0, 2, 4, 3, 8, 9, 13, 15, 14, 20], true⟩,
    ⟨(some 62), .pick (.tmp 57) (.tmp 61) (.const (.bool false)), none, [18, 22, 17, 12, 16, 11, 7, 10, 6, 1, 5, 0, 2, 4, 3, 8, 9, 13, 15, 14, 19, 21, 20], true⟩,
    ⟨(some 63), .move (.tmp 62), none, [23, 18, 22, 17, 12, 16, 11, 7, 10, 6, 1, 5, 0, 2, 4, 3, 8, 9, 13, 15, 14, 19, 21, 20], true⟩,
    ⟨(some 64), .load (some 2) (.tmp 3), (some (63, true)), [24, 23, 18, 22, 17, 12, 16, 11, 7, 10, 6, 1, 5, 0, 2, 4, 3, 8, 9, 13, 15, 14, 19, 21, 20], false⟩,
    ⟨(some 65), .call (.const (.func (.func 14) #[] #[])) [(.tmp 64), (.const (.int .i64 33))], (some (63, true)), [25, 24, 23, 18, 22, 17, 12, 16, 11, 7, 10, 6, 1, 5, 0, 2, 4, 3, 8, 9, 13, 15, 14, 19, 21, 20], false⟩,
    ⟨(some 66), .fieldAddr 1 (.tmp 3), (some (63, true)), [24, 23, 18, 22, 17, 12, 16, 11, 7, 10, 6, 1, 5, 0, 2, 4, 3, 8, 9, 13, 15, 14, 19, 21, 20], false⟩,
    ⟨(some 67), .load none (.tmp 66), (some (63, true)), [27, 24, 23, 18, 22, 17, 12, 16, 11, 7, 10, 6, 1, 5, 0, 2, 4, 3, 8, 9, 13, 15, 14, 19, 21, 20], false⟩,
    ⟨(some 68), .bin .eql (.tmp 65) (.tmp 67), (some (63, true)), [26, 28, 24, 25, 23, 18, 22, 17, 12, 16, 11, 7, 10, 6, 1, 5, 0, 2, 4, 3, 8, 9, 13, 15, 14, 19, 21, 20, 27], true⟩,
    ⟨(some 69), .pick (.tmp 63) (.tmp 68) (.const (.bool false)), none, [24, 29, 23, 18, 22, 17, 12, 16, 11, 7, 10, 6, 1, 5, 0, 2, 4, 3, 8, 9, 13, 15, 14, 19, 21, 20, 26, 28, 25, 27], true⟩,
    ⟨(some 70), .move (.tmp 69), none, [30, 26, 24, 29, 23, 18, 22, 17, 12, 16, 11, 7, 10, 6, 1, 5, 0, 2, 4, 3, 8, 9, 13, 15, 14, 19, 21, 20, 28, 25, 27], true⟩,
    ⟨(some 71), .move (.tmp 10), (some (70, true)), [31, 30, 26, 24, 29, 23, 18, 22, 17, 12, 16, 11, 7, 10, 6, 1, 5, 0, 2, 4, 3, 8, 9, 13, 15, 14, 19, 21, 20, 28, 25, 27], true⟩,
    ⟨(some 72), .move (.tmp 8), (some (70, true)), [31, 30, 26, 24, 29, 23, 18, 22, 17, 12, 16, 11, 7, 10, 6, 1, 5, 0, 2, 4, 3, 8, 9, 13, 15, 14, 19, 21, 20, 28, 25, 27], true⟩,
    ⟨(some 73), .bin .geq (.tmp 71) (.tmp 72), (some (70, true)), [32, 33, 31, 30, 26, 24, 29, 23, 18, 22, 17, 12, 16, 11, 7, 10, 6, 1, 5, 0, 2, 4, 3, 8, 9, 13, 15, 14, 19, 21, 20, 28, 25, 27], true⟩,
    ⟨(some 74), .pick (.tmp 70) (.tmp 73) (.const (.bool false)), none, [31, 34, 30, 26, 24, 29, 23, 18, 22, 17, 12, 16, 11, 7, 10, 6, 1, 5, 0, 2, 4, 3, 8, 9, 13, 15, 14, 19, 21, 20, 28, 25, 27, 32, 33], true⟩,
    ⟨(some 75), .move (.tmp 74), none, [35, 31, 34, 30, 26, 24, 29, 23, 18, 22, 17, 12, 16, 11, 7, 10, 6, 1, 5, 0, 2, 4, 3, 8, 9, 13, 15, 14, 19, 21, 20, 28, 25, 27, 32, 33], true⟩,
    ⟨(some 76), .move (.tmp 10), (some (75, true)), [36, 35, 31, 34, 30, 26, 24, 29, 23, 18, 22, 17, 12, 16, 11, 7, 10, 6, 1, 5, 0, 2, 4, 3, 8, 9, 13, 15, 14, 19, 21, 20, 28, 25, 27, 32, 33], true⟩,
    ⟨(some 77), .move (.tmp 8), (some (75, true)), [36, 35, 31, 34, 30, 26, 24, 29, 23, 18, 22, 17, 12, 16, 11, 7, 10, 6, 1, 5, 0, 2, 4, 3, 8, 9, 13, 15, 14, 19, 21, 20, 28, 25, 27, 32, 33], true⟩,
    ⟨(some 78), .move (.tmp 8), (some (75, true)), [36, 35, 31, 34, 30, 26, 24, 29, 23, 18, 22, 17, 12, 16, 11, 7, 10, 6, 1, 5, 0, 2, 4, 3, 8, 9, 13, 15, 14, 19, 21, 20, 28, 25, 27, 32, 33], true⟩,
    ⟨(some 79), .bin .quo (.tmp 78) (.const (.int .u64 2)), (some (75, true)), [39, 36, 35, 31, 34, 30, 26, 24, 29, 23, 18, 22, 17, 12, 16, 11, 7, 10, 6, 1, 5, 0, 2, 4, 3, 8, 9, 13, 15, 14, 19, 21, 20, 28, 25, 27, 32, 33], true⟩,
    ⟨(some 80), .bin .add (.tmp 77) (.tmp 79), (some (75, true)), [38, 40, 36, 35, 31, 34, 30, 26, 24, 29, 23, 18, 22, 17, 12, 16, 11, 7, 10, 6, 1, 5, 0, 2, 4, 3, 8, 9, 13, 15, 14, 19, 21, 20, 28, 25, 27, 32, 33, 39], true⟩,
    ⟨(some 81), .bin .leq (.tmp 76) (.tmp 80), (some (75, true)), [37, 41, 36, 35, 31, 34, 30, 26, 24, 29, 23, 18, 22, 17, 12, 16, 11, 7, 10, 6, 1, 5, 0, 2, 4, 3, 8, 9, 13, 15, 14, 19, 21, 20, 28, 25, 27, 32, 33, 38, 40, 39], true⟩,
    ⟨(some 82), .pick (.tmp 75) (.tmp 81) (.const (.bool false)), none, [36, 42, 35, 31, 34, 30, 26, 24, 29, 23, 18, 22, 17, 12, 16, 11, 7, 10, 6, 1, 5, 0, 2, 4, 3, 8, 9, 13, 15, 14, 19, 21, 20, 28, 25, 27, 32, 33, 37, 41, 38, 40, 39], true⟩,
    ⟨(some 83), .move (.tmp 82), none, [43, 36, 42, 35, 31, 34, 30, 26, 24, 29, 23, 18, 22, 17, 12, 16, 11, 7, 10, 6, 1, 5, 0, 2, 4, 3, 8, 9, 13, 15, 14, 19, 21, 20, 28, 25, 27, 32, 33, 37, 41, 38, 40, 39], true⟩,
    ⟨(some 84), .move (.tmp 9), (some (83, true)), [44, 43, 36, 42, 35, 31, 34, 30, 26, 24, 29, 23, 18, 22, 17, 12, 16, 11, 7, 10, 6, 1, 5, 0, 2, 4, 3, 8, 9, 13, 15, 14, 19, 21, 20, 28, 25, 27, 32, 33, 37, 41, 38, 40, 39], false⟩,
    ⟨(some 85), .fieldAddr 1 (.tmp 3), (some (83, true)), [44, 43, 36, 42, 35, 31, 34, 30, 26, 24, 29, 23, 18, 22, 17, 12, 16, 11, 7, 10, 6, 1, 5, 0, 2, 4, 3, 8, 9, 13, 15, 14, 19, 21, 20, 28, 25, 27, 32, 33, 37, 41, 38, 40, 39], true⟩,
    ⟨(some 86), .load none (.tmp 85), (some (83, true)), [46, 44, 43, 36, 42, 35, 31, 34, 30, 26, 24, 29, 23, 18, 22, 17, 12, 16, 11, 7, 10, 6, 1, 5, 0, 2, 4, 3, 8, 9, 13, 15, 14, 19, 21, 20, 28, 25, 27, 32, 33, 37, 41, 38, 40, 39], true⟩,
    ⟨(some 87), .bin .eql (.tmp 84) (.tmp 86), (some (83, true)), [45, 47, 44, 43, 36, 42, 35, 31, 34, 30, 26, 24, 29, 23, 18, 22, 17, 12, 16, 11, 7, 10, 6, 1, 5, 0, 2, 4, 3, 8, 9, 13, 15, 14, 19, 21, 20, 28, 25, 27, 32, 33, 37, 41, 38, 40, 39, 46], true⟩,
    ⟨(some 88), .move (.tmp 87), (some (83, true)), [48, 44, 45, 47, 43, 36, 42, 35, 31, 34, 30, 26, 24, 29, 23, 18, 22, 17, 12, 16, 11, 7, 10, 6, 1, 5, 0, 2, 4, 3, 8, 9, 13, 15, 14, 19, 21, 20, 28, 25, 27, 32, 33, 37, 41, 38, 40, 39, 46], true⟩,
    ⟨(some 89), .move (.tmp 9), (some (88, false)), [49, 48, 44, 45, 47, 43, 36, 42, 35, 31, 34, 30, 26, 24, 29, 23, 18, 22, 17, 12, 16, 11, 7, 10, 6, 1, 5, 0, 2, 4, 3, 8, 9, 13, 15, 14, 19, 21, 20, 28, 25, 27, 32, 33, 37, 41, 38, 40, 39, 46], true⟩,
    ⟨(some 90), .move (.tmp 8), (some (88, false)), [49, 48, 44, 45, 47, 43, 36, 42, 35, 31, 34, 30, 26, 24, 29, 23, 18, 22, 17, 12, 16, 11, 7, 10, 6, 1, 5, 0, 2, 4, 3, 8, 9, 13, 15, 14, 19, 21, 20, 28, 25, 27, 32, 33, 37, 41, 38, 40, 39, 46], true⟩,
    ⟨(some 91), .bin .mul (.const (.int .u64 2)) (.tmp 90), (some (88, false)), [51, 49, 48, 44, 45, 47, 43, 36, 42, 35, 31, 34, 30, 26, 24, 29, 23, 18, 22, 17, 12, 16, 11, 7, 10, 6, 1, 5, 0, 2, 4, 3, 8, 9, 13, 15, 14, 19, 21, 20, 28, 25, 27, 32, 33, 37, 41, 38, 40, 39, 46], true⟩,
    ⟨(some 92), .bin .eql (.tmp 89) (.tmp 91), (some (88, false)), [50, 52, 49, 48, 44, 45, 47, 43, 36, 42, 35, 31, 34, 30, 26, 24, 29, 23, 18, 22, 17, 12, 16, 11, 7, 10, 6, 1, 5, 0, 2, 4, 3, 8, 9, 13, 15, 14, 19, 21, 20, 28, 25, 27, 32, 33, 37, 41, 38, 40, 39, 46, 51], true⟩,
    ⟨(some 93), .pick (.tmp 88) (.const (.bool true)) (.tmp 92), (some (83, true)), [49, 53, 44, 48, 45, 47, 43, 36, 42, 35, 31, 34, 30, 26, 24, 29, 23, 18, 22, 17, 12, 16, 11, 7, 10, 6, 1, 5, 0, 2, 4, 3, 8, 9, 13, 15, 14, 19, 21, 20, 28, 25, 27, 32, 33, 37, 41, 38, 40, 39, 46, 50, 52, 51], true⟩,
    ⟨(some 94), .pick (.tmp 83) (.tmp 93) (.const (.bool false)), none, [44, 54, 43, 36, 42, 35, 31, 34, 30, 26, 24, 29, 23, 18, 22, 17, 12, 16, 11, 7, 10, 6, 1, 5, 0, 2, 4, 3, 8, 9, 13, 15, 14, 19, 21, 20, 28, 25, 27, 32, 33, 37, 41, 38, 40, 39, 49, 53, 48, 45, 47, 46, 50, 52, 51], true⟩,
    ⟨(some 6), .move (.tmp 94), none, [55, 49, 0, 1, 2, 3, 4, 5, 6, 7, 8, 9, 10, 11, 12, 13, 14, 15, 16, 17, 18, 19, 20, 21, 22, 23, 24, 25, 26, 27, 28, 29, 30, 31, 32, 33, 34, 35, 36, 37, 38, 39, 40, 41, 42, 43, 44, 45, 46, 47, 48, 50, 51, 52, 53, 54], true⟩])
  .ret))))))) }
theorem ir5_eq : funcC Try.prog 5 = some ir5 := by kernel_rfl
/-- wagonway/wagonwaylaw09.AlarmLater -/
def ir6 : IFunc :=
{ ntmps := 121, results := [.tmp 8], body :=
  (.seq (.region [
    ⟨(some 4), .box (.tmp 0), none, [], true⟩,
    ⟨(some 8), .move (.const (.bool false)), none, [], true⟩])
  (.seq (.region [
    ⟨(some 16), .call (.const (.func (.func 9) #[] #[])) [], none, [], true⟩,
    ⟨(some 9), .move (.tmp 16), none, [], true⟩])
  (.seq (.seq (.region [
    ⟨(some 17), .load (some 2) (.tmp 4), none, [], true⟩,
    ⟨(some 18), .call (.const (.func (.func 10) #[] #[])) [(.tmp 17)], none, [], true⟩,
    ⟨(some 19), .bin .neq (.tmp 18) (.const (.int .i64 0)), none, [], true⟩,
    ⟨(some 20), .move (.tmp 19), none, [], true⟩,
    ⟨(some 21), .move (.tmp 1), (some (20, false)), [], true⟩,
    ⟨(some 22), .bin .geq (.tmp 21) (.const (.int .u64 1152921504606846976)), (some (20, false)), [], true⟩,
    ⟨(some 23), .pick (.tmp 20) (.const (.bool true)) (.tmp 22), none, [], true⟩,
    ⟨(some 24), .move (.tmp 23), none, [], true⟩,
    ⟨(some 25), .move (.tmp 2), (some (24, false)), [], true⟩,
    ⟨(some 26), .bin .geq (.tmp 25) (.const (.int .u64 1152921504606846976)), (some (24, false)), [], true⟩,
    ⟨(some 27), .pick (.tmp 24) (.const (.bool true)) (.tmp 26), none, [], true⟩,
    ⟨(some 28), .move (.tmp 27), none, [], true⟩,
    ⟨(some 29), .move (.tmp 9), (some (28, false)), [], true⟩,
    ⟨(some 30), .un .not (.tmp 29), (some (28, false)), [], true⟩,
    ⟨(some 31), .pick (.tmp 28) (.const (.bool true)) (.tmp 30), none, [], true⟩])
  (.cond (.tmp 31)
   (.seq (.region [
     ⟨(some 32), .move (.tmp 9), none, [], true⟩,
     ⟨(some 8), .move (.tmp 32), none, [], true⟩])
   .ret)
   .skip))
  (.seq (.region [
    ⟨(some 33), .load (some 2) (.tmp 4), none, [], true⟩,
    ⟨(some 34), .move (.tmp 1), none, [], true⟩,
    ⟨(some 35), .call (.const (.func (.func 11) #[] #[])) [(.tmp 33), (.tmp 34)], none, [], true⟩,
    ⟨(some 10), .box (.const (.agg #[(.bool false), (.int .u64 0), (.int .i64 0)])), none, [], true⟩,
    ⟨none, .store 3 (.tmp 10) (.tmp 35), none, [], true⟩])
  (.seq (.seq (.region [
    ⟨(some 11), .move (.const (.int .i64 0)), none, [], true⟩])
  (.block 0 (.loop (.seq (.seq (.region [
    ⟨(some 36), .move (.tmp 11), none, [], true⟩,
    ⟨(some 37), .move (.tmp 3), none, [], true⟩,
    ⟨(some 38), .conv .i64 (.tmp 37), none, [], true⟩,
    ⟨(some 39), .bin .rem (.tmp 38) (.const (.int .i64 40)), none, [], true⟩,
    ⟨(some 40), .bin .lss (.tmp 36) (.tmp 39), none, [], true⟩])
  (.cond (.tmp 40)
   .skip
   (.exit 0)))
  (.seq (.block 1 (.region [
    ⟨(some 43), .load (some 2) (.tmp 4), none, [], true⟩,
    ⟨(some 44), .load (some 3) (.tmp 10), none, [], true⟩,
    ⟨(some 45), .move (.tmp 1), none, [], true⟩,
    ⟨(some 46), .call (.const (.func (.func 13) #[] #[])) [(.tmp 43), (.tmp 44), (.tmp 45)], none, [], true⟩,
    ⟨none, .store 3 (.tmp 10) (.tmp 46), none, [], true⟩]))
  (.region [
    ⟨(some 41), .move (.tmp 11), none, [], true⟩,
    ⟨(some 42), .bin .add (.tmp 41) (.const (.int .i64 1)), none, [], true⟩,
    ⟨(some 11), .move (.tmp 42), none, [], true⟩]))))))
  (.seq (.region [
    ⟨(some 47), .load (some 2) (.tmp 4), none, [], true⟩,
    ⟨(some 48), .move (.tmp 1), none, [], true⟩,
    ⟨(some 49), .move (.tmp 2), none, [], true⟩,
    ⟨(some 50), .bin .add (.tmp 48) (.tmp 49), none, [], true⟩,
    ⟨(some 51), .call (.const (.func (.func 11) #[] #[])) [(.tmp 47), (.tmp 50)], none, [], true⟩,
    ⟨(some 12), .box (.const (.agg #[(.bool false), (.int .u64 0), (.int .i64 0)])), none, [], true⟩,
    ⟨none, .store 3 (.tmp 12) (.tmp 51), none, [], true⟩])
  (.seq (.seq (.region [
    ⟨(some 13), .move (.const (.int .i64 0)), none, [], true⟩])
  (.block 2 (.loop (.seq (.seq (.region [
    ⟨(some 52), .move (.tmp 13), none, [], true⟩,
    ⟨(some 53), .move (.tmp 3), none, [], true⟩,
    ⟨(some 54), .conv .i64 (.tmp 53), none, [], true⟩,
    ⟨(some 55), .bin .rem (.tmp 54) (.const (.int .i64 40)), none, [], true⟩,
    ⟨(some 56), .bin .lss (.tmp 52) (.tmp 55), none, [], true⟩])
  (.cond (.tmp 56)
   .skip
   (.exit 2)))
  (.seq (.block 3 (.region [
    ⟨(some 59), .load (some 2) (.tmp 4), none, [], true⟩,
    ⟨(some 60), .load (some 3) (.tmp 12), none, [], true⟩,
    ⟨(some 61), .move (.tmp 1), none, [], true⟩,
    ⟨(some 62), .move (.tmp 2), none, [], true⟩,
    ⟨(some 63), .bin .add (.tmp 61) (.tmp 62), none, [], true⟩,
    ⟨(some 64), .call (.const (.func (.func 13) #[] #[])) [(.tmp 59), (.tmp 60), (.tmp 63)], none, [], true⟩,
    ⟨none, .store 3 (.tmp 12) (.tmp 64), none, [], true⟩]))
  (.region [
    ⟨(some 57), .move (.tmp 13), none, [], true⟩,
    ⟨(some 58), .bin .add (.tmp 57) (.const (.int .i64 1)), none, [], true⟩,
    ⟨(some 13), .move (.tmp 58), none, [], true⟩]))))))
  (.seq (.region [
    ⟨(some 66), .load (some 3) (.tmp 12), none, [], true⟩,
    ⟨(some 67), .load (some 3) (.tmp 10), none, [], true⟩,
    ⟨(some 68), .build [(.bool false), (.int .u64 0), (.int .i64 0)] [], none, [], true⟩,
    ⟨(some 69), .buildSlice 3 3 [(.bool false), (.int .u64 0), (.int .i64 0)] [(0, (.tmp 66)), (1, (.tmp 67)), (2, (.tmp 68))], none, [], true⟩,
    ⟨(some 70), .call (.const (.func (.func 8) #[] #[])) [(.tmp 69)], none, [], true⟩,
    ⟨(some 65), .move (.tmp 70), none, [], true⟩,
    ⟨(some 71), .extract (.tmp 65) 0, none, [], true⟩,
    ⟨(some 72), .extract (.tmp 65) 1, none, [], true⟩,
    ⟨(some 14), .move (.tmp 71), none, [], true⟩,
    ⟨(some 15), .move (.tmp 72), none, [], true⟩])
  (.seq (.region [
    ⟨(some 73), .move (.tmp 9), none, [], true⟩,
    ⟨(some 74), .move (.tmp 73), none, [], true⟩,
    ⟨(some 75), .fieldAddr 1 (.tmp 12), (some (74, true)), [], true⟩,
    ⟨(some 76), .load none (.tmp 75), (some (74, true)), [], true⟩,
    ⟨(some 77), .fieldAddr 1 (.tmp 10), (some (74, true)), [], true⟩,
    ⟨(some 78), .load none (.tmp 77), (some (74, true)), [], true⟩,
    ⟨(some 79), .move (.tmp 2), (some (74, true)), [], true⟩,
    ⟨(some 80), .bin .add (.tmp 78) (.tmp 79), (some (74, true)), [], true⟩,
    ⟨(some 81), .bin .eql (.tmp 76) (.tmp 80), (some (74, true)), [], true⟩,
    ⟨(some 82), .pick (.tmp 74) (.tmp 81) (.const (.bool false)), none, [], true⟩,
    ⟨(some 83), .move (.tmp 82), none, [], true⟩,
    ⟨(some 84), .move (.tmp 15), (some (83, true)), [], true⟩,
    ⟨(some 85), .pick (.tmp 83) (.tmp 84) (.const (.bool false)), none, [], true⟩,
    ⟨(some 86), .move (.tmp 85), none, [], true⟩,
    ⟨(some 87), .move (.tmp 14), (some (86, true)), [], true⟩,
    ⟨(some 88), .fieldAddr 1 (.tmp 10), (some (86, true)), [], true⟩,
    ⟨(some 89), .load none (.tmp 88), (some (86, true)), [], true⟩,
    ⟨(some 90), .bin .eql (.tmp 87) (.tmp 89), (some (86, true)), [], true⟩,
    ⟨(some 91), .pick (.tmp 86) (.tmp 90) (.const (.bool false)), none, [], true⟩,
    ⟨(some 92), .move (.tmp 91), none, [], true⟩,
    ⟨(some 93), .load (some 2) (.tmp 4), (some (92, true)), [], true⟩,
    ⟨(some 94), .load (some 3) (.tmp 10), (some (92, true)), [], true⟩,
    ⟨(some 95), .move (.tmp 14), (some (92, true)), [], true⟩,
    ⟨(some 96), .call (.const (.func (.func 12) #[] #[])) [(.tmp 93), (.tmp 94), (.tmp 95)], (some (92, true)), [], true⟩,
    ⟨(some 97), .pick (.tmp 92) (.tmp 96) (.const (.bool false)), none, [], true⟩,
    ⟨(some 98), .move (.tmp 97), none, [], true⟩,
    ⟨(some 99), .load (some 2) (.tmp 4), (some (98, true)), [], true⟩,
    ⟨(some 100), .load (some 3) (.tmp 10), (some (98, true)), [], true⟩,
    ⟨(some 101), .move (.tmp 14), (some (98, true)), [], true⟩,
    ⟨(some 102), .move (.tmp 2), (some (98, true)), [], true⟩,
    ⟨(some 103), .bin .add (.tmp 101) (.tmp 102), (some (98, true)), [], true⟩,
    ⟨(some 104), .call (.const (.func (.func 12) #[] #[])) [(.tmp 99), (.tmp 100), (.tmp 103)], (some (98, true)), [], true⟩,
    ⟨(some 105), .pick (.tmp 98) (.tmp 104) (.const (.bool false)), none, [], true⟩,
    ⟨(some 106), .move (.tmp 105), none, [], true⟩,
    ⟨(some 107), .load (some 2) (.tmp 4), (some (106, true)), [], true⟩,
    ⟨(some 108), .load (some 3) (.tmp 12), (some (106, true)), [], true⟩,
    ⟨(some 109), .move (.tmp 14), (some (106, true)), [], true⟩,
    ⟨(some 110), .bin .sub (.tmp 109) (.const (.int .u64 1)), (some (106, true)), [], true⟩,
    ⟨(some 111), .call (.const (.func (.func 12) #[] #[])) [(.tmp 107), (.tmp 108), (.tmp 110)], (some (106, true)), [], true⟩,
    ⟨(some 112), .un .not (.tmp 111), (some (106, true)), [], true⟩,
    ⟨(some 113), .pick (.tmp 106) (.tmp 112) (.const (.bool false)), none, [], true⟩,
    ⟨(some 114), .move (.tmp 113), none, [], true⟩,
    ⟨(some 115), .fieldAddr 2 (.tmp 10), (some (114, true)), [], true⟩,
    ⟨(some 116), .load none (.tmp 115), (some (114, true)), [], true⟩,
    ⟨(some 117), .fieldAddr 2 (.tmp 12), (some (114, true)), [], true⟩,
    ⟨(some 118), .load none (.tmp 117), (some (114, true)), [], true⟩,
    ⟨(some 119), .bin .eql (.tmp 116) (.tmp 118), (some (114, true)), [], true⟩,
    ⟨(some 120), .pick (.tmp 114) (.tmp 119) (.const (.bool false)), none, [], true⟩,
    ⟨(some 8), .move (.tmp 120), none, [], true⟩])
  .ret))))))))) }
theorem ir6_eq : funcC Try.prog 6 = some ir6 := by kernel_rfl
/-- wagonway/wagonwaylaw09.AlarmNames -/
def ir7 : IFunc :=
{ ntmps := 124, results := [.tmp 0], body :=
  (.seq (.region [
    ⟨(some 0), .move (.const (.bool false)), none, [], true⟩])
  (.seq (.region [
    ⟨(some 9), .call (.const (.func (.func 16) #[] #[])) [], none, [], true⟩,
    ⟨(some 1), .box (.const (.agg #[(.int .u64 0), (.int .u64 0)])), none, [], true⟩,
    ⟨none, .store 2 (.tmp 1) (.tmp 9), none, [], true⟩])
  (.seq (.drawn [
    ⟨(some 10), .load (some 2) (.tmp 1), none, [], false⟩,
    ⟨(some 11), .load (some 2) (.tmp 1), none, [], false⟩,
    ⟨(some 12), .call (.const (.func (.func 11) #[] #[])) [(.tmp 11), (.const (.int .u64 10))], none, [1], false⟩,
    ⟨(some 13), .call (.const (.func (.func 13) #[] #[])) [(.tmp 10), (.tmp 12), (.const (.int .u64 13))], none, [0, 2, 1], false⟩,
    ⟨(some 2), .box (.const (.agg #[(.bool false), (.int .u64 0), (.int .i64 0)])), none, [], false⟩,
    ⟨none, .store 3 (.tmp 2) (.tmp 13), none, [4, 3, 0, 1, 2], true⟩])
  (.seq (.region [
    ⟨(some 14), .build [(.int .u64 0), (.int .u64 0)] [(0, 1, (.const (.int .u64 5))), (1, 1, (.const (.int .u64 4)))], none, [], true⟩,
    ⟨(some 3), .box (.const (.agg #[(.int .u64 0), (.int .u64 0)])), none, [], true⟩,
    ⟨none, .store 2 (.tmp 3) (.tmp 14), none, [], true⟩])
  (.seq (.region [
    ⟨(some 15), .build [(.int .u64 0), (.int .u64 0)] [(0, 1, (.const (.int .u64 1))), (1, 1, (.const (.int .u64 4294967296)))], none, [], true⟩,
    ⟨(some 4), .box (.const (.agg #[(.int .u64 0), (.int .u64 0)])), none, [], true⟩,
    ⟨none, .store 2 (.tmp 4) (.tmp 15), none, [], true⟩])
  (.seq (.region [
    ⟨(some 17), .build [(.bool false), (.int .u64 0), (.int .i64 0)] [(1, 1, (.const (.int .u64 1)))], none, [], true⟩,
    ⟨(some 18), .build [(.bool false), (.int .u64 0), (.int .i64 0)] [(0, 1, (.const (.bool true))), (1, 1, (.const (.int .u64 9)))], none, [], true⟩,
    ⟨(some 19), .build [(.bool false), (.int .u64 0), (.int .i64 0)] [(0, 1, (.const (.bool true))), (1, 1, (.const (.int .u64 7)))], none, [], true⟩,
    ⟨(some 20), .buildSlice 3 3 [(.bool false), (.int .u64 0), (.int .i64 0)] [(0, (.tmp 17)), (1, (.tmp 18)), (2, (.tmp 19))], none, [], true⟩,
    ⟨(some 21), .call (.const (.func (.func 8) #[] #[])) [(.tmp 20)], none, [], true⟩,
    ⟨(some 16), .move (.tmp 21), none, [], true⟩,
    ⟨(some 22), .extract (.tmp 16) 0, none, [], true⟩,
    ⟨(some 23), .extract (.tmp 16) 1, none, [], true⟩,
    ⟨(some 5), .move (.tmp 22), none, [], true⟩,
    ⟨(some 6), .move (.tmp 23), none, [], true⟩])
  (.seq (.region [
    ⟨(some 25), .call (.const (.func (.func 8) #[] #[])) [(.const (.slice none 0 0))], none, [], true⟩,
    ⟨(some 24), .move (.tmp 25), none, [], true⟩,
    ⟨(some 26), .extract (.tmp 24) 0, none, [], true⟩,
    ⟨(some 27), .extract (.tmp 24) 1, none, [], true⟩,
    ⟨(some 7), .move (.tmp 26), none, [], true⟩,
    ⟨(some 8), .move (.tmp 27), none, [], true⟩])
  (.seq (.region [
    ⟨(some 28), .call (.const (.func (.func 9) #[] #[])) [], none, [], true⟩,
    ⟨(some 29), .move (.tmp 28), none, [], true⟩,
    ⟨(some 30), .pick (.tmp 29) (.const (.bool true)) (.const (.bool false)), none, [], true⟩,
    ⟨(some 31), .move (.tmp 30), none, [], true⟩,
    ⟨(some 32), .pick (.tmp 31) (.const (.bool true)) (.const (.bool false)), none, [], true⟩,
    ⟨(some 33), .move (.tmp 32), none, [], true⟩,
    ⟨(some 34), .pick (.tmp 33) (.const (.bool true)) (.const (.bool false)), none, [], true⟩,
    ⟨(some 35), .move (.tmp 34), none, [], true⟩,
    ⟨(some 36), .load (some 2) (.tmp 1), (some (35, true)), [], true⟩,
    ⟨(some 37), .call (.const (.func (.func 14) #[] #[])) [(.tmp 36), (.const (.int .i64 70))], (some (35, true)), [], true⟩,
    ⟨(some 38), .bin .eql (.tmp 37) (.const (.int .u64 20)), (some (35, true)), [], true⟩,
    ⟨(some 39), .pick (.tmp 35) (.tmp 38) (.const (.bool false)), none, [], true⟩,
    ⟨(some 40), .move (.tmp 39), none, [], true⟩,
    ⟨(some 41), .load (some 2) (.tmp 1), (some (40, true)), [], true⟩,
    ⟨(some 42), .call (.const (.func (.func 14) #[] #[])) [(.tmp 41), (.const (.int .i64 (-5)))], (some (40, true)), [], true⟩,
    ⟨(some 43), .bin .eql (.tmp 42) (.const (.int .u64 3)), (some (40, true)), [], true⟩,
    ⟨(some 44), .pick (.tmp 40) (.tmp 43) (.const (.bool false)), none, [], true⟩,
    ⟨(some 45), .move (.tmp 44), none, [], true⟩,
    ⟨(some 46), .load (some 2) (.tmp 1), (some (45, true)), [], true⟩,
    ⟨(some 47), .call (.const (.func (.func 15) #[] #[])) [(.tmp 46), (.const (.int .i64 2)), (.const (.int .u64 9))], (some (45, true)), [], true⟩,
    ⟨(some 48), .bin .eql (.tmp 47) (.const (.int .u64 14)), (some (45, true)), [], true⟩,
    ⟨(some 49), .pick (.tmp 45) (.tmp 48) (.const (.bool false)), none, [], true⟩,
    ⟨(some 50), .move (.tmp 49), none, [], true⟩,
    ⟨(some 51), .load (some 2) (.tmp 1), (some (50, true)), [], true⟩,
    ⟨(some 52), .load (some 3) (.tmp 2), (some (50, true)), [], true⟩,
    ⟨(some 53), .call (.const (.func (.func 12) #[] #[])) [(.tmp 51), (.tmp 52), (.const (.int .u64 18))], (some (50, true)), [], true⟩,
    ⟨(some 54), .un .not (.tmp 53), (some (50, true)), [], true⟩,
    ⟨(some 55), .pick (.tmp 50) (.tmp 54) (.const (.bool false)), none, [], true⟩,
    ⟨(some 56), .move (.tmp 55), none, [], true⟩,
    ⟨(some 57), .load (some 2) (.tmp 1), (some (56, true)), [], true⟩,
    ⟨(some 58), .load (some 3) (.tmp 2), (some (56, true)), [], true⟩,
    ⟨(some 59), .call (.const (.func (.func 12) #[] #[])) [(.tmp 57), (.tmp 58), (.const (.int .u64 19))], (some (56, true)), [], true⟩,
    ⟨(some 60), .pick (.tmp 56) (.tmp 59) (.const (.bool false)), none, [], true⟩,
    ⟨(some 61), .move (.tmp 60), none, [], true⟩,
    ⟨(some 62), .load (some 2) (.tmp 1), (some (61, true)), [], true⟩,
    ⟨(some 63), .call (.const (.func (.func 10) #[] #[])) [(.tmp 62)], (some (61, true)), [], true⟩,
    ⟨(some 64), .bin .eql (.tmp 63) (.const (.int .i64 0)), (some (61, true)), [], true⟩,
    ⟨(some 65), .pick (.tmp 61) (.tmp 64) (.const (.bool false)), none, [], true⟩,
    ⟨(some 66), .move (.tmp 65), none, [], true⟩,
    ⟨(some 67), .load (some 2) (.tmp 3), (some (66, true)), [], true⟩,
    ⟨(some 68), .call (.const (.func (.func 10) #[] #[])) [(.tmp 67)], (some (66, true)), [], true⟩,
    ⟨(some 69), .bin .eql (.tmp 68) (.const (.int .i64 90)), (some (66, true)), [], true⟩,
    ⟨(some 70), .pick (.tmp 66) (.tmp 69) (.const (.bool false)), none, [], true⟩,
    ⟨(some 71), .move (.tmp 70), none, [], true⟩,
    ⟨(some 72), .build [(.int .u64 0), (.int .u64 0)] [], (some (71, true)), [], true⟩,
    ⟨(some 73), .call (.const (.func (.func 10) #[] #[])) [(.tmp 72)], (some (71, true)), [], true⟩,
    ⟨(some 74), .bin .eql (.tmp 73) (.const (.int .i64 90)), (some (71, true)), [], true⟩,
    ⟨(some 75), .pick (.tmp 71) (.tmp 74) (.const (.bool false)), none, [], true⟩,
    ⟨(some 76), .move (.tmp 75), none, [], true⟩,
    ⟨(some 77), .build [(.int .u64 0), (.int .u64 0)] [(0, 1, (.const (.int .u64 1))), (1, 1, (.const (.int .u64 4294967297)))], (some (76, true)), [], true⟩,
    ⟨(some 78), .call (.const (.func (.func 10) #[] #[])) [(.tmp 77)], (some (76, true)), [], true⟩,
    ⟨(some 79), .bin .eql (.tmp 78) (.const (.int .i64 90)), (some (76, true)), [], true⟩,
    ⟨(some 80), .pick (.tmp 76) (.tmp 79) (.const (.bool false)), none, [], true⟩,
    ⟨(some 81), .move (.tmp 80), none, [], true⟩,
    ⟨(some 82), .load (some 2) (.tmp 3), (some (81, true)), [], true⟩,
    ⟨(some 83), .call (.const (.func (.func 14) #[] #[])) [(.tmp 82), (.const (.int .i64 1))], (some (81, true)), [], true⟩,
    ⟨(some 84), .bin .eql (.tmp 83) (.const (.int .u64 0)), (some (81, true)), [], true⟩,
    ⟨(some 85), .pick (.tmp 81) (.tmp 84) (.const (.bool false)), none, [], true⟩,
    ⟨(some 86), .move (.tmp 85), none, [], true⟩,
    ⟨(some 87), .load (some 2) (.tmp 3), (some (86, true)), [], true⟩,
    ⟨(some 88), .call (.const (.func (.func 11) #[] #[])) [(.tmp 87), (.const (.int .u64 1))], (some (86, true)), [], true⟩,
    ⟨(some 89), .build [(.bool false), (.int .u64 0), (.int .i64 0)] [], (some (86, true)), [], true⟩,
    ⟨(some 90), .eqAgg false [.bool, .int, .int] (.tmp 88) (.tmp 89), (some (86, true)), [], true⟩,
    ⟨(some 91), .pick (.tmp 86) (.tmp 90) (.const (.bool false)), none, [], true⟩,
    ⟨(some 92), .move (.tmp 91), none, [], true⟩,
    ⟨(some 93), .load (some 2) (.tmp 4), (some (92, true)), [], true⟩,
    ⟨(some 94), .call (.const (.func (.func 14) #[] #[])) [(.tmp 93), (.const (.int .i64 31))], (some (92, true)), [], true⟩,
    ⟨(some 95), .bin .eql (.tmp 94) (.const (.int .u64 2147483648)), (some (92, true)), [], true⟩,
    ⟨(some 96), .pick (.tmp 92) (.tmp 95) (.const (.bool false)), none, [], true⟩,
    ⟨(some 97), .move (.tmp 96), none, [], true⟩,
    ⟨(some 98), .load (some 2) (.tmp 4), (some (97, true)), [], true⟩,
    ⟨(some 99), .call (.const (.func (.func 14) #[] #[])) [(.tmp 98), (.const (.int .i64 32))], (some (97, true)), [], true⟩,
    ⟨(some 100), .bin .eql (.tmp 99) (.const (.int .u64 4294967296)), (some (97, true)), [], true⟩,
    ⟨(some 101), .pick (.tmp 97) (.tmp 100) (.const (.bool false)), none, [], true⟩,
    ⟨(some 102), .move (.tmp 101), none, [], true⟩,
    ⟨(some 103), .load (some 2) (.tmp 4), (some (102, true)), [], true⟩,
    ⟨(some 104), .call (.const (.func (.func 14) #[] #[])) [(.tmp 103), (.const (.int .i64 1000))], (some (102, true)), [], true⟩,
    ⟨(some 105), .bin .eql (.tmp 104) (.const (.int .u64 4294967296)), (some (102, true)), [], true⟩,
    ⟨(some 106), .pick (.tmp 102) (.tmp 105) (.const (.bool false)), none, [], true⟩,
    ⟨(some 107), .move (.tmp 106), none, [], true⟩,
    ⟨(some 108), .move (.tmp 6), (some (107, true)), [], true⟩,
    ⟨(some 109), .pick (.tmp 107) (.tmp 108) (.const (.bool false)), none, [], true⟩,
    ⟨(some 110), .move (.tmp 109), none, [], true⟩,
    ⟨(some 111), .move (.tmp 5), (some (110, true)), [], true⟩,
    ⟨(some 112), .bin .eql (.tmp 111) (.const (.int .u64 7)), (some (110, true)), [], true⟩,
    ⟨(some 113), .pick (.tmp 110) (.tmp 112) (.const (.bool false)), none, [], true⟩,
    ⟨(some 114), .move (.tmp 113), none, [], true⟩,
    ⟨(some 115), .move (.tmp 8), (some (114, true)), [], true⟩,
    ⟨(some 116), .un .not (.tmp 115), (some (114, true)), [], true⟩,
    ⟨(some 117), .pick (.tmp 114) (.tmp 116) (.const (.bool false)), none, [], true⟩,
    ⟨(some 118), .move (.tmp 117), none, [], true⟩,
    ⟨(some 119), .load (some 2) (.tmp 4), (some (118, true)), [], true⟩,
    ⟨(some 120), .call (.const (.func (.func 11) #[] #[])) [(.tmp 119), (.const (.int .u64 18446744073709551615))], (some (118, true)), [], true⟩,
    ⟨(some 121), .field 1 none (.tmp 120), (some (118, true)), [], true⟩,
    ⟨(some 122), .bin .eql (.tmp 121) (.const (.int .u64 18446744073709551615)), (some (118, true)), [], true⟩,
    ⟨(some 123), .pick (.tmp 118) (.tmp 122) (.const (.bool false)), none, [], true⟩,
    ⟨(some 0), .move (.tmp 123), none, [], true⟩])
  .ret)))))))) }
theorem ir7_eq : funcC Try.prog 7 = some ir7 := by kernel_rfl
/-- wagonway/alarm.First -/
def ir8 : IFunc :=
{ ntmps := 31, results := [.tmp 2, .tmp 3], body :=
  (.seq (.region [
    ⟨(some 2), .move (.const (.int .u64 0)), none, [], true⟩,
    ⟨(some 3), .move (.const (.bool false)), none, [], true⟩])
  (.seq (.region [
    ⟨(some 4), .move (.const (.int .u64 0)), none, [], true⟩,
    ⟨(some 5), .move (.const (.bool false)), none, [], true⟩])
  (.seq (.seq (.region [
    ⟨(some 8), .move (.tmp 0), none, [], true⟩,
    ⟨(some 9), .lenSlice (.tmp 8), none, [], true⟩,
    ⟨(some 10), .move (.const (.int .i64 0)), none, [], true⟩])
  (.block 0 (.loop (.seq (.region [
    ⟨(some 11), .bin .lss (.tmp 10) (.tmp 9), none, [], true⟩])
  (.seq (.cond (.tmp 11)
   .skip
   (.exit 0))
  (.seq (.block 1 (.seq (.region [
    ⟨(some 12), .indexAddr 3 (.tmp 8) (.tmp 10), none, [], true⟩,
    ⟨(some 13), .load (some 3) (.tmp 12), none, [], true⟩,
    ⟨(some 7), .box (.const (.agg #[(.bool false), (.int .u64 0), (.int .i64 0)])), none, [], true⟩,
    ⟨none, .store 3 (.tmp 7) (.tmp 13), none, [], true⟩])
  (.seq (.region [
    ⟨(some 14), .fieldAddr 0 (.tmp 7), none, [], true⟩,
    ⟨(some 15), .load none (.tmp 14), none, [], true⟩,
    ⟨(some 16), .move (.tmp 15), none, [], true⟩,
    ⟨(some 17), .move (.tmp 5), (some (16, true)), [], true⟩,
    ⟨(some 18), .un .not (.tmp 17), (some (16, true)), [], true⟩,
    ⟨(some 19), .move (.tmp 18), (some (16, true)), [], true⟩,
    ⟨(some 20), .fieldAddr 1 (.tmp 7), (some (19, false)), [], true⟩,
    ⟨(some 21), .load none (.tmp 20), (some (19, false)), [], true⟩,
    ⟨(some 22), .move (.tmp 4), (some (19, false)), [], true⟩,
    ⟨(some 23), .bin .lss (.tmp 21) (.tmp 22), (some (19, false)), [], true⟩,
    ⟨(some 24), .pick (.tmp 19) (.const (.bool true)) (.tmp 23), (some (16, true)), [], true⟩,
    ⟨(some 25), .pick (.tmp 16) (.tmp 24) (.const (.bool false)), none, [], true⟩])
  (.cond (.tmp 25)
   (.region [
     ⟨(some 26), .fieldAddr 1 (.tmp 7), none, [], true⟩,
     ⟨(some 27), .load none (.tmp 26), none, [], true⟩,
     ⟨(some 4), .move (.tmp 27), none, [], true⟩,
     ⟨(some 5), .move (.const (.bool true)), none, [], true⟩])
   .skip))))
  (.region [
    ⟨(some 28), .bin .add (.tmp 10) (.const (.int .i64 1)), none, [], true⟩,
    ⟨(some 10), .move (.tmp 28), none, [], true⟩])))))))
  (.seq (.region [
    ⟨(some 29), .move (.tmp 4), none, [], true⟩,
    ⟨(some 30), .move (.tmp 5), none, [], true⟩,
    ⟨(some 2), .move (.tmp 29), none, [], true⟩,
    ⟨(some 3), .move (.tmp 30), none, [], true⟩])
  .ret)))) }
theorem ir8_eq : funcC Try.prog 8 = some ir8 := by kernel_rfl
/-- wagonway/wagonwaylaw09.alive -/
def ir9 : IFunc :=
{ ntmps := 33, results := [.tmp 0], body :=
  (.seq (.region [
    ⟨(some 0), .move (.const (.bool false)), none, [], true⟩])
  (.seq (.region [
    ⟨(some 4), .call (.const (.func (.func 16) #[] #[])) [], none, [], true⟩,
    ⟨(some 1), .box (.const (.agg #[(.int .u64 0), (.int .u64 0)])), none, [], true⟩,
    ⟨none, .store 2 (.tmp 1) (.tmp 4), none, [], true⟩])
  (.seq (.region [
    ⟨(some 5), .load (some 2) (.tmp 1), none, [], true⟩,
    ⟨(some 6), .call (.const (.func (.func 11) #[] #[])) [(.tmp 5), (.const (.int .u64 10))], none, [], true⟩,
    ⟨(some 2), .box (.const (.agg #[(.bool false), (.int .u64 0), (.int .i64 0)])), none, [], true⟩,
    ⟨none, .store 3 (.tmp 2) (.tmp 6), none, [], true⟩])
  (.seq (.region [
    ⟨(some 7), .load (some 2) (.tmp 1), none, [], true⟩,
    ⟨(some 8), .load (some 3) (.tmp 2), none, [], true⟩,
    ⟨(some 9), .call (.const (.func (.func 13) #[] #[])) [(.tmp 7), (.tmp 8), (.const (.int .u64 13))], none, [], true⟩,
    ⟨(some 3), .box (.const (.agg #[(.bool false), (.int .u64 0), (.int .i64 0)])), none, [], true⟩,
    ⟨none, .store 3 (.tmp 3) (.tmp 9), none, [], true⟩])
  (.seq (.region [
    ⟨(some 10), .load (some 2) (.tmp 1), none, [], true⟩,
    ⟨(some 11), .call (.const (.func (.func 14) #[] #[])) [(.tmp 10), (.const (.int .i64 0))], none, [], true⟩,
    ⟨(some 12), .bin .eql (.tmp 11) (.const (.int .u64 3)), none, [], true⟩,
    ⟨(some 13), .move (.tmp 12), none, [], true⟩,
    ⟨(some 14), .load (some 2) (.tmp 1), (some (13, true)), [], true⟩,
    ⟨(some 15), .call (.const (.func (.func 14) #[] #[])) [(.tmp 14), (.const (.int .i64 2))], (some (13, true)), [], true⟩,
    ⟨(some 16), .bin .eql (.tmp 15) (.const (.int .u64 12)), (some (13, true)), [], true⟩,
    ⟨(some 17), .pick (.tmp 13) (.tmp 16) (.const (.bool false)), none, [], true⟩,
    ⟨(some 18), .move (.tmp 17), none, [], true⟩,
    ⟨(some 19), .load (some 2) (.tmp 1), (some (18, true)), [], true⟩,
    ⟨(some 20), .call (.const (.func (.func 14) #[] #[])) [(.tmp 19), (.const (.int .i64 3))], (some (18, true)), [], true⟩,
    ⟨(some 21), .bin .eql (.tmp 20) (.const (.int .u64 20)), (some (18, true)), [], true⟩,
    ⟨(some 22), .pick (.tmp 18) (.tmp 21) (.const (.bool false)), none, [], true⟩,
    ⟨(some 23), .move (.tmp 22), none, [], true⟩,
    ⟨(some 24), .load (some 3) (.tmp 2), (some (23, true)), [], true⟩,
    ⟨(some 25), .build [(.bool false), (.int .u64 0), (.int .i64 0)] [(0, 1, (.const (.bool true))), (1, 1, (.const (.int .u64 13)))], (some (23, true)), [], true⟩,
    ⟨(some 26), .eqAgg false [.bool, .int, .int] (.tmp 24) (.tmp 25), (some (23, true)), [], true⟩,
    ⟨(some 27), .pick (.tmp 23) (.tmp 26) (.const (.bool false)), none, [], true⟩,
    ⟨(some 28), .move (.tmp 27), none, [], true⟩,
    ⟨(some 29), .load (some 3) (.tmp 3), (some (28, true)), [], true⟩,
    ⟨(some 30), .build [(.bool false), (.int .u64 0), (.int .i64 0)] [(0, 1, (.const (.bool true))), (1, 1, (.const (.int .u64 19))), (2, 1, (.const (.int .i64 1)))], (some (28, true)), [], true⟩,
    ⟨(some 31), .eqAgg false [.bool, .int, .int] (.tmp 29) (.tmp 30), (some (28, true)), [], true⟩,
    ⟨(some 32), .pick (.tmp 28) (.tmp 31) (.const (.bool false)), none, [], true⟩,
    ⟨(some 0), .move (.tmp 32), none, [], true⟩])
  .ret))))) }
theorem ir9_eq : funcC Try.prog 9 = some ir9 := by kernel_rfl
/-- wagonway/alarm.Check -/
def ir10 : IFunc :=
{ ntmps := 18, results := [.tmp 2], body :=
  (.seq (.region [
    ⟨(some 1), .box (.tmp 0), none, [], true⟩,
    ⟨(some 2), .move (.const (.int .i64 0)), none, [], true⟩])
  (.seq (.seq (.region [
    ⟨(some 3), .fieldAddr 0 (.tmp 1), none, [], true⟩,
    ⟨(some 4), .load none (.tmp 3), none, [], true⟩,
    ⟨(some 5), .bin .lss (.tmp 4) (.const (.int .u64 1)), none, [], true⟩,
    ⟨(some 6), .move (.tmp 5), none, [], true⟩,
    ⟨(some 7), .fieldAddr 0 (.tmp 1), (some (6, false)), [], true⟩,
    ⟨(some 8), .load none (.tmp 7), (some (6, false)), [], true⟩,
    ⟨(some 9), .fieldAddr 1 (.tmp 1), (some (6, false)), [], true⟩,
    ⟨(some 10), .load none (.tmp 9), (some (6, false)), [], true⟩,
    ⟨(some 11), .bin .gtr (.tmp 8) (.tmp 10), (some (6, false)), [], true⟩,
    ⟨(some 12), .pick (.tmp 6) (.const (.bool true)) (.tmp 11), none, [], true⟩,
    ⟨(some 13), .move (.tmp 12), none, [], true⟩,
    ⟨(some 14), .fieldAddr 1 (.tmp 1), (some (13, false)), [], true⟩,
    ⟨(some 15), .load none (.tmp 14), (some (13, false)), [], true⟩,
    ⟨(some 16), .bin .gtr (.tmp 15) (.const (.int .u64 4294967296)), (some (13, false)), [], true⟩,
    ⟨(some 17), .pick (.tmp 13) (.const (.bool true)) (.tmp 16), none, [], true⟩])
  (.cond (.tmp 17)
   (.seq (.region [
     ⟨(some 2), .move (.const (.int .i64 90)), none, [], true⟩])
   .ret)
   .skip))
  (.seq (.region [
    ⟨(some 2), .move (.const (.int .i64 0)), none, [], true⟩])
  .ret))) }
theorem ir10_eq : funcC Try.prog 10 = some ir10 := by kernel_rfl
/-- (wagonway/alarm.Rule).Start -/
def ir11 : IFunc :=
{ ntmps := 14, results := [.cell 4 (some 3)], body :=
  (.seq (.region [
    ⟨(some 2), .box (.tmp 0), none, [], true⟩,
    ⟨(some 4), .box (.const (.agg #[(.bool false), (.int .u64 0), (.int .i64 0)])), none, [], true⟩])
  (.seq (.seq (.region [
    ⟨(some 5), .load (some 2) (.tmp 2), none, [], true⟩,
    ⟨(some 6), .call (.const (.func (.func 10) #[] #[])) [(.tmp 5)], none, [], true⟩,
    ⟨(some 7), .bin .neq (.tmp 6) (.const (.int .i64 0)), none, [], true⟩])
  (.cond (.tmp 7)
   (.seq (.region [
     ⟨(some 8), .build [(.bool false), (.int .u64 0), (.int .i64 0)] [], none, [], true⟩,
     ⟨none, .store 3 (.tmp 4) (.tmp 8), none, [], true⟩])
   .ret)
   .skip))
  (.seq (.region [
    ⟨(some 9), .move (.tmp 1), none, [], true⟩,
    ⟨(some 10), .fieldAddr 0 (.tmp 2), none, [], true⟩,
    ⟨(some 11), .load none (.tmp 10), none, [], true⟩,
    ⟨(some 12), .call (.const (.func (.func 17) #[] #[])) [(.tmp 9), (.tmp 11)], none, [], true⟩,
    ⟨(some 13), .build [(.bool false), (.int .u64 0), (.int .i64 0)] [(0, 1, (.const (.bool true))), (1, 1, (.tmp 12))], none, [], true⟩,
    ⟨none, .store 3 (.tmp 4) (.tmp 13), none, [], true⟩])
  .ret))) }
theorem ir11_eq : funcC Try.prog 11 = some ir11 := by kernel_rfl
/-- (wagonway/alarm.Rule).Rings -/
def ir12 : IFunc :=
{ ntmps := 20, results := [.tmp 6], body :=
  (.seq (.region [
    ⟨(some 3), .box (.tmp 0), none, [], true⟩,
    ⟨(some 4), .box (.tmp 1), none, [], true⟩,
    ⟨(some 6), .move (.const (.bool false)), none, [], true⟩])
  (.seq (.region [
    ⟨(some 7), .load (some 2) (.tmp 3), none, [], true⟩,
    ⟨(some 8), .call (.const (.func (.func 10) #[] #[])) [(.tmp 7)], none, [], true⟩,
    ⟨(some 9), .bin .eql (.tmp 8) (.const (.int .i64 0)), none, [], true⟩,
    ⟨(some 10), .move (.tmp 9), none, [], true⟩,
    ⟨(some 11), .fieldAddr 0 (.tmp 4), (some (10, true)), [], true⟩,
    ⟨(some 12), .load none (.tmp 11), (some (10, true)), [], true⟩,
    ⟨(some 13), .pick (.tmp 10) (.tmp 12) (.const (.bool false)), none, [], true⟩,
    ⟨(some 14), .move (.tmp 13), none, [], true⟩,
    ⟨(some 15), .fieldAddr 1 (.tmp 4), (some (14, true)), [], true⟩,
    ⟨(some 16), .load none (.tmp 15), (some (14, true)), [], true⟩,
    ⟨(some 17), .move (.tmp 2), (some (14, true)), [], true⟩,
    ⟨(some 18), .bin .leq (.tmp 16) (.tmp 17), (some (14, true)), [], true⟩,
    ⟨(some 19), .pick (.tmp 14) (.tmp 18) (.const (.bool false)), none, [], true⟩,
    ⟨(some 6), .move (.tmp 19), none, [], true⟩])
  .ret)) }
theorem ir12_eq : funcC Try.prog 12 = some ir12 := by kernel_rfl
/-- (wagonway/alarm.Rule).Again -/
def ir13 : IFunc :=
{ ntmps := 29, results := [.cell 6 (some 3)], body :=
  (.seq (.region [
    ⟨(some 3), .box (.tmp 0), none, [], true⟩,
    ⟨(some 4), .box (.tmp 1), none, [], true⟩,
    ⟨(some 6), .box (.const (.agg #[(.bool false), (.int .u64 0), (.int .i64 0)])), none, [], true⟩])
  (.seq (.seq (.region [
    ⟨(some 8), .load (some 2) (.tmp 3), none, [], true⟩,
    ⟨(some 9), .call (.const (.func (.func 10) #[] #[])) [(.tmp 8)], none, [], true⟩,
    ⟨(some 10), .bin .neq (.tmp 9) (.const (.int .i64 0)), none, [], true⟩,
    ⟨(some 11), .move (.tmp 10), none, [], true⟩,
    ⟨(some 12), .fieldAddr 0 (.tmp 4), (some (11, false)), [], true⟩,
    ⟨(some 13), .load none (.tmp 12), (some (11, false)), [], true⟩,
    ⟨(some 14), .un .not (.tmp 13), (some (11, false)), [], true⟩,
    ⟨(some 15), .pick (.tmp 11) (.const (.bool true)) (.tmp 14), none, [], true⟩])
  (.cond (.tmp 15)
   (.seq (.region [
     ⟨(some 16), .build [(.bool false), (.int .u64 0), (.int .i64 0)] [], none, [], true⟩,
     ⟨none, .store 3 (.tmp 6) (.tmp 16), none, [], true⟩])
   .ret)
   .skip))
  (.seq (.region [
    ⟨(some 17), .fieldAddr 2 (.tmp 4), none, [], true⟩,
    ⟨(some 18), .load none (.tmp 17), none, [], true⟩,
    ⟨(some 19), .minmax true [(.tmp 18), (.const (.int .i64 0))], none, [], true⟩,
    ⟨(some 20), .minmax false [(.tmp 19), (.const (.int .i64 999))], none, [], true⟩,
    ⟨(some 21), .bin .add (.tmp 20) (.const (.int .i64 1)), none, [], true⟩,
    ⟨(some 7), .move (.tmp 21), none, [], true⟩])
  (.seq (.region [
    ⟨(some 22), .move (.tmp 2), none, [], true⟩,
    ⟨(some 23), .load (some 2) (.tmp 3), none, [], true⟩,
    ⟨(some 24), .move (.tmp 7), none, [], true⟩,
    ⟨(some 25), .call (.const (.func (.func 14) #[] #[])) [(.tmp 23), (.tmp 24)], none, [], true⟩,
    ⟨(some 26), .call (.const (.func (.func 17) #[] #[])) [(.tmp 22), (.tmp 25)], none, [], true⟩,
    ⟨(some 27), .move (.tmp 7), none, [], true⟩,
    ⟨(some 28), .build [(.bool false), (.int .u64 0), (.int .i64 0)] [(0, 1, (.const (.bool true))), (1, 1, (.tmp 26)), (2, 1, (.tmp 27))], none, [], true⟩,
    ⟨none, .store 3 (.tmp 6) (.tmp 28), none, [], true⟩])
  .ret)))) }
theorem ir13_eq : funcC Try.prog 13 = some ir13 := by kernel_rfl
/-- (wagonway/alarm.Rule).Delay -/
def ir14 : IFunc :=
{ ntmps := 22, results := [.tmp 4], body :=
  (.seq (.region [
    ⟨(some 2), .box (.tmp 0), none, [], true⟩,
    ⟨(some 3), .box (.tmp 1), none, [], true⟩,
    ⟨(some 4), .move (.const (.int .u64 0)), none, [], true⟩])
  (.seq (.seq (.region [
    ⟨(some 8), .load (some 2) (.tmp 2), none, [], true⟩,
    ⟨(some 9), .call (.const (.func (.func 10) #[] #[])) [(.tmp 8)], none, [], true⟩,
    ⟨(some 10), .bin .neq (.tmp 9) (.const (.int .i64 0)), none, [], true⟩])
  (.cond (.tmp 10)
   (.seq (.region [
     ⟨(some 4), .move (.const (.int .u64 0)), none, [], true⟩])
   .ret)
   .skip))
  (.seq (.region [
    ⟨(some 11), .fieldAddr 0 (.tmp 2), none, [], true⟩,
    ⟨(some 12), .load none (.tmp 11), none, [], true⟩,
    ⟨(some 5), .box (.const (.int .u64 0)), none, [], true⟩,
    ⟨none, .store 1 (.tmp 5) (.tmp 12), none, [], true⟩])
  (.seq .skip
  (.seq (.seq (.region [
    ⟨(some 13), .load (some 2) (.tmp 2), none, [], true⟩,
    ⟨(some 14), .call (.const (.func (.func 18) #[] #[])) [(.tmp 13)], none, [], true⟩])
  (.block 0 (.rangeFunc (.tmp 14) [15, 16]
   (.seq (.region [
     ⟨(some 6), .move (.tmp 15), none, [], true⟩])
   (.region [
     ⟨(some 7), .move (.tmp 16), none, [], true⟩]))
   (.block 1 (.seq (.region [
     ⟨(some 17), .move (.tmp 7), none, [], true⟩,
     ⟨none, .store 1 (.tmp 5) (.tmp 17), none, [], true⟩])
   (.seq (.region [
     ⟨(some 18), .move (.tmp 6), none, [], true⟩,
     ⟨(some 19), .load none (.tmp 3), none, [], true⟩,
     ⟨(some 20), .bin .geq (.tmp 18) (.tmp 19), none, [], true⟩])
   (.cond (.tmp 20)
    (.exit 0)
    .skip)))))))
  (.seq (.region [
    ⟨(some 21), .load none (.tmp 5), none, [], true⟩,
    ⟨(some 4), .move (.tmp 21), none, [], true⟩])
  .ret)))))) }
theorem ir14_eq : funcC Try.prog 14 = some ir14 := by kernel_rfl
/-- (wagonway/alarm.Rule).Shaken -/
def ir15 : IFunc :=
{ ntmps := 20, results := [.tmp 6], body :=
  (.seq (.region [
    ⟨(some 3), .box (.tmp 0), none, [], true⟩,
    ⟨(some 6), .move (.const (.int .u64 0)), none, [], true⟩])
  (.seq (.region [
    ⟨(some 8), .load (some 2) (.tmp 3), none, [], true⟩,
    ⟨(some 9), .move (.tmp 1), none, [], true⟩,
    ⟨(some 10), .call (.const (.func (.func 14) #[] #[])) [(.tmp 8), (.tmp 9)], none, [], true⟩,
    ⟨(some 7), .move (.tmp 10), none, [], true⟩])
  (.seq (.seq (.region [
    ⟨(some 11), .move (.tmp 7), none, [], true⟩,
    ⟨(some 12), .bin .eql (.tmp 11) (.const (.int .u64 0)), none, [], true⟩])
  (.cond (.tmp 12)
   (.seq (.region [
     ⟨(some 6), .move (.const (.int .u64 0)), none, [], true⟩])
   .ret)
   .skip))
  (.seq (.region [
    ⟨(some 13), .move (.tmp 7), none, [], true⟩,
    ⟨(some 14), .move (.tmp 2), none, [], true⟩,
    ⟨(some 15), .move (.tmp 7), none, [], true⟩,
    ⟨(some 16), .bin .quo (.tmp 15) (.const (.int .u64 2)), none, [], true⟩,
    ⟨(some 17), .bin .add (.tmp 16) (.const (.int .u64 1)), none, [], true⟩,
    ⟨(some 18), .bin .rem (.tmp 14) (.tmp 17), none, [], true⟩,
    ⟨(some 19), .bin .add (.tmp 13) (.tmp 18), none, [], true⟩,
    ⟨(some 6), .move (.tmp 19), none, [], true⟩])
  .ret)))) }
theorem ir15_eq : funcC Try.prog 15 = some ir15 := by kernel_rfl
/-- wagonway/wagonwaylaw09.few -/
def ir16 : IFunc :=
{ ntmps := 2, results := [.cell 0 (some 2)], body :=
  (.seq (.region [
    ⟨(some 0), .box (.const (.agg #[(.int .u64 0), (.int .u64 0)])), none, [], true⟩])
  (.seq (.region [
    ⟨(some 1), .build [(.int .u64 0), (.int .u64 0)] [(0, 1, (.const (.int .u64 3))), (1, 1, (.const (.int .u64 20)))], none, [], true⟩,
    ⟨none, .store 2 (.tmp 0) (.tmp 1), none, [], true⟩])
  .ret)) }
theorem ir16_eq : funcC Try.prog 16 = some ir16 := by kernel_rfl
/-- wagonway/alarm.later -/
def ir17 : IFunc :=
{ ntmps := 12, results := [.tmp 4], body :=
  (.seq (.region [
    ⟨(some 4), .move (.const (.int .u64 0)), none, [], true⟩])
  (.seq (.seq (.region [
    ⟨(some 5), .move (.tmp 1), none, [], true⟩,
    ⟨(some 6), .move (.tmp 0), none, [], true⟩,
    ⟨(some 7), .bin .sub (.const (.int .u64 18446744073709551615)) (.tmp 6), none, [], true⟩,
    ⟨(some 8), .bin .gtr (.tmp 5) (.tmp 7), none, [], true⟩])
  (.cond (.tmp 8)
   (.seq (.region [
     ⟨(some 4), .move (.const (.int .u64 18446744073709551615)), none, [], true⟩])
   .ret)
   .skip))
  (.seq (.region [
    ⟨(some 9), .move (.tmp 0), none, [], true⟩,
    ⟨(some 10), .move (.tmp 1), none, [], true⟩,
    ⟨(some 11), .bin .add (.tmp 9) (.tmp 10), none, [], true⟩,
    ⟨(some 4), .move (.tmp 11), none, [], true⟩])
  .ret))) }
theorem ir17_eq : funcC Try.prog 17 = some ir17 := by kernel_rfl
/-- (wagonway/alarm.Rule).delays -/
def ir18 : IFunc :=
{ ntmps := 4, results := [.tmp 2], body :=
  (.seq (.region [
    ⟨(some 1), .box (.tmp 0), none, [], true⟩,
    ⟨(some 2), .move (.const .nilFunc), none, [], true⟩])
  (.seq (.region [
    ⟨(some 3), .func (.func 19) [] [(.tmp 1)], none, [], true⟩,
    ⟨(some 2), .move (.tmp 3), none, [], true⟩])
  .ret)) }
theorem ir18_eq : funcC Try.prog 18 = some ir18 := by kernel_rfl
/-- (wagonway/alarm.Rule).delays$1 -/
def ir19 : IFunc :=
{ ntmps := 25, results := [], body :=
  (.seq (.region [
    ⟨(some 5), .fieldAddr 0 (.tmp 1), none, [], true⟩,
    ⟨(some 6), .load none (.tmp 5), none, [], true⟩,
    ⟨(some 3), .move (.tmp 6), none, [], true⟩])
  (.seq (.region [
    ⟨(some 4), .move (.const (.int .i64 0)), none, [], true⟩])
  (.block 0 (.loop (.seq (.block 1 (.seq (.seq (.region [
    ⟨(some 9), .move (.tmp 0), none, [], true⟩,
    ⟨(some 10), .move (.tmp 4), none, [], true⟩,
    ⟨(some 11), .move (.tmp 3), none, [], true⟩,
    ⟨(some 12), .fieldAddr 1 (.tmp 1), none, [], true⟩,
    ⟨(some 13), .load none (.tmp 12), none, [], true⟩,
    ⟨(some 14), .minmax false [(.tmp 11), (.tmp 13)], none, [], true⟩,
    ⟨(some 15), .call (.tmp 9) [(.tmp 10), (.tmp 14)], none, [], true⟩,
    ⟨(some 16), .un .not (.tmp 15), none, [], true⟩,
    ⟨(some 17), .move (.tmp 16), none, [], true⟩,
    ⟨(some 18), .move (.tmp 3), (some (17, false)), [], true⟩,
    ⟨(some 19), .fieldAddr 1 (.tmp 1), (some (17, false)), [], true⟩,
    ⟨(some 20), .load none (.tmp 19), (some (17, false)), [], true⟩,
    ⟨(some 21), .bin .geq (.tmp 18) (.tmp 20), (some (17, false)), [], true⟩,
    ⟨(some 22), .pick (.tmp 17) (.const (.bool true)) (.tmp 21), none, [], true⟩])
  (.cond (.tmp 22)
   .ret
   .skip))
  (.region [
    ⟨(some 23), .move (.tmp 3), none, [], true⟩,
    ⟨(some 24), .bin .mul (.tmp 23) (.const (.int .u64 2)), none, [], true⟩,
    ⟨(some 3), .move (.tmp 24), none, [], true⟩])))
  (.region [
    ⟨(some 7), .move (.tmp 4), none, [], true⟩,
    ⟨(some 8), .bin .add (.tmp 7) (.const (.int .i64 1)), none, [], true⟩,
    ⟨(some 4), .move (.tmp 8), none, [], true⟩])))))) }
theorem ir19_eq : funcC Try.prog 19 = some ir19 := by kernel_rfl
def table : List (Option IFunc) :=
  [none, none, none, some ir3, some ir4, some ir5, some ir6, some ir7, some ir8, some ir9, some ir10, some ir11, some ir12, some ir13, some ir14, some ir15, some ir16, some ir17, some ir18, some ir19]
def env : Env := fun g => (table[g]?).join
theorem env_ok : ∀ g F, env g = some F → funcC Try.prog g = some F := by
  intro g F h
  match g with
  | 0 => cases h
  | 1 => cases h
  | 2 => cases h
  | 3 => cases h; exact ir3_eq
  | 4 => cases h; exact ir4_eq
  | 5 => cases h; exact ir5_eq
  | 6 => cases h; exact ir6_eq
  | 7 => cases h; exact ir7_eq
  | 8 => cases h; exact ir8_eq
  | 9 => cases h; exact ir9_eq
  | 10 => cases h; exact ir10_eq
  | 11 => cases h; exact ir11_eq
  | 12 => cases h; exact ir12_eq
  | 13 => cases h; exact ir13_eq
  | 14 => cases h; exact ir14_eq
  | 15 => cases h; exact ir15_eq
  | 16 => cases h; exact ir16_eq
  | 17 => cases h; exact ir17_eq
  | 18 => cases h; exact ir18_eq
  | 19 => cases h; exact ir19_eq
  | g + 20 => simp [env, table] at h
end Go.Proofs.Ytdifjoelfnagmaa
