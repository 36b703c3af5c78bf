/-
  THE FUNCTIONS THAT THE STATEMENTS REACH, in the intermediate form; written by a program of this claim.
-/
import Derived.Test.YtpodmgbnldmlcaaDoorChecked
import Derived.Test.YtpodmgbnldmlcaaDoorFa
import Derived.KernelRfl
namespace Go.Proofs.YtpodmgbnldmlcaaDoor
open Go Go.Ideal
/-- wagonway/wagonwaylaw07.WireReads -/
def ir5 : IFunc :=
{ ntmps := 67, results := [.tmp 8], body :=
 (.seq (.region [
 ⟨(some 6), .box (.tmp 2), none, [], true⟩,
 ⟨(some 7), .box (.tmp 3), none, [], true⟩,
 ⟨(some 8), .move (.const (.bool false)), none, [], true⟩])
 (.seq (.seq (.region [
 ⟨(some 13), .move (.tmp 0), none, [], true⟩,
 ⟨(some 14), .lenSlice (.tmp 13), none, [], true⟩,
 ⟨(some 15), .bin .gtr (.tmp 14) (.const (.int .i64 500)), none, [], true⟩,
 ⟨(some 16), .move (.tmp 15), none, [], true⟩,
 ⟨(some 17), .fieldAddr 8 (.tmp 6), (some (16, false)), [], true⟩,
 ⟨(some 18), .load none (.tmp 17), (some (16, false)), [], true⟩,
 ⟨(some 19), .lenSlice (.tmp 18), (some (16, false)), [], true⟩,
 ⟨(some 20), .bin .gtr (.tmp 19) (.const (.int .i64 100)), (some (16, false)), [], true⟩,
 ⟨(some 21), .pick (.tmp 16) (.const (.bool true)) (.tmp 20), none, [], true⟩,
 ⟨(some 22), .move (.tmp 21), none, [], true⟩,
 ⟨(some 23), .fieldAddr 8 (.tmp 7), (some (22, false)), [], true⟩,
 ⟨(some 24), .load none (.tmp 23), (some (22, false)), [], true⟩,
 ⟨(some 25), .lenSlice (.tmp 24), (some (22, false)), [], true⟩,
 ⟨(some 26), .bin .gtr (.tmp 25) (.const (.int .i64 100)), (some (22, false)), [], true⟩,
 ⟨(some 27), .pick (.tmp 22) (.const (.bool true)) (.tmp 26), none, [], true⟩])
 (.cond (.tmp 27)
 (.seq (.region [
 ⟨(some 8), .move (.const (.bool true)), none, [], true⟩])
 .ret)
 .skip))
 (.seq (.region [
 ⟨(some 29), .move (.tmp 0), none, [], true⟩,
 ⟨(some 30), .call (.const (.func (.func 17) #[] #[])) [(.tmp 29)], none, [], true⟩,
 ⟨(some 28), .move (.tmp 30), none, [], true⟩,
 ⟨(some 31), .extract (.tmp 28) 0, none, [], true⟩,
 ⟨(some 32), .extract (.tmp 28) 1, none, [], true⟩,
 ⟨(some 9), .box (.const (.agg #[(.int .i64 0), (.int .i64 0), (.int .u32 0), (.int .u32 0), (.int .u32 0), (.int .u32 0), (.int .i64 0), (.int .i64 0), (.int .u32 0), (.int .u64 0), (.int .i64 0), (.int .i64 0), (.int .i64 0), (.int .i64 0), (.slice none 0 0)])), none, [], true⟩,
 ⟨none, .store 15 (.tmp 9) (.tmp 31), none, [], true⟩,
 ⟨(some 10), .move (.tmp 32), none, [], true⟩])
 (.seq (.region [
 ⟨(some 34), .move (.tmp 0), none, [], true⟩,
 ⟨(some 35), .call (.const (.func (.func 18) #[] #[])) [(.tmp 34)], none, [], true⟩,
 ⟨(some 33), .move (.tmp 35), none, [], true⟩,
 ⟨(some 36), .extract (.tmp 33) 0, none, [], true⟩,
 ⟨(some 37), .extract (.tmp 33) 1, none, [], true⟩,
 ⟨(some 11), .box (.const (.agg #[(.int .i64 0), (.int .i64 0), (.int .u32 0), (.int .u32 0), (.int .u32 0), (.int .u32 0), (.int .i64 0), (.int .i64 0), (.int .u32 0), (.int .u64 0), (.int .i64 0), (.int .i64 0), (.int .i64 0), (.int .i64 0), (.slice none 0 0)])), none, [], true⟩,
 ⟨none, .store 15 (.tmp 11) (.tmp 36), none, [], true⟩,
 ⟨(some 12), .move (.tmp 37), none, [], true⟩])
 (.seq (.drawn [
 ⟨(some 38), .move (.tmp 10), none, [], true⟩,
 ⟨(some 39), .move (.tmp 12), none, [], true⟩,
 ⟨(some 40), .bin .eql (.tmp 38) (.tmp 39), none, [0, 1], true⟩,
 ⟨(some 41), .move (.tmp 40), none, [2, 0, 1], true⟩,
 ⟨(some 42), .load (some 15) (.tmp 9), (some (41, true)), [3, 2, 0, 1], false⟩,
 ⟨(some 43), .load (some 15) (.tmp 11), (some (41, true)), [3, 2, 0, 1], false⟩,
 ⟨(some 44), .call (.const (.func (.func 19) #[] #[])) [(.tmp 42), (.tmp 43)], (some (41, true)), [4, 5, 3, 2, 0, 1], true⟩,
 ⟨(some 45), .pick (.tmp 41) (.tmp 44) (.const (.bool false)), none, [3, 6, 2, 0, 1, 4, 5], true⟩,
 ⟨(some 46), .move (.tmp 45), none, [7, 6, 3, 2, 0, 1, 4, 5], true⟩,
 ⟨(some 47), .move (.tmp 1), (some (46, true)), [8, 7, 6, 3, 2, 0, 1, 4, 5], true⟩,
 ⟨(some 48), .call (.const (.func (.func 20) #[] #[])) [(.tmp 47)], (some (46, true)), [9, 8, 7, 6, 3, 2, 0, 1, 4, 5], true⟩,
 ⟨(some 49), .move (.tmp 1), (some (46, true)), [8, 7, 6, 3, 2, 0, 1, 4, 5], false⟩,
 ⟨(some 50), .call (.const (.func (.func 21) #[] #[])) [(.tmp 49)], (some (46, true)), [11, 10, 8, 7, 6, 3, 2, 0, 1, 4, 5, 9], true⟩,
 ⟨(some 51), .bin .eql (.tmp 48) (.tmp 50), (some (46, true)), [10, 12, 8, 9, 7, 6, 3, 2, 0, 1, 4, 5, 11], true⟩,
 ⟨(some 52), .pick (.tmp 46) (.tmp 51) (.const (.bool false)), none, [8, 13, 7, 6, 3, 2, 0, 1, 4, 5, 10, 12, 9, 11], true⟩,
 ⟨(some 53), .move (.tmp 52), none, [14, 12, 8, 13, 7, 6, 3, 2, 0, 1, 4, 5, 10, 9, 11], true⟩,
 ⟨(some 54), .load (some 9) (.tmp 6), (some (53, true)), [15, 14, 12, 8, 13, 7, 6, 3, 2, 0, 1, 4, 5, 10, 9, 11], false⟩,
 ⟨(some 55), .load (some 9) (.tmp 7), (some (53, true)), [15, 14, 12, 8, 13, 7, 6, 3, 2, 0, 1, 4, 5, 10, 9, 11], false⟩,
 ⟨(some 56), .call (.const (.func (.func 22) #[] #[])) [(.tmp 54), (.tmp 55)], (some (53, true)), [16, 17, 15, 14, 12, 8, 13, 7, 6, 3, 2, 0, 1, 4, 5, 10, 9, 11], false⟩,
 ⟨(some 57), .load (some 9) (.tmp 6), (some (53, true)), [15, 14, 12, 8, 13, 7, 6, 3, 2, 0, 1, 4, 5, 10, 9, 11], false⟩,
 ⟨(some 58), .load (some 9) (.tmp 7), (some (53, true)), [15, 14, 12, 8, 13, 7, 6, 3, 2, 0, 1, 4, 5, 10, 9, 11], false⟩,
 ⟨(some 59), .call (.const (.func (.func 23) #[] #[])) [(.tmp 57), (.tmp 58)], (some (53, true)), [19, 20, 18, 15, 14, 12, 8, 13, 7, 6, 3, 2, 0, 1, 4, 5, 10, 9, 11, 16, 17], true⟩,
 ⟨(some 60), .eqBool false (.tmp 56) (.tmp 59), (some (53, true)), [18, 21, 15, 16, 17, 14, 12, 8, 13, 7, 6, 3, 2, 0, 1, 4, 5, 10, 9, 11, 19, 20], true⟩,
 ⟨(some 61), .pick (.tmp 53) (.tmp 60) (.const (.bool false)), none, [15, 22, 14, 12, 8, 13, 7, 6, 3, 2, 0, 1, 4, 5, 10, 9, 11, 18, 21, 16, 17, 19, 20], true⟩,
 ⟨(some 62), .move (.tmp 61), none, [23, 21, 15, 22, 14, 12, 8, 13, 7, 6, 3, 2, 0, 1, 4, 5, 10, 9, 11, 18, 16, 17, 19, 20], true⟩,
 ⟨(some 63), .load (some 9) (.tmp 6), (some (62, true)), [24, 23, 21, 15, 22, 14, 12, 8, 13, 7, 6, 3, 2, 0, 1, 4, 5, 10, 9, 11, 18, 16, 17, 19, 20], false⟩,
 ⟨(some 64), .load (some 9) (.tmp 6), (some (62, true)), [24, 23, 21, 15, 22, 14, 12, 8, 13, 7, 6, 3, 2, 0, 1, 4, 5, 10, 9, 11, 18, 16, 17, 19, 20], false⟩,
 ⟨(some 65), .call (.const (.func (.func 22) #[] #[])) [(.tmp 63), (.tmp 64)], (some (62, true)), [25, 26, 24, 23, 21, 15, 22, 14, 12, 8, 13, 7, 6, 3, 2, 0, 1, 4, 5, 10, 9, 11, 18, 16, 17, 19, 20], true⟩,
 ⟨(some 66), .pick (.tmp 62) (.tmp 65) (.const (.bool false)), none, [24, 27, 23, 21, 15, 22, 14, 12, 8, 13, 7, 6, 3, 2, 0, 1, 4, 5, 10, 9, 11, 18, 16, 17, 19, 20, 25, 26], true⟩,
 ⟨(some 8), .move (.tmp 66), none, [28, 27, 0, 1, 2, 3, 4, 5, 6, 7, 8, 9, 10, 11, 12, 13, 14, 15, 16, 17, 18, 19, 20, 21, 22, 23, 24, 25, 26], true⟩])
 .ret))))) }
theorem ir5_eq : funcC Tryd.prog 5 = some ir5 := by kernel_rfl
/-- wagonway/wagonwayref07.May -/
def ir9 : IFunc :=
{ ntmps := 33, results := [.tmp 2], body :=
 (.seq (.region [
 ⟨(some 1), .box (.tmp 0), none, [], true⟩,
 ⟨(some 2), .move (.const (.bool false)), none, [], true⟩])
 (.seq (.region [
 ⟨(some 3), .fieldAddr 0 (.tmp 1), none, [], true⟩,
 ⟨(some 4), .load none (.tmp 3), none, [], true⟩,
 ⟨(some 5), .bin .geq (.tmp 4) (.const (.int .i64 0)), none, [], true⟩,
 ⟨(some 6), .move (.tmp 5), none, [], true⟩,
 ⟨(some 7), .fieldAddr 0 (.tmp 1), (some (6, true)), [], true⟩,
 ⟨(some 8), .load none (.tmp 7), (some (6, true)), [], true⟩,
 ⟨(some 9), .bin .lss (.tmp 8) (.const (.int .i64 64)), (some (6, true)), [], true⟩,
 ⟨(some 10), .pick (.tmp 6) (.tmp 9) (.const (.bool false)), none, [], true⟩,
 ⟨(some 11), .move (.tmp 10), none, [], true⟩,
 ⟨(some 12), .fieldAddr 1 (.tmp 1), (some (11, true)), [], true⟩,
 ⟨(some 13), .load none (.tmp 12), (some (11, true)), [], true⟩,
 ⟨(some 14), .bin .geq (.tmp 13) (.const (.int .i64 0)), (some (11, true)), [], true⟩,
 ⟨(some 15), .pick (.tmp 11) (.tmp 14) (.const (.bool false)), none, [], true⟩,
 ⟨(some 16), .move (.tmp 15), none, [], true⟩,
 ⟨(some 17), .fieldAddr 1 (.tmp 1), (some (16, true)), [], true⟩,
 ⟨(some 18), .load none (.tmp 17), (some (16, true)), [], true⟩,
 ⟨(some 19), .bin .lss (.tmp 18) (.const (.int .i64 64)), (some (16, true)), [], true⟩,
 ⟨(some 20), .pick (.tmp 16) (.tmp 19) (.const (.bool false)), none, [], true⟩,
 ⟨(some 21), .move (.tmp 20), none, [], true⟩,
 ⟨(some 22), .fieldAddr 0 (.tmp 1), (some (21, true)), [], true⟩,
 ⟨(some 23), .load none (.tmp 22), (some (21, true)), [], true⟩,
 ⟨(some 24), .fieldAddr 1 (.tmp 1), (some (21, true)), [], true⟩,
 ⟨(some 25), .load none (.tmp 24), (some (21, true)), [], true⟩,
 ⟨(some 26), .bin .neq (.tmp 23) (.tmp 25), (some (21, true)), [], true⟩,
 ⟨(some 27), .pick (.tmp 21) (.tmp 26) (.const (.bool false)), none, [], true⟩,
 ⟨(some 28), .move (.tmp 27), none, [], true⟩,
 ⟨(some 29), .fieldAddr 6 (.tmp 1), (some (28, true)), [], true⟩,
 ⟨(some 30), .load (some 9) (.tmp 29), (some (28, true)), [], true⟩,
 ⟨(some 31), .call (.const (.func (.func 10) #[] #[])) [(.tmp 30)], (some (28, true)), [], true⟩,
 ⟨(some 32), .pick (.tmp 28) (.tmp 31) (.const (.bool false)), none, [], true⟩,
 ⟨(some 2), .move (.tmp 32), none, [], true⟩])
 .ret)) }
theorem ir9_eq : funcC Tryd.prog 9 = some ir9 := by kernel_rfl
/-- wagonway/wagonwayref07.MayMessage -/
def ir10 : IFunc :=
{ ntmps := 180, results := [.tmp 2], body :=
 (.seq (.region [
 ⟨(some 1), .box (.tmp 0), none, [], true⟩,
 ⟨(some 2), .move (.const (.bool false)), none, [], true⟩])
 (.seq (.seq (.region [
 ⟨(some 6), .fieldAddr 0 (.tmp 1), none, [], true⟩,
 ⟨(some 7), .load none (.tmp 6), none, [], true⟩,
 ⟨(some 8), .call (.const (.func (.func 21) #[] #[])) [(.tmp 7)], none, [], true⟩,
 ⟨(some 9), .bin .eql (.tmp 8) (.const (.string ⟨#[]⟩)), none, [], true⟩])
 (.cond (.tmp 9)
 (.seq (.region [
 ⟨(some 2), .move (.const (.bool false)), none, [], true⟩])
 .ret)
 .skip))
 (.seq (.region [
 ⟨(some 10), .fieldAddr 0 (.tmp 1), none, [], true⟩,
 ⟨(some 11), .load none (.tmp 10), none, [], true⟩,
 ⟨(some 12), .call (.const (.func (.func 25) #[] #[])) [(.tmp 11)], none, [], true⟩,
 ⟨(some 3), .move (.tmp 12), none, [], true⟩])
 (.seq (.seq (.region [
 ⟨(some 13), .fieldAddr 1 (.tmp 1), none, [], true⟩,
 ⟨(some 14), .load none (.tmp 13), none, [], true⟩,
 ⟨(some 15), .bin .lss (.tmp 14) (.const (.int .i64 0)), none, [], true⟩,
 ⟨(some 16), .move (.tmp 15), none, [], true⟩,
 ⟨(some 17), .fieldAddr 1 (.tmp 1), (some (16, false)), [], true⟩,
 ⟨(some 18), .load none (.tmp 17), (some (16, false)), [], true⟩,
 ⟨(some 19), .bin .gtr (.tmp 18) (.const (.int .i64 1023)), (some (16, false)), [], true⟩,
 ⟨(some 20), .pick (.tmp 16) (.const (.bool true)) (.tmp 19), none, [], true⟩,
 ⟨(some 21), .move (.tmp 20), none, [], true⟩,
 ⟨(some 22), .fieldAddr 4 (.tmp 1), (some (21, false)), [], true⟩,
 ⟨(some 23), .load none (.tmp 22), (some (21, false)), [], true⟩,
 ⟨(some 24), .bin .lss (.tmp 23) (.const (.int .i64 0)), (some (21, false)), [], true⟩,
 ⟨(some 25), .pick (.tmp 21) (.const (.bool true)) (.tmp 24), none, [], true⟩,
 ⟨(some 26), .move (.tmp 25), none, [], true⟩,
 ⟨(some 27), .fieldAddr 4 (.tmp 1), (some (26, false)), [], true⟩,
 ⟨(some 28), .load none (.tmp 27), (some (26, false)), [], true⟩,
 ⟨(some 29), .bin .gtr (.tmp 28) (.const (.int .i64 15)), (some (26, false)), [], true⟩,
 ⟨(some 30), .pick (.tmp 26) (.const (.bool true)) (.tmp 29), none, [], true⟩,
 ⟨(some 31), .move (.tmp 30), none, [], true⟩,
 ⟨(some 32), .fieldAddr 5 (.tmp 1), (some (31, false)), [], true⟩,
 ⟨(some 33), .load none (.tmp 32), (some (31, false)), [], true⟩,
 ⟨(some 34), .bin .lss (.tmp 33) (.const (.int .i64 0)), (some (31, false)), [], true⟩,
 ⟨(some 35), .pick (.tmp 31) (.const (.bool true)) (.tmp 34), none, [], true⟩,
 ⟨(some 36), .move (.tmp 35), none, [], true⟩,
 ⟨(some 37), .fieldAddr 5 (.tmp 1), (some (36, false)), [], true⟩,
 ⟨(some 38), .load none (.tmp 37), (some (36, false)), [], true⟩,
 ⟨(some 39), .bin .gtr (.tmp 38) (.const (.int .i64 64)), (some (36, false)), [], true⟩,
 ⟨(some 40), .pick (.tmp 36) (.const (.bool true)) (.tmp 39), none, [], true⟩,
 ⟨(some 41), .move (.tmp 40), none, [], true⟩,
 ⟨(some 42), .fieldAddr 6 (.tmp 1), (some (41, false)), [], true⟩,
 ⟨(some 43), .load none (.tmp 42), (some (41, false)), [], true⟩,
 ⟨(some 44), .bin .lss (.tmp 43) (.const (.int .i64 0)), (some (41, false)), [], true⟩,
 ⟨(some 45), .pick (.tmp 41) (.const (.bool true)) (.tmp 44), none, [], true⟩,
 ⟨(some 46), .move (.tmp 45), none, [], true⟩,
 ⟨(some 47), .fieldAddr 6 (.tmp 1), (some (46, false)), [], true⟩,
 ⟨(some 48), .load none (.tmp 47), (some (46, false)), [], true⟩,
 ⟨(some 49), .bin .gtr (.tmp 48) (.const (.int .i64 63)), (some (46, false)), [], true⟩,
 ⟨(some 50), .pick (.tmp 46) (.const (.bool true)) (.tmp 49), none, [], true⟩,
 ⟨(some 51), .move (.tmp 50), none, [], true⟩,
 ⟨(some 52), .fieldAddr 7 (.tmp 1), (some (51, false)), [], true⟩,
 ⟨(some 53), .load none (.tmp 52), (some (51, false)), [], true⟩,
 ⟨(some 54), .bin .lss (.tmp 53) (.const (.int .i64 (-1))), (some (51, false)), [], true⟩,
 ⟨(some 55), .pick (.tmp 51) (.const (.bool true)) (.tmp 54), none, [], true⟩,
 ⟨(some 56), .move (.tmp 55), none, [], true⟩,
 ⟨(some 57), .fieldAddr 7 (.tmp 1), (some (56, false)), [], true⟩,
 ⟨(some 58), .load none (.tmp 57), (some (56, false)), [], true⟩,
 ⟨(some 59), .bin .gtr (.tmp 58) (.const (.int .i64 63)), (some (56, false)), [], true⟩,
 ⟨(some 60), .pick (.tmp 56) (.const (.bool true)) (.tmp 59), none, [], true⟩,
 ⟨(some 61), .move (.tmp 60), none, [], true⟩,
 ⟨(some 62), .fieldAddr 8 (.tmp 1), (some (61, false)), [], true⟩,
 ⟨(some 63), .load none (.tmp 62), (some (61, false)), [], true⟩,
 ⟨(some 64), .lenSlice (.tmp 63), (some (61, false)), [], true⟩,
 ⟨(some 65), .bin .gtr (.tmp 64) (.const (.int .i64 16)), (some (61, false)), [], true⟩,
 ⟨(some 66), .pick (.tmp 61) (.const (.bool true)) (.tmp 65), none, [], true⟩])
 (.cond (.tmp 66)
 (.seq (.region [
 ⟨(some 2), .move (.const (.bool false)), none, [], true⟩])
 .ret)
 .skip))
 (.seq (.seq (.region [
 ⟨(some 67), .move (.tmp 3), none, [], true⟩,
 ⟨(some 68), .call (.const (.func (.func 26) #[] #[])) [(.tmp 67), (.const (.int .u8 99))], none, [], true⟩,
 ⟨(some 69), .un .not (.tmp 68), none, [], true⟩,
 ⟨(some 70), .move (.tmp 69), none, [], true⟩,
 ⟨(some 71), .fieldAddr 1 (.tmp 1), (some (70, true)), [], true⟩,
 ⟨(some 72), .load none (.tmp 71), (some (70, true)), [], true⟩,
 ⟨(some 73), .bin .neq (.tmp 72) (.const (.int .i64 0)), (some (70, true)), [], true⟩,
 ⟨(some 74), .pick (.tmp 70) (.tmp 73) (.const (.bool false)), none, [], true⟩,
 ⟨(some 75), .move (.tmp 74), none, [], true⟩,
 ⟨(some 76), .move (.tmp 3), (some (75, false)), [], true⟩,
 ⟨(some 77), .call (.const (.func (.func 26) #[] #[])) [(.tmp 76), (.const (.int .u8 103))], (some (75, false)), [], true⟩,
 ⟨(some 78), .un .not (.tmp 77), (some (75, false)), [], true⟩,
 ⟨(some 79), .move (.tmp 78), (some (75, false)), [], true⟩,
 ⟨(some 80), .fieldAddr 2 (.tmp 1), (some (79, true)), [], true⟩,
 ⟨(some 81), .load none (.tmp 80), (some (79, true)), [], true⟩,
 ⟨(some 82), .bin .neq (.tmp 81) (.const (.int .u32 0)), (some (79, true)), [], true⟩,
 ⟨(some 83), .pick (.tmp 79) (.tmp 82) (.const (.bool false)), (some (75, false)), [], true⟩,
 ⟨(some 84), .pick (.tmp 75) (.const (.bool true)) (.tmp 83), none, [], true⟩,
 ⟨(some 85), .move (.tmp 84), none, [], true⟩,
 ⟨(some 86), .move (.tmp 3), (some (85, false)), [], true⟩,
 ⟨(some 87), .call (.const (.func (.func 26) #[] #[])) [(.tmp 86), (.const (.int .u8 115))], (some (85, false)), [], true⟩,
 ⟨(some 88), .un .not (.tmp 87), (some (85, false)), [], true⟩,
 ⟨(some 89), .move (.tmp 88), (some (85, false)), [], true⟩,
 ⟨(some 90), .fieldAddr 3 (.tmp 1), (some (89, true)), [], true⟩,
 ⟨(some 91), .load none (.tmp 90), (some (89, true)), [], true⟩,
 ⟨(some 92), .bin .neq (.tmp 91) (.const (.int .u64 0)), (some (89, true)), [], true⟩,
 ⟨(some 93), .pick (.tmp 89) (.tmp 92) (.const (.bool false)), (some (85, false)), [], true⟩,
 ⟨(some 94), .pick (.tmp 85) (.const (.bool true)) (.tmp 93), none, [], true⟩,
 ⟨(some 95), .move (.tmp 94), none, [], true⟩,
 ⟨(some 96), .move (.tmp 3), (some (95, false)), [], true⟩,
 ⟨(some 97), .call (.const (.func (.func 26) #[] #[])) [(.tmp 96), (.const (.int .u8 112))], (some (95, false)), [], true⟩,
 ⟨(some 98), .un .not (.tmp 97), (some (95, false)), [], true⟩,
 ⟨(some 99), .move (.tmp 98), (some (95, false)), [], true⟩,
 ⟨(some 100), .fieldAddr 4 (.tmp 1), (some (99, true)), [], true⟩,
 ⟨(some 101), .load none (.tmp 100), (some (99, true)), [], true⟩,
 ⟨(some 102), .bin .neq (.tmp 101) (.const (.int .i64 0)), (some (99, true)), [], true⟩,
 ⟨(some 103), .pick (.tmp 99) (.tmp 102) (.const (.bool false)), (some (95, false)), [], true⟩,
 ⟨(some 104), .pick (.tmp 95) (.const (.bool true)) (.tmp 103), none, [], true⟩,
 ⟨(some 105), .move (.tmp 104), none, [], true⟩,
 ⟨(some 106), .move (.tmp 3), (some (105, false)), [], true⟩,
 ⟨(some 107), .call (.const (.func (.func 26) #[] #[])) [(.tmp 106), (.const (.int .u8 104))], (some (105, false)), [], true⟩,
 ⟨(some 108), .un .not (.tmp 107), (some (105, false)), [], true⟩,
 ⟨(some 109), .move (.tmp 108), (some (105, false)), [], true⟩,
 ⟨(some 110), .fieldAddr 5 (.tmp 1), (some (109, true)), [], true⟩,
 ⟨(some 111), .load none (.tmp 110), (some (109, true)), [], true⟩,
 ⟨(some 112), .bin .neq (.tmp 111) (.const (.int .i64 0)), (some (109, true)), [], true⟩,
 ⟨(some 113), .pick (.tmp 109) (.tmp 112) (.const (.bool false)), (some (105, false)), [], true⟩,
 ⟨(some 114), .pick (.tmp 105) (.const (.bool true)) (.tmp 113), none, [], true⟩,
 ⟨(some 115), .move (.tmp 114), none, [], true⟩,
 ⟨(some 116), .move (.tmp 3), (some (115, false)), [], true⟩,
 ⟨(some 117), .call (.const (.func (.func 26) #[] #[])) [(.tmp 116), (.const (.int .u8 111))], (some (115, false)), [], true⟩,
 ⟨(some 118), .un .not (.tmp 117), (some (115, false)), [], true⟩,
 ⟨(some 119), .move (.tmp 118), (some (115, false)), [], true⟩,
 ⟨(some 120), .fieldAddr 6 (.tmp 1), (some (119, true)), [], true⟩,
 ⟨(some 121), .load none (.tmp 120), (some (119, true)), [], true⟩,
 ⟨(some 122), .bin .neq (.tmp 121) (.const (.int .i64 0)), (some (119, true)), [], true⟩,
 ⟨(some 123), .pick (.tmp 119) (.tmp 122) (.const (.bool false)), (some (115, false)), [], true⟩,
 ⟨(some 124), .pick (.tmp 115) (.const (.bool true)) (.tmp 123), none, [], true⟩,
 ⟨(some 125), .move (.tmp 124), none, [], true⟩,
 ⟨(some 126), .move (.tmp 3), (some (125, false)), [], true⟩,
 ⟨(some 127), .call (.const (.func (.func 26) #[] #[])) [(.tmp 126), (.const (.int .u8 119))], (some (125, false)), [], true⟩,
 ⟨(some 128), .un .not (.tmp 127), (some (125, false)), [], true⟩,
 ⟨(some 129), .move (.tmp 128), (some (125, false)), [], true⟩,
 ⟨(some 130), .fieldAddr 7 (.tmp 1), (some (129, true)), [], true⟩,
 ⟨(some 131), .load none (.tmp 130), (some (129, true)), [], true⟩,
 ⟨(some 132), .bin .neq (.tmp 131) (.const (.int .i64 0)), (some (129, true)), [], true⟩,
 ⟨(some 133), .pick (.tmp 129) (.tmp 132) (.const (.bool false)), (some (125, false)), [], true⟩,
 ⟨(some 134), .pick (.tmp 125) (.const (.bool true)) (.tmp 133), none, [], true⟩,
 ⟨(some 135), .move (.tmp 134), none, [], true⟩,
 ⟨(some 136), .move (.tmp 3), (some (135, false)), [], true⟩,
 ⟨(some 137), .call (.const (.func (.func 26) #[] #[])) [(.tmp 136), (.const (.int .u8 108))], (some (135, false)), [], true⟩,
 ⟨(some 138), .un .not (.tmp 137), (some (135, false)), [], true⟩,
 ⟨(some 139), .move (.tmp 138), (some (135, false)), [], true⟩,
 ⟨(some 140), .fieldAddr 8 (.tmp 1), (some (139, true)), [], true⟩,
 ⟨(some 141), .load none (.tmp 140), (some (139, true)), [], true⟩,
 ⟨(some 142), .lenSlice (.tmp 141), (some (139, true)), [], true⟩,
 ⟨(some 143), .bin .gtr (.tmp 142) (.const (.int .i64 0)), (some (139, true)), [], true⟩,
 ⟨(some 144), .pick (.tmp 139) (.tmp 143) (.const (.bool false)), (some (135, false)), [], true⟩,
 ⟨(some 145), .pick (.tmp 135) (.const (.bool true)) (.tmp 144), none, [], true⟩])
 (.cond (.tmp 145)
 (.seq (.region [
 ⟨(some 2), .move (.const (.bool false)), none, [], true⟩])
 .ret)
 .skip))
 (.seq (.seq (.region [
 ⟨(some 4), .move (.const (.int .i64 0)), none, [], true⟩])
 (.block 0 (.loop (.seq (.seq (.region [
 ⟨(some 146), .move (.tmp 4), none, [], true⟩,
 ⟨(some 147), .fieldAddr 8 (.tmp 1), none, [], true⟩,
 ⟨(some 148), .load none (.tmp 147), none, [], true⟩,
 ⟨(some 149), .lenSlice (.tmp 148), none, [], true⟩,
 ⟨(some 150), .bin .lss (.tmp 146) (.tmp 149), none, [], true⟩])
 (.cond (.tmp 150)
 .skip
 (.exit 0)))
 (.seq (.block 1 (.seq (.region [
 ⟨(some 153), .fieldAddr 8 (.tmp 1), none, [], true⟩,
 ⟨(some 154), .load none (.tmp 153), none, [], true⟩,
 ⟨(some 155), .move (.tmp 4), none, [], true⟩,
 ⟨(some 156), .indexAddr 2 (.tmp 154) (.tmp 155), none, [], true⟩,
 ⟨(some 157), .fieldAddr 0 (.tmp 156), none, [], true⟩,
 ⟨(some 158), .load none (.tmp 157), none, [], true⟩,
 ⟨(some 5), .move (.tmp 158), none, [], true⟩])
 (.seq (.region [
 ⟨(some 159), .move (.tmp 5), none, [], true⟩,
 ⟨(some 160), .bin .lss (.tmp 159) (.const (.int .i64 0)), none, [], true⟩,
 ⟨(some 161), .move (.tmp 160), none, [], true⟩,
 ⟨(some 162), .move (.tmp 5), (some (161, false)), [], true⟩,
 ⟨(some 163), .bin .gtr (.tmp 162) (.const (.int .i64 1023)), (some (161, false)), [], true⟩,
 ⟨(some 164), .pick (.tmp 161) (.const (.bool true)) (.tmp 163), none, [], true⟩,
 ⟨(some 165), .move (.tmp 164), none, [], true⟩,
 ⟨(some 166), .move (.tmp 4), (some (165, false)), [], true⟩,
 ⟨(some 167), .bin .gtr (.tmp 166) (.const (.int .i64 0)), (some (165, false)), [], true⟩,
 ⟨(some 168), .move (.tmp 167), (some (165, false)), [], true⟩,
 ⟨(some 169), .fieldAddr 8 (.tmp 1), (some (168, true)), [], true⟩,
 ⟨(some 170), .load none (.tmp 169), (some (168, true)), [], true⟩,
 ⟨(some 171), .move (.tmp 4), (some (168, true)), [], true⟩,
 ⟨(some 172), .bin .sub (.tmp 171) (.const (.int .i64 1)), (some (168, true)), [], true⟩,
 ⟨(some 173), .indexAddr 2 (.tmp 170) (.tmp 172), (some (168, true)), [], true⟩,
 ⟨(some 174), .fieldAddr 0 (.tmp 173), (some (168, true)), [], true⟩,
 ⟨(some 175), .load none (.tmp 174), (some (168, true)), [], true⟩,
 ⟨(some 176), .move (.tmp 5), (some (168, true)), [], true⟩,
 ⟨(some 177), .bin .geq (.tmp 175) (.tmp 176), (some (168, true)), [], true⟩,
 ⟨(some 178), .pick (.tmp 168) (.tmp 177) (.const (.bool false)), (some (165, false)), [], true⟩,
 ⟨(some 179), .pick (.tmp 165) (.const (.bool true)) (.tmp 178), none, [], true⟩])
 (.cond (.tmp 179)
 (.seq (.region [
 ⟨(some 2), .move (.const (.bool false)), none, [], true⟩])
 .ret)
 .skip))))
 (.region [
 ⟨(some 151), .move (.tmp 4), none, [], true⟩,
 ⟨(some 152), .bin .add (.tmp 151) (.const (.int .i64 1)), none, [], true⟩,
 ⟨(some 4), .move (.tmp 152), none, [], true⟩]))))))
 (.seq (.region [
 ⟨(some 2), .move (.const (.bool true)), none, [], true⟩])
 .ret))))))) }
theorem ir10_eq : funcC Tryd.prog 10 = some ir10 := by kernel_rfl
/-- wagonway/wire.Check -/
def ir11 : IFunc :=
{ ntmps := 23, results := [.tmp 2], body :=
 (.seq (.region [
 ⟨(some 1), .box (.tmp 0), none, [], true⟩,
 ⟨(some 2), .move (.const (.int .i64 0)), none, [], true⟩])
 (.seq (.seq (.region [
 ⟨(some 3), .fieldAddr 0 (.tmp 1), none, [], true⟩,
 ⟨(some 4), .load none (.tmp 3), none, [], true⟩,
 ⟨(some 5), .call (.const (.func (.func 27) #[] #[])) [(.tmp 4), (.const (.int .i64 0)), (.const (.int .i64 63))], none, [], true⟩,
 ⟨(some 6), .un .not (.tmp 5), none, [], true⟩,
 ⟨(some 7), .move (.tmp 6), none, [], true⟩,
 ⟨(some 8), .fieldAddr 1 (.tmp 1), (some (7, false)), [], true⟩,
 ⟨(some 9), .load none (.tmp 8), (some (7, false)), [], true⟩,
 ⟨(some 10), .call (.const (.func (.func 27) #[] #[])) [(.tmp 9), (.const (.int .i64 0)), (.const (.int .i64 63))], (some (7, false)), [], true⟩,
 ⟨(some 11), .un .not (.tmp 10), (some (7, false)), [], true⟩,
 ⟨(some 12), .pick (.tmp 7) (.const (.bool true)) (.tmp 11), none, [], true⟩,
 ⟨(some 13), .move (.tmp 12), none, [], true⟩,
 ⟨(some 14), .fieldAddr 0 (.tmp 1), (some (13, false)), [], true⟩,
 ⟨(some 15), .load none (.tmp 14), (some (13, false)), [], true⟩,
 ⟨(some 16), .fieldAddr 1 (.tmp 1), (some (13, false)), [], true⟩,
 ⟨(some 17), .load none (.tmp 16), (some (13, false)), [], true⟩,
 ⟨(some 18), .bin .eql (.tmp 15) (.tmp 17), (some (13, false)), [], true⟩,
 ⟨(some 19), .pick (.tmp 13) (.const (.bool true)) (.tmp 18), none, [], true⟩])
 (.cond (.tmp 19)
 (.seq (.region [
 ⟨(some 2), .move (.const (.int .i64 71)), none, [], true⟩])
 .ret)
 .skip))
 (.seq (.region [
 ⟨(some 20), .fieldAddr 6 (.tmp 1), none, [], true⟩,
 ⟨(some 21), .load (some 9) (.tmp 20), none, [], true⟩,
 ⟨(some 22), .call (.const (.func (.func 12) #[] #[])) [(.tmp 21)], none, [], true⟩,
 ⟨(some 2), .move (.tmp 22), none, [], true⟩])
 .ret))) }
theorem ir11_eq : funcC Tryd.prog 11 = some ir11 := by kernel_rfl
/-- wagonway/wire.CheckMessage -/
def ir12 : IFunc :=
{ ntmps := 79, results := [.tmp 2], body :=
 (.seq (.region [
 ⟨(some 1), .box (.tmp 0), none, [], true⟩,
 ⟨(some 2), .move (.const (.int .i64 0)), none, [], true⟩])
 (.seq (.seq (.drawn [
 ⟨(some 6), .fieldAddr 0 (.tmp 1), none, [], true⟩,
 ⟨(some 7), .load none (.tmp 6), none, [0], true⟩,
 ⟨(some 8), .call (.const (.func (.func 27) #[] #[])) [(.tmp 7), (.const (.int .i64 1)), (.const (.int .i64 11))], none, [1, 0], true⟩,
 ⟨(some 9), .un .not (.tmp 8), none, [2, 1, 0], true⟩,
 ⟨(some 10), .move (.tmp 9), none, [3, 2, 1, 0], true⟩,
 ⟨(some 11), .load (some 9) (.tmp 1), (some (10, false)), [4, 3, 2, 1, 0], false⟩,
 ⟨(some 12), .load (some 9) (.tmp 1), (some (10, false)), [4, 3, 2, 1, 0], false⟩,
 ⟨(some 13), .call (.const (.func (.func 28) #[] #[])) [(.tmp 12)], (some (10, false)), [6, 4, 3, 2, 1, 0], false⟩,
 ⟨(some 14), .call (.const (.func (.func 22) #[] #[])) [(.tmp 11), (.tmp 13)], (some (10, false)), [5, 7, 4, 3, 2, 1, 0, 6], true⟩,
 ⟨(some 15), .un .not (.tmp 14), (some (10, false)), [8, 4, 5, 7, 3, 2, 1, 0, 6], true⟩,
 ⟨(some 16), .pick (.tmp 10) (.const (.bool true)) (.tmp 15), none, [4, 9, 3, 2, 1, 0, 8, 5, 7, 6], true⟩])
 (.cond (.tmp 16)
 (.seq (.region [
 ⟨(some 2), .move (.const (.int .i64 71)), none, [], true⟩])
 .ret)
 .skip))
 (.seq (.region [
 ⟨(some 17), .fieldAddr 1 (.tmp 1), none, [], true⟩,
 ⟨(some 18), .load none (.tmp 17), none, [], true⟩,
 ⟨(some 19), .call (.const (.func (.func 27) #[] #[])) [(.tmp 18), (.const (.int .i64 0)), (.const (.int .i64 1023))], none, [], true⟩,
 ⟨(some 20), .move (.tmp 19), none, [], true⟩,
 ⟨(some 21), .fieldAddr 4 (.tmp 1), (some (20, true)), [], true⟩,
 ⟨(some 22), .load none (.tmp 21), (some (20, true)), [], true⟩,
 ⟨(some 23), .call (.const (.func (.func 27) #[] #[])) [(.tmp 22), (.const (.int .i64 0)), (.const (.int .i64 15))], (some (20, true)), [], true⟩,
 ⟨(some 24), .pick (.tmp 20) (.tmp 23) (.const (.bool false)), none, [], true⟩,
 ⟨(some 25), .move (.tmp 24), none, [], true⟩,
 ⟨(some 26), .fieldAddr 5 (.tmp 1), (some (25, true)), [], true⟩,
 ⟨(some 27), .load none (.tmp 26), (some (25, true)), [], true⟩,
 ⟨(some 28), .call (.const (.func (.func 27) #[] #[])) [(.tmp 27), (.const (.int .i64 0)), (.const (.int .i64 64))], (some (25, true)), [], true⟩,
 ⟨(some 29), .pick (.tmp 25) (.tmp 28) (.const (.bool false)), none, [], true⟩,
 ⟨(some 30), .move (.tmp 29), none, [], true⟩,
 ⟨(some 31), .fieldAddr 6 (.tmp 1), (some (30, true)), [], true⟩,
 ⟨(some 32), .load none (.tmp 31), (some (30, true)), [], true⟩,
 ⟨(some 33), .call (.const (.func (.func 27) #[] #[])) [(.tmp 32), (.const (.int .i64 0)), (.const (.int .i64 63))], (some (30, true)), [], true⟩,
 ⟨(some 34), .pick (.tmp 30) (.tmp 33) (.const (.bool false)), none, [], true⟩,
 ⟨(some 35), .move (.tmp 34), none, [], true⟩,
 ⟨(some 36), .fieldAddr 7 (.tmp 1), (some (35, true)), [], true⟩,
 ⟨(some 37), .load none (.tmp 36), (some (35, true)), [], true⟩,
 ⟨(some 38), .call (.const (.func (.func 27) #[] #[])) [(.tmp 37), (.const (.int .i64 (-1))), (.const (.int .i64 63))], (some (35, true)), [], true⟩,
 ⟨(some 39), .pick (.tmp 35) (.tmp 38) (.const (.bool false)), none, [], true⟩,
 ⟨(some 40), .move (.tmp 39), none, [], true⟩,
 ⟨(some 41), .fieldAddr 8 (.tmp 1), (some (40, true)), [], true⟩,
 ⟨(some 42), .load none (.tmp 41), (some (40, true)), [], true⟩,
 ⟨(some 43), .lenSlice (.tmp 42), (some (40, true)), [], true⟩,
 ⟨(some 44), .bin .leq (.tmp 43) (.const (.int .i64 16)), (some (40, true)), [], true⟩,
 ⟨(some 45), .pick (.tmp 40) (.tmp 44) (.const (.bool false)), none, [], true⟩,
 ⟨(some 3), .move (.tmp 45), none, [], true⟩])
 (.seq (.seq (.region [
 ⟨(some 46), .fieldAddr 8 (.tmp 1), none, [], true⟩,
 ⟨(some 47), .load none (.tmp 46), none, [], true⟩,
 ⟨(some 48), .lenSlice (.tmp 47), none, [], true⟩,
 ⟨(some 49), .move (.const (.int .i64 0)), none, [], true⟩])
 (.block 0 (.loop (.seq (.region [
 ⟨(some 50), .bin .lss (.tmp 49) (.tmp 48), none, [], true⟩])
 (.seq (.cond (.tmp 50)
 .skip
 (.exit 0))
 (.seq (.block 1 (.seq (.region [
 ⟨(some 51), .move (.tmp 49), none, [], true⟩,
 ⟨(some 52), .indexAddr 2 (.tmp 47) (.tmp 49), none, [], true⟩,
 ⟨(some 53), .load (some 2) (.tmp 52), none, [], true⟩,
 ⟨(some 5), .box (.const (.agg #[(.int .i64 0), (.int .u32 0)])), none, [], true⟩,
 ⟨(some 4), .move (.tmp 51), none, [], true⟩,
 ⟨none, .store 2 (.tmp 5) (.tmp 53), none, [], true⟩])
 (.drawn [
 ⟨(some 54), .move (.tmp 3), none, [], true⟩,
 ⟨(some 55), .move (.tmp 54), none, [0], true⟩,
 ⟨(some 56), .fieldAddr 0 (.tmp 5), (some (55, true)), [1, 0], true⟩,
 ⟨(some 57), .load none (.tmp 56), (some (55, true)), [2, 1, 0], true⟩,
 ⟨(some 58), .call (.const (.func (.func 27) #[] #[])) [(.tmp 57), (.const (.int .i64 0)), (.const (.int .i64 1023))], (some (55, true)), [3, 1, 2, 0], true⟩,
 ⟨(some 59), .pick (.tmp 55) (.tmp 58) (.const (.bool false)), none, [1, 4, 0, 3, 2], true⟩,
 ⟨(some 60), .move (.tmp 59), none, [5, 4, 1, 0, 3, 2], true⟩,
 ⟨(some 61), .move (.tmp 4), (some (60, true)), [6, 5, 4, 1, 0, 3, 2], true⟩,
 ⟨(some 62), .bin .eql (.tmp 61) (.const (.int .i64 0)), (some (60, true)), [7, 6, 5, 4, 1, 0, 3, 2], true⟩,
 ⟨(some 63), .move (.tmp 62), (some (60, true)), [8, 6, 7, 5, 4, 1, 0, 3, 2], true⟩,
 ⟨(some 64), .fieldAddr 0 (.tmp 5), (some (63, false)), [9, 8, 6, 7, 5, 4, 1, 0, 3, 2], false⟩,
 ⟨(some 65), .load none (.tmp 64), (some (63, false)), [10, 9, 8, 6, 7, 5, 4, 1, 0, 3, 2], false⟩,
 ⟨(some 66), .fieldAddr 8 (.tmp 1), (some (63, false)), [9, 8, 6, 7, 5, 4, 1, 0, 3, 2], false⟩,
 ⟨(some 67), .load none (.tmp 66), (some (63, false)), [12, 9, 8, 6, 7, 5, 4, 1, 0, 3, 2], false⟩,
 ⟨(some 68), .move (.tmp 4), (some (63, false)), [9, 8, 6, 7, 5, 4, 1, 0, 3, 2], false⟩,
 ⟨(some 69), .bin .sub (.tmp 68) (.const (.int .i64 1)), (some (63, false)), [14, 9, 8, 6, 7, 5, 4, 1, 0, 3, 2], false⟩,
 ⟨(some 70), .indexAddr 2 (.tmp 67) (.tmp 69), (some (63, false)), [13, 15, 9, 12, 8, 6, 7, 5, 4, 1, 0, 3, 2, 14], false⟩,
 ⟨(some 71), .fieldAddr 0 (.tmp 70), (some (63, false)), [16, 9, 13, 15, 12, 8, 6, 7, 5, 4, 1, 0, 3, 2, 14], false⟩,
 ⟨(some 72), .load none (.tmp 71), (some (63, false)), [17, 9, 16, 13, 15, 12, 8, 6, 7, 5, 4, 1, 0, 3, 2, 14], false⟩,
 ⟨(some 73), .bin .gtr (.tmp 65) (.tmp 72), (some (63, false)), [11, 18, 9, 10, 8, 6, 7, 5, 4, 1, 0, 3, 2, 17, 16, 13, 15, 12, 14], true⟩,
 ⟨(some 74), .pick (.tmp 63) (.const (.bool true)) (.tmp 73), (some (60, true)), [9, 19, 6, 8, 7, 5, 4, 1, 0, 3, 2, 11, 18, 10, 17, 16, 13, 15, 12, 14], true⟩,
 ⟨(some 75), .pick (.tmp 60) (.tmp 74) (.const (.bool false)), none, [6, 20, 5, 4, 1, 0, 3, 2, 9, 19, 8, 7, 11, 18, 10, 17, 16, 13, 15, 12, 14], true⟩,
 ⟨(some 3), .move (.tmp 75), none, [21, 9, 0, 1, 2, 3, 4, 5, 6, 7, 8, 10, 11, 12, 13, 14, 15, 16, 17, 18, 19, 20], true⟩])))
 (.region [
 ⟨(some 76), .bin .add (.tmp 49) (.const (.int .i64 1)), none, [], true⟩,
 ⟨(some 49), .move (.tmp 76), none, [], true⟩])))))))
 (.seq (.seq (.region [
 ⟨(some 77), .move (.tmp 3), none, [], true⟩,
 ⟨(some 78), .un .not (.tmp 77), none, [], true⟩])
 (.cond (.tmp 78)
 (.seq (.region [
 ⟨(some 2), .move (.const (.int .i64 71)), none, [], true⟩])
 .ret)
 .skip))
 (.seq (.region [
 ⟨(some 2), .move (.const (.int .i64 0)), none, [], true⟩])
 .ret)))))) }
theorem ir12_eq : funcC Tryd.prog 12 = some ir12 := by kernel_rfl
/-- wagonway/wire.Bytes -/
def ir13 : IFunc :=
{ ntmps := 59, results := [.tmp 2, .tmp 3], body :=
 (.seq (.region [
 ⟨(some 1), .box (.tmp 0), none, [], true⟩,
 ⟨(some 2), .move (.const (.slice none 0 0)), none, [], true⟩,
 ⟨(some 3), .move (.const (.int .i64 0)), none, [], true⟩])
 (.seq (.seq (.region [
 ⟨(some 11), .load (some 15) (.tmp 1), none, [], true⟩,
 ⟨(some 12), .call (.const (.func (.func 11) #[] #[])) [(.tmp 11)], none, [], true⟩,
 ⟨(some 4), .move (.tmp 12), none, [], true⟩])
 (.seq (.region [
 ⟨(some 13), .move (.tmp 4), none, [], true⟩,
 ⟨(some 14), .bin .neq (.tmp 13) (.const (.int .i64 0)), none, [], true⟩])
 (.cond (.tmp 14)
 (.seq (.region [
 ⟨(some 15), .move (.tmp 4), none, [], true⟩,
 ⟨(some 2), .move (.const (.slice none 0 0)), none, [], true⟩,
 ⟨(some 3), .move (.tmp 15), none, [], true⟩])
 .ret)
 .skip)))
 (.seq (.region [
 ⟨(some 16), .fieldAddr 0 (.tmp 1), none, [], true⟩,
 ⟨(some 17), .load none (.tmp 16), none, [], true⟩,
 ⟨(some 18), .conv .u8 (.tmp 17), none, [], true⟩,
 ⟨(some 19), .fieldAddr 1 (.tmp 1), none, [], true⟩,
 ⟨(some 20), .load none (.tmp 19), none, [], true⟩,
 ⟨(some 21), .conv .u8 (.tmp 20), none, [], true⟩,
 ⟨(some 22), .buildSlice 1 2 [(.int .u8 0)] [(0, (.tmp 18)), (1, (.tmp 21))], none, [], true⟩,
 ⟨(some 5), .move (.tmp 22), none, [], true⟩])
 (.seq (.seq (.region [
 ⟨(some 23), .fieldAddr 2 (.tmp 1), none, [], true⟩,
 ⟨(some 24), .load none (.tmp 23), none, [], true⟩,
 ⟨(some 25), .fieldAddr 3 (.tmp 1), none, [], true⟩,
 ⟨(some 26), .load none (.tmp 25), none, [], true⟩,
 ⟨(some 27), .fieldAddr 4 (.tmp 1), none, [], true⟩,
 ⟨(some 28), .load none (.tmp 27), none, [], true⟩,
 ⟨(some 29), .fieldAddr 5 (.tmp 1), none, [], true⟩,
 ⟨(some 30), .load none (.tmp 29), none, [], true⟩,
 ⟨(some 31), .buildSlice 1 4 [(.int .u32 0)] [(0, (.tmp 24)), (1, (.tmp 26)), (2, (.tmp 28)), (3, (.tmp 30))], none, [], true⟩,
 ⟨(some 32), .lenSlice (.tmp 31), none, [], true⟩,
 ⟨(some 33), .move (.const (.int .i64 0)), none, [], true⟩])
 (.block 0 (.loop (.seq (.region [
 ⟨(some 34), .bin .lss (.tmp 33) (.tmp 32), none, [], true⟩])
 (.seq (.cond (.tmp 34)
 .skip
 (.exit 0))
 (.seq (.block 1 (.seq (.region [
 ⟨(some 35), .indexAddr 1 (.tmp 31) (.tmp 33), none, [], true⟩,
 ⟨(some 36), .load none (.tmp 35), none, [], true⟩,
 ⟨(some 7), .move (.tmp 36), none, [], true⟩])
 (.region [
 ⟨(some 37), .move (.tmp 5), none, [], true⟩,
 ⟨(some 38), .move (.tmp 7), none, [], true⟩,
 ⟨(some 39), .conv .u64 (.tmp 38), none, [], true⟩,
 ⟨(some 40), .call (.const (.func (.func 29) #[] #[])) [(.tmp 37), (.tmp 39), (.const (.int .i64 4))], none, [], true⟩,
 ⟨(some 5), .move (.tmp 40), none, [], true⟩])))
 (.region [
 ⟨(some 41), .bin .add (.tmp 33) (.const (.int .i64 1)), none, [], true⟩,
 ⟨(some 33), .move (.tmp 41), none, [], true⟩])))))))
 (.seq (.region [
 ⟨(some 8), .move (.const (.slice none 0 0)), none, [], true⟩])
 (.seq (.seq (.region [
 ⟨(some 42), .move (.tmp 5), none, [], true⟩,
 ⟨(some 43), .fieldAddr 6 (.tmp 1), none, [], true⟩,
 ⟨(some 44), .load (some 9) (.tmp 43), none, [], true⟩,
 ⟨(some 45), .call (.const (.func (.func 30) #[] #[])) [(.tmp 42), (.tmp 44)], none, [], true⟩,
 ⟨(some 46), .lenSlice (.tmp 45), none, [], true⟩,
 ⟨(some 47), .move (.const (.int .i64 0)), none, [], true⟩])
 (.block 2 (.loop (.seq (.region [
 ⟨(some 48), .bin .lss (.tmp 47) (.tmp 46), none, [], true⟩])
 (.seq (.cond (.tmp 48)
 .skip
 (.exit 2))
 (.seq (.block 3 (.seq (.region [
 ⟨(some 49), .indexAddr 1 (.tmp 45) (.tmp 47), none, [], true⟩,
 ⟨(some 50), .load none (.tmp 49), none, [], true⟩,
 ⟨(some 10), .move (.tmp 50), none, [], true⟩])
 (.region [
 ⟨(some 51), .move (.tmp 8), none, [], true⟩,
 ⟨(some 52), .move (.tmp 10), none, [], true⟩,
 ⟨(some 53), .move (.tmp 10), none, [], true⟩,
 ⟨(some 54), .un .xor (.tmp 53), none, [], true⟩,
 ⟨(some 55), .buildSlice 1 2 [(.int .u8 0)] [(0, (.tmp 52)), (1, (.tmp 54))], none, [], true⟩,
 ⟨(some 56), .append 1 1 (.tmp 51) (.tmp 55), none, [], true⟩,
 ⟨(some 8), .move (.tmp 56), none, [], true⟩])))
 (.region [
 ⟨(some 57), .bin .add (.tmp 47) (.const (.int .i64 1)), none, [], true⟩,
 ⟨(some 47), .move (.tmp 57), none, [], true⟩])))))))
 (.seq (.region [
 ⟨(some 58), .move (.tmp 8), none, [], true⟩,
 ⟨(some 2), .move (.tmp 58), none, [], true⟩,
 ⟨(some 3), .move (.const (.int .i64 0)), none, [], true⟩])
 .ret))))))) }
theorem ir13_eq : funcC Tryd.prog 13 = some ir13 := by kernel_rfl
/-- wagonway/wagonwayref07.Bytes -/
def ir14 : IFunc :=
{ ntmps := 179, results := [.tmp 2, .tmp 3], body :=
 (.seq (.region [
 ⟨(some 1), .box (.tmp 0), none, [], true⟩,
 ⟨(some 2), .move (.const (.slice none 0 0)), none, [], true⟩,
 ⟨(some 3), .move (.const (.int .i64 0)), none, [], true⟩])
 (.seq (.region [
 ⟨(some 12), .load (some 15) (.tmp 1), none, [], true⟩,
 ⟨(some 13), .call (.const (.func (.func 9) #[] #[])) [(.tmp 12)], none, [], true⟩,
 ⟨(some 4), .move (.tmp 13), none, [], true⟩])
 (.seq (.seq (.region [
 ⟨(some 14), .move (.tmp 4), none, [], true⟩,
 ⟨(some 15), .un .not (.tmp 14), none, [], true⟩])
 (.cond (.tmp 15)
 (.seq (.region [
 ⟨(some 2), .move (.const (.slice none 0 0)), none, [], true⟩,
 ⟨(some 3), .move (.const (.int .i64 71)), none, [], true⟩])
 .ret)
 .skip))
 (.seq (.region [
 ⟨(some 16), .fieldAddr 0 (.tmp 1), none, [], true⟩,
 ⟨(some 17), .load none (.tmp 16), none, [], true⟩,
 ⟨(some 18), .conv .u8 (.tmp 17), none, [], true⟩,
 ⟨(some 19), .fieldAddr 1 (.tmp 1), none, [], true⟩,
 ⟨(some 20), .load none (.tmp 19), none, [], true⟩,
 ⟨(some 21), .conv .u8 (.tmp 20), none, [], true⟩,
 ⟨(some 22), .buildSlice 1 2 [(.int .u8 0)] [(0, (.tmp 18)), (1, (.tmp 21))], none, [], true⟩,
 ⟨(some 5), .move (.tmp 22), none, [], true⟩])
 (.seq (.region [
 ⟨(some 23), .move (.tmp 5), none, [], true⟩,
 ⟨(some 24), .fieldAddr 2 (.tmp 1), none, [], true⟩,
 ⟨(some 25), .load none (.tmp 24), none, [], true⟩,
 ⟨(some 26), .conv .u64 (.tmp 25), none, [], true⟩,
 ⟨(some 27), .call (.const (.func (.func 31) #[] #[])) [(.tmp 26), (.const (.int .i64 4))], none, [], true⟩,
 ⟨(some 28), .append 1 1 (.tmp 23) (.tmp 27), none, [], true⟩,
 ⟨(some 5), .move (.tmp 28), none, [], true⟩])
 (.seq (.region [
 ⟨(some 29), .move (.tmp 5), none, [], true⟩,
 ⟨(some 30), .fieldAddr 3 (.tmp 1), none, [], true⟩,
 ⟨(some 31), .load none (.tmp 30), none, [], true⟩,
 ⟨(some 32), .conv .u64 (.tmp 31), none, [], true⟩,
 ⟨(some 33), .call (.const (.func (.func 31) #[] #[])) [(.tmp 32), (.const (.int .i64 4))], none, [], true⟩,
 ⟨(some 34), .append 1 1 (.tmp 29) (.tmp 33), none, [], true⟩,
 ⟨(some 5), .move (.tmp 34), none, [], true⟩])
 (.seq (.region [
 ⟨(some 35), .move (.tmp 5), none, [], true⟩,
 ⟨(some 36), .fieldAddr 4 (.tmp 1), none, [], true⟩,
 ⟨(some 37), .load none (.tmp 36), none, [], true⟩,
 ⟨(some 38), .conv .u64 (.tmp 37), none, [], true⟩,
 ⟨(some 39), .call (.const (.func (.func 31) #[] #[])) [(.tmp 38), (.const (.int .i64 4))], none, [], true⟩,
 ⟨(some 40), .append 1 1 (.tmp 35) (.tmp 39), none, [], true⟩,
 ⟨(some 5), .move (.tmp 40), none, [], true⟩])
 (.seq (.region [
 ⟨(some 41), .move (.tmp 5), none, [], true⟩,
 ⟨(some 42), .fieldAddr 5 (.tmp 1), none, [], true⟩,
 ⟨(some 43), .load none (.tmp 42), none, [], true⟩,
 ⟨(some 44), .conv .u64 (.tmp 43), none, [], true⟩,
 ⟨(some 45), .call (.const (.func (.func 31) #[] #[])) [(.tmp 44), (.const (.int .i64 4))], none, [], true⟩,
 ⟨(some 46), .append 1 1 (.tmp 41) (.tmp 45), none, [], true⟩,
 ⟨(some 5), .move (.tmp 46), none, [], true⟩])
 (.seq (.region [
 ⟨(some 47), .fieldAddr 6 (.tmp 1), none, [], true⟩,
 ⟨(some 48), .load (some 9) (.tmp 47), none, [], true⟩,
 ⟨(some 6), .box (.const (.agg #[(.int .i64 0), (.int .i64 0), (.int .u32 0), (.int .u64 0), (.int .i64 0), (.int .i64 0), (.int .i64 0), (.int .i64 0), (.slice none 0 0)])), none, [], true⟩,
 ⟨none, .store 9 (.tmp 6) (.tmp 48), none, [], true⟩])
 (.seq (.region [
 ⟨(some 49), .move (.tmp 5), none, [], true⟩,
 ⟨(some 50), .fieldAddr 0 (.tmp 6), none, [], true⟩,
 ⟨(some 51), .load none (.tmp 50), none, [], true⟩,
 ⟨(some 52), .conv .u8 (.tmp 51), none, [], true⟩,
 ⟨(some 53), .buildSlice 1 1 [(.int .u8 0)] [(0, (.tmp 52))], none, [], true⟩,
 ⟨(some 54), .append 1 1 (.tmp 49) (.tmp 53), none, [], true⟩,
 ⟨(some 5), .move (.tmp 54), none, [], true⟩])
 (.seq (.region [
 ⟨(some 55), .fieldAddr 0 (.tmp 6), none, [], true⟩,
 ⟨(some 56), .load none (.tmp 55), none, [], true⟩,
 ⟨(some 57), .call (.const (.func (.func 25) #[] #[])) [(.tmp 56)], none, [], true⟩,
 ⟨(some 7), .move (.tmp 57), none, [], true⟩])
 (.seq (.seq (.region [
 ⟨(some 8), .move (.const (.int .i64 0)), none, [], true⟩])
 (.block 0 (.loop (.seq (.seq (.region [
 ⟨(some 58), .move (.tmp 8), none, [], true⟩,
 ⟨(some 59), .move (.tmp 7), none, [], true⟩,
 ⟨(some 60), .lenStr (.tmp 59), none, [], true⟩,
 ⟨(some 61), .bin .lss (.tmp 58) (.tmp 60), none, [], true⟩])
 (.cond (.tmp 61)
 .skip
 (.exit 0)))
 (.seq (.block 1 (.seq (.region [
 ⟨(some 64), .move (.tmp 7), none, [], true⟩,
 ⟨(some 65), .move (.tmp 8), none, [], true⟩,
 ⟨(some 66), .indexStr (.tmp 64) (.tmp 65), none, [], true⟩])
 (.block 2 (.seq (.region [
 ⟨(some 68), .bin .eql (.tmp 66) (.const (.int .u8 99)), none, [], true⟩,
 ⟨(some 67), .move (.tmp 68), none, [], true⟩])
 (.cond (.tmp 67)
 (.region [
 ⟨(some 69), .move (.tmp 5), none, [], true⟩,
 ⟨(some 70), .fieldAddr 1 (.tmp 6), none, [], true⟩,
 ⟨(some 71), .load none (.tmp 70), none, [], true⟩,
 ⟨(some 72), .conv .u64 (.tmp 71), none, [], true⟩,
 ⟨(some 73), .call (.const (.func (.func 31) #[] #[])) [(.tmp 72), (.const (.int .i64 2))], none, [], true⟩,
 ⟨(some 74), .append 1 1 (.tmp 69) (.tmp 73), none, [], true⟩,
 ⟨(some 5), .move (.tmp 74), none, [], true⟩])
 (.seq (.region [
 ⟨(some 76), .bin .eql (.tmp 66) (.const (.int .u8 103)), none, [], true⟩,
 ⟨(some 75), .move (.tmp 76), none, [], true⟩])
 (.cond (.tmp 75)
 (.region [
 ⟨(some 77), .move (.tmp 5), none, [], true⟩,
 ⟨(some 78), .fieldAddr 2 (.tmp 6), none, [], true⟩,
 ⟨(some 79), .load none (.tmp 78), none, [], true⟩,
 ⟨(some 80), .conv .u64 (.tmp 79), none, [], true⟩,
 ⟨(some 81), .call (.const (.func (.func 31) #[] #[])) [(.tmp 80), (.const (.int .i64 4))], none, [], true⟩,
 ⟨(some 82), .append 1 1 (.tmp 77) (.tmp 81), none, [], true⟩,
 ⟨(some 5), .move (.tmp 82), none, [], true⟩])
 (.seq (.region [
 ⟨(some 84), .bin .eql (.tmp 66) (.const (.int .u8 115)), none, [], true⟩,
 ⟨(some 83), .move (.tmp 84), none, [], true⟩])
 (.cond (.tmp 83)
 (.region [
 ⟨(some 85), .move (.tmp 5), none, [], true⟩,
 ⟨(some 86), .fieldAddr 3 (.tmp 6), none, [], true⟩,
 ⟨(some 87), .load none (.tmp 86), none, [], true⟩,
 ⟨(some 88), .call (.const (.func (.func 31) #[] #[])) [(.tmp 87), (.const (.int .i64 8))], none, [], true⟩,
 ⟨(some 89), .append 1 1 (.tmp 85) (.tmp 88), none, [], true⟩,
 ⟨(some 5), .move (.tmp 89), none, [], true⟩])
 (.seq (.region [
 ⟨(some 91), .bin .eql (.tmp 66) (.const (.int .u8 112)), none, [], true⟩,
 ⟨(some 90), .move (.tmp 91), none, [], true⟩])
 (.cond (.tmp 90)
 (.region [
 ⟨(some 92), .move (.tmp 5), none, [], true⟩,
 ⟨(some 93), .fieldAddr 4 (.tmp 6), none, [], true⟩,
 ⟨(some 94), .load none (.tmp 93), none, [], true⟩,
 ⟨(some 95), .conv .u8 (.tmp 94), none, [], true⟩,
 ⟨(some 96), .buildSlice 1 1 [(.int .u8 0)] [(0, (.tmp 95))], none, [], true⟩,
 ⟨(some 97), .append 1 1 (.tmp 92) (.tmp 96), none, [], true⟩,
 ⟨(some 5), .move (.tmp 97), none, [], true⟩])
 (.seq (.region [
 ⟨(some 99), .bin .eql (.tmp 66) (.const (.int .u8 104)), none, [], true⟩,
 ⟨(some 98), .move (.tmp 99), none, [], true⟩])
 (.cond (.tmp 98)
 (.region [
 ⟨(some 100), .move (.tmp 5), none, [], true⟩,
 ⟨(some 101), .fieldAddr 5 (.tmp 6), none, [], true⟩,
 ⟨(some 102), .load none (.tmp 101), none, [], true⟩,
 ⟨(some 103), .conv .u8 (.tmp 102), none, [], true⟩,
 ⟨(some 104), .buildSlice 1 1 [(.int .u8 0)] [(0, (.tmp 103))], none, [], true⟩,
 ⟨(some 105), .append 1 1 (.tmp 100) (.tmp 104), none, [], true⟩,
 ⟨(some 5), .move (.tmp 105), none, [], true⟩])
 (.seq (.region [
 ⟨(some 107), .bin .eql (.tmp 66) (.const (.int .u8 111)), none, [], true⟩,
 ⟨(some 106), .move (.tmp 107), none, [], true⟩])
 (.cond (.tmp 106)
 (.region [
 ⟨(some 108), .move (.tmp 5), none, [], true⟩,
 ⟨(some 109), .fieldAddr 6 (.tmp 6), none, [], true⟩,
 ⟨(some 110), .load none (.tmp 109), none, [], true⟩,
 ⟨(some 111), .conv .u8 (.tmp 110), none, [], true⟩,
 ⟨(some 112), .buildSlice 1 1 [(.int .u8 0)] [(0, (.tmp 111))], none, [], true⟩,
 ⟨(some 113), .append 1 1 (.tmp 108) (.tmp 112), none, [], true⟩,
 ⟨(some 5), .move (.tmp 113), none, [], true⟩])
 (.seq (.region [
 ⟨(some 115), .bin .eql (.tmp 66) (.const (.int .u8 119)), none, [], true⟩,
 ⟨(some 114), .move (.tmp 115), none, [], true⟩])
 (.cond (.tmp 114)
 (.region [
 ⟨(some 116), .move (.tmp 5), none, [], true⟩,
 ⟨(some 117), .fieldAddr 7 (.tmp 6), none, [], true⟩,
 ⟨(some 118), .load none (.tmp 117), none, [], true⟩,
 ⟨(some 119), .bin .add (.tmp 118) (.const (.int .i64 256)), none, [], true⟩,
 ⟨(some 120), .bin .rem (.tmp 119) (.const (.int .i64 256)), none, [], true⟩,
 ⟨(some 121), .conv .u8 (.tmp 120), none, [], true⟩,
 ⟨(some 122), .buildSlice 1 1 [(.int .u8 0)] [(0, (.tmp 121))], none, [], true⟩,
 ⟨(some 123), .append 1 1 (.tmp 116) (.tmp 122), none, [], true⟩,
 ⟨(some 5), .move (.tmp 123), none, [], true⟩])
 (.seq (.region [
 ⟨(some 125), .bin .eql (.tmp 66) (.const (.int .u8 108)), none, [], true⟩,
 ⟨(some 124), .move (.tmp 125), none, [], true⟩])
 (.cond (.tmp 124)
 (.seq (.region [
 ⟨(some 126), .move (.tmp 5), none, [], true⟩,
 ⟨(some 127), .fieldAddr 8 (.tmp 6), none, [], true⟩,
 ⟨(some 128), .load none (.tmp 127), none, [], true⟩,
 ⟨(some 129), .lenSlice (.tmp 128), none, [], true⟩,
 ⟨(some 130), .conv .u8 (.tmp 129), none, [], true⟩,
 ⟨(some 131), .buildSlice 1 1 [(.int .u8 0)] [(0, (.tmp 130))], none, [], true⟩,
 ⟨(some 132), .append 1 1 (.tmp 126) (.tmp 131), none, [], true⟩,
 ⟨(some 5), .move (.tmp 132), none, [], true⟩])
 (.seq (.region [
 ⟨(some 9), .move (.const (.int .i64 0)), none, [], true⟩])
 (.block 3 (.loop (.seq (.seq (.region [
 ⟨(some 133), .move (.tmp 9), none, [], true⟩,
 ⟨(some 134), .fieldAddr 8 (.tmp 6), none, [], true⟩,
 ⟨(some 135), .load none (.tmp 134), none, [], true⟩,
 ⟨(some 136), .lenSlice (.tmp 135), none, [], true⟩,
 ⟨(some 137), .bin .lss (.tmp 133) (.tmp 136), none, [], true⟩])
 (.cond (.tmp 137)
 .skip
 (.exit 3)))
 (.seq (.block 4 (.seq (.region [
 ⟨(some 140), .move (.tmp 5), none, [], true⟩,
 ⟨(some 141), .fieldAddr 8 (.tmp 6), none, [], true⟩,
 ⟨(some 142), .load none (.tmp 141), none, [], true⟩,
 ⟨(some 143), .move (.tmp 9), none, [], true⟩,
 ⟨(some 144), .indexAddr 2 (.tmp 142) (.tmp 143), none, [], true⟩,
 ⟨(some 145), .fieldAddr 0 (.tmp 144), none, [], true⟩,
 ⟨(some 146), .load none (.tmp 145), none, [], true⟩,
 ⟨(some 147), .conv .u64 (.tmp 146), none, [], true⟩,
 ⟨(some 148), .call (.const (.func (.func 31) #[] #[])) [(.tmp 147), (.const (.int .i64 2))], none, [], true⟩,
 ⟨(some 149), .append 1 1 (.tmp 140) (.tmp 148), none, [], true⟩,
 ⟨(some 5), .move (.tmp 149), none, [], true⟩])
 (.region [
 ⟨(some 150), .move (.tmp 5), none, [], true⟩,
 ⟨(some 151), .fieldAddr 8 (.tmp 6), none, [], true⟩,
 ⟨(some 152), .load none (.tmp 151), none, [], true⟩,
 ⟨(some 153), .move (.tmp 9), none, [], true⟩,
 ⟨(some 154), .indexAddr 2 (.tmp 152) (.tmp 153), none, [], true⟩,
 ⟨(some 155), .fieldAddr 1 (.tmp 154), none, [], true⟩,
 ⟨(some 156), .load none (.tmp 155), none, [], true⟩,
 ⟨(some 157), .conv .u64 (.tmp 156), none, [], true⟩,
 ⟨(some 158), .call (.const (.func (.func 31) #[] #[])) [(.tmp 157), (.const (.int .i64 4))], none, [], true⟩,
 ⟨(some 159), .append 1 1 (.tmp 150) (.tmp 158), none, [], true⟩,
 ⟨(some 5), .move (.tmp 159), none, [], true⟩])))
 (.region [
 ⟨(some 138), .move (.tmp 9), none, [], true⟩,
 ⟨(some 139), .bin .add (.tmp 138) (.const (.int .i64 1)), none, [], true⟩,
 ⟨(some 9), .move (.tmp 139), none, [], true⟩])))))))
 .skip)))))))))))))))))))
 (.region [
 ⟨(some 62), .move (.tmp 8), none, [], true⟩,
 ⟨(some 63), .bin .add (.tmp 62) (.const (.int .i64 1)), none, [], true⟩,
 ⟨(some 8), .move (.tmp 63), none, [], true⟩]))))))
 (.seq (.region [
 ⟨(some 10), .move (.const (.slice none 0 0)), none, [], true⟩])
 (.seq (.seq (.region [
 ⟨(some 11), .move (.const (.int .i64 0)), none, [], true⟩])
 (.block 5 (.loop (.seq (.seq (.region [
 ⟨(some 160), .move (.tmp 11), none, [], true⟩,
 ⟨(some 161), .move (.tmp 5), none, [], true⟩,
 ⟨(some 162), .lenSlice (.tmp 161), none, [], true⟩,
 ⟨(some 163), .bin .lss (.tmp 160) (.tmp 162), none, [], true⟩])
 (.cond (.tmp 163)
 .skip
 (.exit 5)))
 (.seq (.block 6 (.drawn [
 ⟨(some 166), .move (.tmp 10), none, [], false⟩,
 ⟨(some 167), .move (.tmp 5), none, [], false⟩,
 ⟨(some 168), .move (.tmp 11), none, [], false⟩,
 ⟨(some 169), .indexAddr 1 (.tmp 167) (.tmp 168), none, [1, 2], false⟩,
 ⟨(some 170), .load none (.tmp 169), none, [3, 1, 2], false⟩,
 ⟨(some 171), .move (.tmp 5), none, [], false⟩,
 ⟨(some 172), .move (.tmp 11), none, [], false⟩,
 ⟨(some 173), .indexAddr 1 (.tmp 171) (.tmp 172), none, [5, 6], false⟩,
 ⟨(some 174), .load none (.tmp 173), none, [7, 5, 6], false⟩,
 ⟨(some 175), .bin .sub (.const (.int .u8 255)) (.tmp 174), none, [8, 7, 5, 6], false⟩,
 ⟨(some 176), .buildSlice 1 2 [(.int .u8 0)] [(0, (.tmp 170)), (1, (.tmp 175))], none, [4, 9, 3, 1, 2, 8, 7, 5, 6], true⟩,
 ⟨(some 177), .append 1 1 (.tmp 166) (.tmp 176), none, [0, 10, 4, 9, 3, 1, 2, 8, 7, 5, 6], true⟩,
 ⟨(some 10), .move (.tmp 177), none, [11, 0, 1, 2, 3, 4, 5, 6, 7, 8, 9, 10], true⟩]))
 (.region [
 ⟨(some 164), .move (.tmp 11), none, [], true⟩,
 ⟨(some 165), .bin .add (.tmp 164) (.const (.int .i64 1)), none, [], true⟩,
 ⟨(some 11), .move (.tmp 165), none, [], true⟩]))))))
 (.seq (.region [
 ⟨(some 178), .move (.tmp 10), none, [], true⟩,
 ⟨(some 2), .move (.tmp 178), none, [], true⟩,
 ⟨(some 3), .move (.const (.int .i64 0)), none, [], true⟩])
 .ret))))))))))))))) }
theorem ir14_eq : funcC Tryd.prog 14 = some ir14 := by kernel_rfl
/-- wagonway/wire.Size -/
def ir15 : IFunc :=
{ ntmps := 11, results := [.tmp 2], body :=
 (.seq (.region [
 ⟨(some 1), .box (.tmp 0), none, [], true⟩,
 ⟨(some 2), .move (.const (.int .i64 0)), none, [], true⟩])
 (.seq (.seq (.region [
 ⟨(some 3), .load (some 9) (.tmp 1), none, [], true⟩,
 ⟨(some 4), .call (.const (.func (.func 12) #[] #[])) [(.tmp 3)], none, [], true⟩,
 ⟨(some 5), .bin .neq (.tmp 4) (.const (.int .i64 0)), none, [], true⟩])
 (.cond (.tmp 5)
 (.seq (.region [
 ⟨(some 2), .move (.const (.int .i64 0)), none, [], true⟩])
 .ret)
 .skip))
 (.seq (.drawn [
 ⟨(some 6), .makeSlice 1 1 [(.int .u8 0)] (.const (.int .i64 18)) (.const (.int .i64 18)), none, [], false⟩,
 ⟨(some 7), .load (some 9) (.tmp 1), none, [], false⟩,
 ⟨(some 8), .call (.const (.func (.func 30) #[] #[])) [(.tmp 6), (.tmp 7)], none, [0, 1], true⟩,
 ⟨(some 9), .lenSlice (.tmp 8), none, [2, 0, 1], true⟩,
 ⟨(some 10), .bin .mul (.const (.int .i64 2)) (.tmp 9), none, [3, 2, 0, 1], true⟩,
 ⟨(some 2), .move (.tmp 10), none, [4, 2, 0, 1, 3], true⟩])
 .ret))) }
theorem ir15_eq : funcC Tryd.prog 15 = some ir15 := by kernel_rfl
/-- wagonway/wagonwaylaw07.alive -/
def ir16 : IFunc :=
{ ntmps := 51, results := [.tmp 0], body :=
 (.seq (.region [
 ⟨(some 0), .move (.const (.bool false)), none, [], true⟩])
 (.seq (.region [
 ⟨(some 4), .call (.const (.func (.func 24) #[] #[])) [], none, [], true⟩,
 ⟨(some 5), .call (.const (.func (.func 13) #[] #[])) [(.tmp 4)], none, [], true⟩,
 ⟨(some 3), .move (.tmp 5), none, [], true⟩,
 ⟨(some 6), .extract (.tmp 3) 0, none, [], true⟩,
 ⟨(some 7), .extract (.tmp 3) 1, none, [], true⟩,
 ⟨(some 1), .move (.tmp 6), none, [], true⟩,
 ⟨(some 2), .move (.tmp 7), none, [], true⟩])
 (.seq (.region [
 ⟨(some 8), .move (.tmp 2), none, [], true⟩,
 ⟨(some 9), .bin .eql (.tmp 8) (.const (.int .i64 0)), none, [], true⟩,
 ⟨(some 10), .move (.tmp 9), none, [], true⟩,
 ⟨(some 11), .move (.tmp 1), (some (10, true)), [], true⟩,
 ⟨(some 12), .lenSlice (.tmp 11), (some (10, true)), [], true⟩,
 ⟨(some 13), .bin .eql (.tmp 12) (.const (.int .i64 38)), (some (10, true)), [], true⟩,
 ⟨(some 14), .pick (.tmp 10) (.tmp 13) (.const (.bool false)), none, [], true⟩,
 ⟨(some 15), .move (.tmp 14), none, [], true⟩,
 ⟨(some 16), .move (.tmp 1), (some (15, true)), [], true⟩,
 ⟨(some 17), .indexAddr 1 (.tmp 16) (.const (.int .i64 0)), (some (15, true)), [], true⟩,
 ⟨(some 18), .load none (.tmp 17), (some (15, true)), [], true⟩,
 ⟨(some 19), .bin .eql (.tmp 18) (.const (.int .u8 1)), (some (15, true)), [], true⟩,
 ⟨(some 20), .pick (.tmp 15) (.tmp 19) (.const (.bool false)), none, [], true⟩,
 ⟨(some 21), .move (.tmp 20), none, [], true⟩,
 ⟨(some 22), .move (.tmp 1), (some (21, true)), [], true⟩,
 ⟨(some 23), .indexAddr 1 (.tmp 22) (.const (.int .i64 1)), (some (21, true)), [], true⟩,
 ⟨(some 24), .load none (.tmp 23), (some (21, true)), [], true⟩,
 ⟨(some 25), .bin .eql (.tmp 24) (.const (.int .u8 254)), (some (21, true)), [], true⟩,
 ⟨(some 26), .pick (.tmp 21) (.tmp 25) (.const (.bool false)), none, [], true⟩,
 ⟨(some 27), .move (.tmp 26), none, [], true⟩,
 ⟨(some 28), .move (.tmp 1), (some (27, true)), [], true⟩,
 ⟨(some 29), .indexAddr 1 (.tmp 28) (.const (.int .i64 2)), (some (27, true)), [], true⟩,
 ⟨(some 30), .load none (.tmp 29), (some (27, true)), [], true⟩,
 ⟨(some 31), .bin .eql (.tmp 30) (.const (.int .u8 2)), (some (27, true)), [], true⟩,
 ⟨(some 32), .pick (.tmp 27) (.tmp 31) (.const (.bool false)), none, [], true⟩,
 ⟨(some 33), .move (.tmp 32), none, [], true⟩,
 ⟨(some 34), .move (.tmp 1), (some (33, true)), [], true⟩,
 ⟨(some 35), .indexAddr 1 (.tmp 34) (.const (.int .i64 3)), (some (33, true)), [], true⟩,
 ⟨(some 36), .load none (.tmp 35), (some (33, true)), [], true⟩,
 ⟨(some 37), .bin .eql (.tmp 36) (.const (.int .u8 253)), (some (33, true)), [], true⟩,
 ⟨(some 38), .pick (.tmp 33) (.tmp 37) (.const (.bool false)), none, [], true⟩,
 ⟨(some 39), .move (.tmp 38), none, [], true⟩,
 ⟨(some 40), .move (.tmp 1), (some (39, true)), [], true⟩,
 ⟨(some 41), .indexAddr 1 (.tmp 40) (.const (.int .i64 36)), (some (39, true)), [], true⟩,
 ⟨(some 42), .load none (.tmp 41), (some (39, true)), [], true⟩,
 ⟨(some 43), .bin .eql (.tmp 42) (.const (.int .u8 9)), (some (39, true)), [], true⟩,
 ⟨(some 44), .pick (.tmp 39) (.tmp 43) (.const (.bool false)), none, [], true⟩,
 ⟨(some 45), .move (.tmp 44), none, [], true⟩,
 ⟨(some 46), .move (.tmp 1), (some (45, true)), [], true⟩,
 ⟨(some 47), .indexAddr 1 (.tmp 46) (.const (.int .i64 37)), (some (45, true)), [], true⟩,
 ⟨(some 48), .load none (.tmp 47), (some (45, true)), [], true⟩,
 ⟨(some 49), .bin .eql (.tmp 48) (.const (.int .u8 246)), (some (45, true)), [], true⟩,
 ⟨(some 50), .pick (.tmp 45) (.tmp 49) (.const (.bool false)), none, [], true⟩,
 ⟨(some 0), .move (.tmp 50), none, [], true⟩])
 .ret))) }
theorem ir16_eq : funcC Tryd.prog 16 = some ir16 := by kernel_rfl
/-- wagonway/wire.Read -/
def ir17 : IFunc :=
{ ntmps := 57, results := [.cell 2 (some 15), .tmp 3], body :=
 (.seq (.region [
 ⟨(some 2), .box (.const (.agg #[(.int .i64 0), (.int .i64 0), (.int .u32 0), (.int .u32 0), (.int .u32 0), (.int .u32 0), (.int .i64 0), (.int .i64 0), (.int .u32 0), (.int .u64 0), (.int .i64 0), (.int .i64 0), (.int .i64 0), (.int .i64 0), (.slice none 0 0)])), none, [], true⟩,
 ⟨(some 3), .move (.const (.int .i64 0)), none, [], true⟩])
 (.seq (.region [
 ⟨(some 10), .move (.tmp 0), none, [], true⟩,
 ⟨(some 11), .call (.const (.func (.func 32) #[] #[])) [(.tmp 10)], none, [], true⟩,
 ⟨(some 9), .move (.tmp 11), none, [], true⟩,
 ⟨(some 12), .extract (.tmp 9) 0, none, [], true⟩,
 ⟨(some 13), .extract (.tmp 9) 1, none, [], true⟩,
 ⟨(some 4), .box (.const (.slice none 0 0)), none, [], true⟩,
 ⟨(some 5), .box (.const (.bool false)), none, [], true⟩,
 ⟨none, .store 1 (.tmp 4) (.tmp 12), none, [], true⟩,
 ⟨none, .store 1 (.tmp 5) (.tmp 13), none, [], true⟩])
 (.seq (.region [
 ⟨(some 14), .func (.func 33) [] [(.tmp 5), (.tmp 4)], none, [], true⟩,
 ⟨(some 6), .move (.tmp 14), none, [], true⟩])
 (.seq (.region [
 ⟨(some 15), .move (.tmp 6), none, [], true⟩,
 ⟨(some 16), .call (.tmp 15) [(.const (.int .i64 1))], none, [], true⟩,
 ⟨(some 17), .conv .i64 (.tmp 16), none, [], true⟩,
 ⟨(some 18), .move (.tmp 6), none, [], true⟩,
 ⟨(some 19), .call (.tmp 18) [(.const (.int .i64 1))], none, [], true⟩,
 ⟨(some 20), .conv .i64 (.tmp 19), none, [], true⟩,
 ⟨(some 21), .move (.tmp 6), none, [], true⟩,
 ⟨(some 22), .call (.tmp 21) [(.const (.int .i64 4))], none, [], true⟩,
 ⟨(some 23), .conv .u32 (.tmp 22), none, [], true⟩,
 ⟨(some 24), .move (.tmp 6), none, [], true⟩,
 ⟨(some 25), .call (.tmp 24) [(.const (.int .i64 4))], none, [], true⟩,
 ⟨(some 26), .conv .u32 (.tmp 25), none, [], true⟩,
 ⟨(some 27), .move (.tmp 6), none, [], true⟩,
 ⟨(some 28), .call (.tmp 27) [(.const (.int .i64 4))], none, [], true⟩,
 ⟨(some 29), .conv .u32 (.tmp 28), none, [], true⟩,
 ⟨(some 30), .move (.tmp 6), none, [], true⟩,
 ⟨(some 31), .call (.tmp 30) [(.const (.int .i64 4))], none, [], true⟩,
 ⟨(some 32), .conv .u32 (.tmp 31), none, [], true⟩,
 ⟨(some 33), .build [(.int .i64 0), (.int .i64 0), (.int .u32 0), (.int .u32 0), (.int .u32 0), (.int .u32 0), (.int .i64 0), (.int .i64 0), (.int .u32 0), (.int .u64 0), (.int .i64 0), (.int .i64 0), (.int .i64 0), (.int .i64 0), (.slice none 0 0)] [(0, 1, (.tmp 17)), (1, 1, (.tmp 20)), (2, 1, (.tmp 23)), (3, 1, (.tmp 26)), (4, 1, (.tmp 29)), (5, 1, (.tmp 32))], none, [], true⟩,
 ⟨(some 7), .box (.const (.agg #[(.int .i64 0), (.int .i64 0), (.int .u32 0), (.int .u32 0), (.int .u32 0), (.int .u32 0), (.int .i64 0), (.int .i64 0), (.int .u32 0), (.int .u64 0), (.int .i64 0), (.int .i64 0), (.int .i64 0), (.int .i64 0), (.slice none 0 0)])), none, [], true⟩,
 ⟨none, .store 15 (.tmp 7) (.tmp 33), none, [], true⟩])
 (.seq (.seq (.region [
 ⟨(some 34), .move (.tmp 6), none, [], true⟩,
 ⟨(some 35), .call (.tmp 34) [(.const (.int .i64 1))], none, [], true⟩,
 ⟨(some 36), .conv .i64 (.tmp 35), none, [], true⟩,
 ⟨(some 8), .move (.tmp 36), none, [], true⟩])
 (.seq (.region [
 ⟨(some 37), .move (.tmp 8), none, [], true⟩,
 ⟨(some 38), .call (.const (.func (.func 27) #[] #[])) [(.tmp 37), (.const (.int .i64 1)), (.const (.int .i64 11))], none, [], true⟩])
 (.cond (.tmp 38)
 (.region [
 ⟨(some 39), .move (.tmp 8), none, [], true⟩,
 ⟨(some 40), .move (.tmp 6), none, [], true⟩,
 ⟨(some 41), .call (.const (.func (.func 34) #[] #[])) [(.tmp 39), (.tmp 40)], none, [], true⟩,
 ⟨(some 42), .fieldAddr 6 (.tmp 7), none, [], true⟩,
 ⟨none, .store 9 (.tmp 42) (.tmp 41), none, [], true⟩])
 .skip)))
 (.seq (.seq (.region [
 ⟨(some 43), .load none (.tmp 5), none, [], true⟩,
 ⟨(some 44), .un .not (.tmp 43), none, [], true⟩,
 ⟨(some 45), .move (.tmp 44), none, [], true⟩,
 ⟨(some 46), .load none (.tmp 4), (some (45, false)), [], true⟩,
 ⟨(some 47), .lenSlice (.tmp 46), (some (45, false)), [], true⟩,
 ⟨(some 48), .bin .gtr (.tmp 47) (.const (.int .i64 0)), (some (45, false)), [], true⟩,
 ⟨(some 49), .pick (.tmp 45) (.const (.bool true)) (.tmp 48), none, [], true⟩,
 ⟨(some 50), .move (.tmp 49), none, [], true⟩,
 ⟨(some 51), .load (some 15) (.tmp 7), (some (50, false)), [], true⟩,
 ⟨(some 52), .call (.const (.func (.func 11) #[] #[])) [(.tmp 51)], (some (50, false)), [], true⟩,
 ⟨(some 53), .bin .neq (.tmp 52) (.const (.int .i64 0)), (some (50, false)), [], true⟩,
 ⟨(some 54), .pick (.tmp 50) (.const (.bool true)) (.tmp 53), none, [], true⟩])
 (.cond (.tmp 54)
 (.seq (.region [
 ⟨(some 55), .build [(.int .i64 0), (.int .i64 0), (.int .u32 0), (.int .u32 0), (.int .u32 0), (.int .u32 0), (.int .i64 0), (.int .i64 0), (.int .u32 0), (.int .u64 0), (.int .i64 0), (.int .i64 0), (.int .i64 0), (.int .i64 0), (.slice none 0 0)] [], none, [], true⟩,
 ⟨none, .store 15 (.tmp 2) (.tmp 55), none, [], true⟩,
 ⟨(some 3), .move (.const (.int .i64 70)), none, [], true⟩])
 .ret)
 .skip))
 (.seq (.region [
 ⟨(some 56), .load (some 15) (.tmp 7), none, [], true⟩,
 ⟨none, .store 15 (.tmp 2) (.tmp 56), none, [], true⟩,
 ⟨(some 3), .move (.const (.int .i64 0)), none, [], true⟩])
 .ret))))))) }
theorem ir17_eq : funcC Tryd.prog 17 = some ir17 := by kernel_rfl
/-- wagonway/wagonwayref07.Read -/
def ir18 : IFunc :=
{ ntmps := 40, results := [.cell 2 (some 15), .tmp 3], body :=
 (.seq (.region [
 ⟨(some 2), .box (.const (.agg #[(.int .i64 0), (.int .i64 0), (.int .u32 0), (.int .u32 0), (.int .u32 0), (.int .u32 0), (.int .i64 0), (.int .i64 0), (.int .u32 0), (.int .u64 0), (.int .i64 0), (.int .i64 0), (.int .i64 0), (.int .i64 0), (.slice none 0 0)])), none, [], true⟩,
 ⟨(some 3), .move (.const (.int .i64 0)), none, [], true⟩])
 (.seq (.region [
 ⟨(some 4), .move (.const (.slice none 0 0)), none, [], true⟩])
 (.seq (.seq (.region [
 ⟨(some 5), .move (.const (.int .i64 0)), none, [], true⟩])
 (.block 0 (.loop (.seq (.seq (.region [
 ⟨(some 9), .move (.tmp 5), none, [], true⟩,
 ⟨(some 10), .move (.tmp 0), none, [], true⟩,
 ⟨(some 11), .lenSlice (.tmp 10), none, [], true⟩,
 ⟨(some 12), .bin .lss (.tmp 9) (.tmp 11), none, [], true⟩])
 (.cond (.tmp 12)
 .skip
 (.exit 0)))
 (.seq (.block 1 (.region [
 ⟨(some 15), .move (.tmp 4), none, [], true⟩,
 ⟨(some 16), .move (.tmp 0), none, [], true⟩,
 ⟨(some 17), .move (.tmp 5), none, [], true⟩,
 ⟨(some 18), .indexAddr 1 (.tmp 16) (.tmp 17), none, [], true⟩,
 ⟨(some 19), .load none (.tmp 18), none, [], true⟩,
 ⟨(some 20), .buildSlice 1 1 [(.int .u8 0)] [(0, (.tmp 19))], none, [], true⟩,
 ⟨(some 21), .append 1 1 (.tmp 15) (.tmp 20), none, [], true⟩,
 ⟨(some 4), .move (.tmp 21), none, [], true⟩]))
 (.region [
 ⟨(some 13), .move (.tmp 5), none, [], true⟩,
 ⟨(some 14), .bin .add (.tmp 13) (.const (.int .i64 2)), none, [], true⟩,
 ⟨(some 5), .move (.tmp 14), none, [], true⟩]))))))
 (.seq (.region [
 ⟨(some 22), .move (.tmp 4), none, [], true⟩,
 ⟨(some 23), .call (.const (.func (.func 35) #[] #[])) [(.tmp 22)], none, [], true⟩,
 ⟨(some 6), .box (.const (.agg #[(.int .i64 0), (.int .i64 0), (.int .u32 0), (.int .u32 0), (.int .u32 0), (.int .u32 0), (.int .i64 0), (.int .i64 0), (.int .u32 0), (.int .u64 0), (.int .i64 0), (.int .i64 0), (.int .i64 0), (.int .i64 0), (.slice none 0 0)])), none, [], true⟩,
 ⟨none, .store 15 (.tmp 6) (.tmp 23), none, [], true⟩])
 (.seq (.region [
 ⟨(some 25), .load (some 15) (.tmp 6), none, [], true⟩,
 ⟨(some 26), .call (.const (.func (.func 14) #[] #[])) [(.tmp 25)], none, [], true⟩,
 ⟨(some 24), .move (.tmp 26), none, [], true⟩,
 ⟨(some 27), .extract (.tmp 24) 0, none, [], true⟩,
 ⟨(some 28), .extract (.tmp 24) 1, none, [], true⟩,
 ⟨(some 7), .move (.tmp 27), none, [], true⟩,
 ⟨(some 8), .move (.tmp 28), none, [], true⟩])
 (.seq (.seq (.region [
 ⟨(some 29), .move (.tmp 8), none, [], true⟩,
 ⟨(some 30), .bin .neq (.tmp 29) (.const (.int .i64 0)), none, [], true⟩,
 ⟨(some 31), .move (.tmp 30), none, [], true⟩,
 ⟨(some 32), .move (.tmp 7), (some (31, false)), [], true⟩,
 ⟨(some 33), .bytesStr (.tmp 32), (some (31, false)), [], true⟩,
 ⟨(some 34), .move (.tmp 0), (some (31, false)), [], true⟩,
 ⟨(some 35), .bytesStr (.tmp 34), (some (31, false)), [], true⟩,
 ⟨(some 36), .bin .neq (.tmp 33) (.tmp 35), (some (31, false)), [], true⟩,
 ⟨(some 37), .pick (.tmp 31) (.const (.bool true)) (.tmp 36), none, [], true⟩])
 (.cond (.tmp 37)
 (.seq (.region [
 ⟨(some 38), .build [(.int .i64 0), (.int .i64 0), (.int .u32 0), (.int .u32 0), (.int .u32 0), (.int .u32 0), (.int .i64 0), (.int .i64 0), (.int .u32 0), (.int .u64 0), (.int .i64 0), (.int .i64 0), (.int .i64 0), (.int .i64 0), (.slice none 0 0)] [], none, [], true⟩,
 ⟨none, .store 15 (.tmp 2) (.tmp 38), none, [], true⟩,
 ⟨(some 3), .move (.const (.int .i64 70)), none, [], true⟩])
 .ret)
 .skip))
 (.seq (.region [
 ⟨(some 39), .load (some 15) (.tmp 6), none, [], true⟩,
 ⟨none, .store 15 (.tmp 2) (.tmp 39), none, [], true⟩,
 ⟨(some 3), .move (.const (.int .i64 0)), none, [], true⟩])
 .ret))))))) }
theorem ir18_eq : funcC Tryd.prog 18 = some ir18 := by kernel_rfl
/-- wagonway/wagonwayref07.Equal -/
def ir19 : IFunc :=
{ ntmps := 52, results := [.tmp 4], body :=
 (.seq (.region [
 ⟨(some 2), .box (.tmp 0), none, [], true⟩,
 ⟨(some 3), .box (.tmp 1), none, [], true⟩,
 ⟨(some 4), .move (.const (.bool false)), none, [], true⟩])
 (.seq (.region [
 ⟨(some 5), .fieldAddr 0 (.tmp 2), none, [], true⟩,
 ⟨(some 6), .load none (.tmp 5), none, [], true⟩,
 ⟨(some 7), .fieldAddr 0 (.tmp 3), none, [], true⟩,
 ⟨(some 8), .load none (.tmp 7), none, [], true⟩,
 ⟨(some 9), .bin .eql (.tmp 6) (.tmp 8), none, [], true⟩,
 ⟨(some 10), .move (.tmp 9), none, [], true⟩,
 ⟨(some 11), .fieldAddr 1 (.tmp 2), (some (10, true)), [], true⟩,
 ⟨(some 12), .load none (.tmp 11), (some (10, true)), [], true⟩,
 ⟨(some 13), .fieldAddr 1 (.tmp 3), (some (10, true)), [], true⟩,
 ⟨(some 14), .load none (.tmp 13), (some (10, true)), [], true⟩,
 ⟨(some 15), .bin .eql (.tmp 12) (.tmp 14), (some (10, true)), [], true⟩,
 ⟨(some 16), .pick (.tmp 10) (.tmp 15) (.const (.bool false)), none, [], true⟩,
 ⟨(some 17), .move (.tmp 16), none, [], true⟩,
 ⟨(some 18), .fieldAddr 2 (.tmp 2), (some (17, true)), [], true⟩,
 ⟨(some 19), .load none (.tmp 18), (some (17, true)), [], true⟩,
 ⟨(some 20), .fieldAddr 2 (.tmp 3), (some (17, true)), [], true⟩,
 ⟨(some 21), .load none (.tmp 20), (some (17, true)), [], true⟩,
 ⟨(some 22), .bin .eql (.tmp 19) (.tmp 21), (some (17, true)), [], true⟩,
 ⟨(some 23), .pick (.tmp 17) (.tmp 22) (.const (.bool false)), none, [], true⟩,
 ⟨(some 24), .move (.tmp 23), none, [], true⟩,
 ⟨(some 25), .fieldAddr 3 (.tmp 2), (some (24, true)), [], true⟩,
 ⟨(some 26), .load none (.tmp 25), (some (24, true)), [], true⟩,
 ⟨(some 27), .fieldAddr 3 (.tmp 3), (some (24, true)), [], true⟩,
 ⟨(some 28), .load none (.tmp 27), (some (24, true)), [], true⟩,
 ⟨(some 29), .bin .eql (.tmp 26) (.tmp 28), (some (24, true)), [], true⟩,
 ⟨(some 30), .pick (.tmp 24) (.tmp 29) (.const (.bool false)), none, [], true⟩,
 ⟨(some 31), .move (.tmp 30), none, [], true⟩,
 ⟨(some 32), .fieldAddr 4 (.tmp 2), (some (31, true)), [], true⟩,
 ⟨(some 33), .load none (.tmp 32), (some (31, true)), [], true⟩,
 ⟨(some 34), .fieldAddr 4 (.tmp 3), (some (31, true)), [], true⟩,
 ⟨(some 35), .load none (.tmp 34), (some (31, true)), [], true⟩,
 ⟨(some 36), .bin .eql (.tmp 33) (.tmp 35), (some (31, true)), [], true⟩,
 ⟨(some 37), .pick (.tmp 31) (.tmp 36) (.const (.bool false)), none, [], true⟩,
 ⟨(some 38), .move (.tmp 37), none, [], true⟩,
 ⟨(some 39), .fieldAddr 5 (.tmp 2), (some (38, true)), [], true⟩,
 ⟨(some 40), .load none (.tmp 39), (some (38, true)), [], true⟩,
 ⟨(some 41), .fieldAddr 5 (.tmp 3), (some (38, true)), [], true⟩,
 ⟨(some 42), .load none (.tmp 41), (some (38, true)), [], true⟩,
 ⟨(some 43), .bin .eql (.tmp 40) (.tmp 42), (some (38, true)), [], true⟩,
 ⟨(some 44), .pick (.tmp 38) (.tmp 43) (.const (.bool false)), none, [], true⟩,
 ⟨(some 45), .move (.tmp 44), none, [], true⟩,
 ⟨(some 46), .fieldAddr 6 (.tmp 2), (some (45, true)), [], true⟩,
 ⟨(some 47), .load (some 9) (.tmp 46), (some (45, true)), [], true⟩,
 ⟨(some 48), .fieldAddr 6 (.tmp 3), (some (45, true)), [], true⟩,
 ⟨(some 49), .load (some 9) (.tmp 48), (some (45, true)), [], true⟩,
 ⟨(some 50), .call (.const (.func (.func 23) #[] #[])) [(.tmp 47), (.tmp 49)], (some (45, true)), [], true⟩,
 ⟨(some 51), .pick (.tmp 45) (.tmp 50) (.const (.bool false)), none, [], true⟩,
 ⟨(some 4), .move (.tmp 51), none, [], true⟩])
 .ret)) }
theorem ir19_eq : funcC Tryd.prog 19 = some ir19 := by kernel_rfl
/-- wagonway/wire.Name -/
def ir20 : IFunc :=
{ ntmps := 11, results := [.tmp 2], body :=
 (.seq (.region [
 ⟨(some 2), .move (.const (.string ⟨#[]⟩)), none, [], true⟩])
 (.seq (.seq (.region [
 ⟨(some 3), .move (.tmp 0), none, [], true⟩,
 ⟨(some 4), .call (.const (.func (.func 27) #[] #[])) [(.tmp 3), (.const (.int .i64 1)), (.const (.int .i64 11))], none, [], true⟩,
 ⟨(some 5), .un .not (.tmp 4), none, [], true⟩])
 (.cond (.tmp 5)
 (.seq (.region [
 ⟨(some 2), .move (.const (.string ⟨#[]⟩)), none, [], true⟩])
 .ret)
 .skip))
 (.seq (.region [
 ⟨(some 6), .move (.tmp 0), none, [], true⟩,
 ⟨(some 7), .bin .sub (.tmp 6) (.const (.int .i64 1)), none, [], true⟩,
 ⟨(some 8), .indexAddrArr 11 6 (.const (.pointer (some ⟨1, 0, none⟩))) (.tmp 7), none, [], true⟩,
 ⟨(some 9), .fieldAddr 0 (.tmp 8), none, [], true⟩,
 ⟨(some 10), .load none (.tmp 9), none, [], true⟩,
 ⟨(some 2), .move (.tmp 10), none, [], true⟩])
 .ret))) }
theorem ir20_eq : funcC Tryd.prog 20 = some ir20 := by kernel_rfl
/-- wagonway/wagonwayref07.Name -/
def ir21 : IFunc :=
{ ntmps := 26, results := [.tmp 2], body :=
 (.seq (.region [
 ⟨(some 2), .move (.const (.string ⟨#[]⟩)), none, [], true⟩])
 (.seq (.seq (.region [
 ⟨(some 3), .move (.tmp 0), none, [], true⟩])
 (.block 0 (.seq (.region [
 ⟨(some 5), .bin .eql (.tmp 3) (.const (.int .i64 1)), none, [], true⟩,
 ⟨(some 4), .move (.tmp 5), none, [], true⟩])
 (.cond (.tmp 4)
 (.seq (.region [
 ⟨(some 2), .move (.const (.string ⟨#[114, 101, 113, 117, 101, 115, 116]⟩)), none, [], true⟩])
 .ret)
 (.seq (.region [
 ⟨(some 7), .bin .eql (.tmp 3) (.const (.int .i64 2)), none, [], true⟩,
 ⟨(some 6), .move (.tmp 7), none, [], true⟩])
 (.cond (.tmp 6)
 (.seq (.region [
 ⟨(some 2), .move (.const (.string ⟨#[103, 114, 97, 110, 116]⟩)), none, [], true⟩])
 .ret)
 (.seq (.region [
 ⟨(some 9), .bin .eql (.tmp 3) (.const (.int .i64 3)), none, [], true⟩,
 ⟨(some 8), .move (.tmp 9), none, [], true⟩])
 (.cond (.tmp 8)
 (.seq (.region [
 ⟨(some 2), .move (.const (.string ⟨#[114, 101, 108, 101, 97, 115, 101]⟩)), none, [], true⟩])
 .ret)
 (.seq (.region [
 ⟨(some 11), .bin .eql (.tmp 3) (.const (.int .i64 4)), none, [], true⟩,
 ⟨(some 10), .move (.tmp 11), none, [], true⟩])
 (.cond (.tmp 10)
 (.seq (.region [
 ⟨(some 2), .move (.const (.string ⟨#[97, 99, 107]⟩)), none, [], true⟩])
 .ret)
 (.seq (.region [
 ⟨(some 13), .bin .eql (.tmp 3) (.const (.int .i64 5)), none, [], true⟩,
 ⟨(some 12), .move (.tmp 13), none, [], true⟩])
 (.cond (.tmp 12)
 (.seq (.region [
 ⟨(some 2), .move (.const (.string ⟨#[100, 101, 110, 121]⟩)), none, [], true⟩])
 .ret)
 (.seq (.region [
 ⟨(some 15), .bin .eql (.tmp 3) (.const (.int .i64 6)), none, [], true⟩,
 ⟨(some 14), .move (.tmp 15), none, [], true⟩])
 (.cond (.tmp 14)
 (.seq (.region [
 ⟨(some 2), .move (.const (.string ⟨#[112, 114, 111, 98, 101]⟩)), none, [], true⟩])
 .ret)
 (.seq (.region [
 ⟨(some 17), .bin .eql (.tmp 3) (.const (.int .i64 7)), none, [], true⟩,
 ⟨(some 16), .move (.tmp 17), none, [], true⟩])
 (.cond (.tmp 16)
 (.seq (.region [
 ⟨(some 2), .move (.const (.string ⟨#[97, 98, 111, 114, 116]⟩)), none, [], true⟩])
 .ret)
 (.seq (.region [
 ⟨(some 19), .bin .eql (.tmp 3) (.const (.int .i64 8)), none, [], true⟩,
 ⟨(some 18), .move (.tmp 19), none, [], true⟩])
 (.cond (.tmp 18)
 (.seq (.region [
 ⟨(some 2), .move (.const (.string ⟨#[105, 110, 104, 101, 114, 105, 116]⟩)), none, [], true⟩])
 .ret)
 (.seq (.region [
 ⟨(some 21), .bin .eql (.tmp 3) (.const (.int .i64 9)), none, [], true⟩,
 ⟨(some 20), .move (.tmp 21), none, [], true⟩])
 (.cond (.tmp 20)
 (.seq (.region [
 ⟨(some 2), .move (.const (.string ⟨#[104, 101, 108, 108, 111]⟩)), none, [], true⟩])
 .ret)
 (.seq (.region [
 ⟨(some 23), .bin .eql (.tmp 3) (.const (.int .i64 10)), none, [], true⟩,
 ⟨(some 22), .move (.tmp 23), none, [], true⟩])
 (.cond (.tmp 22)
 (.seq (.region [
 ⟨(some 2), .move (.const (.string ⟨#[114, 101, 99, 97, 108, 108]⟩)), none, [], true⟩])
 .ret)
 (.seq (.region [
 ⟨(some 25), .bin .eql (.tmp 3) (.const (.int .i64 11)), none, [], true⟩,
 ⟨(some 24), .move (.tmp 25), none, [], true⟩])
 (.cond (.tmp 24)
 (.seq (.region [
 ⟨(some 2), .move (.const (.string ⟨#[115, 116, 97, 116, 117, 115]⟩)), none, [], true⟩])
 .ret)
 .skip))))))))))))))))))))))))
 (.seq (.region [
 ⟨(some 2), .move (.const (.string ⟨#[]⟩)), none, [], true⟩])
 .ret))) }
theorem ir21_eq : funcC Tryd.prog 21 = some ir21 := by kernel_rfl
/-- wagonway/wire.Same -/
def ir22 : IFunc :=
{ ntmps := 57, results := [.tmp 4], body :=
 (.seq (.region [
 ⟨(some 2), .box (.tmp 0), none, [], true⟩,
 ⟨(some 3), .box (.tmp 1), none, [], true⟩,
 ⟨(some 4), .move (.const (.bool false)), none, [], true⟩])
 (.seq (.region [
 ⟨(some 7), .fieldAddr 0 (.tmp 2), none, [], true⟩,
 ⟨(some 8), .load none (.tmp 7), none, [], true⟩,
 ⟨(some 9), .fieldAddr 1 (.tmp 2), none, [], true⟩,
 ⟨(some 10), .load none (.tmp 9), none, [], true⟩,
 ⟨(some 11), .fieldAddr 4 (.tmp 2), none, [], true⟩,
 ⟨(some 12), .load none (.tmp 11), none, [], true⟩,
 ⟨(some 13), .fieldAddr 5 (.tmp 2), none, [], true⟩,
 ⟨(some 14), .load none (.tmp 13), none, [], true⟩,
 ⟨(some 15), .fieldAddr 6 (.tmp 2), none, [], true⟩,
 ⟨(some 16), .load none (.tmp 15), none, [], true⟩,
 ⟨(some 17), .fieldAddr 7 (.tmp 2), none, [], true⟩,
 ⟨(some 18), .load none (.tmp 17), none, [], true⟩,
 ⟨(some 19), .buildSlice 1 6 [(.int .i64 0)] [(0, (.tmp 8)), (1, (.tmp 10)), (2, (.tmp 12)), (3, (.tmp 14)), (4, (.tmp 16)), (5, (.tmp 18))], none, [], true⟩,
 ⟨(some 5), .move (.tmp 19), none, [], true⟩])
 (.seq (.region [
 ⟨(some 20), .fieldAddr 0 (.tmp 3), none, [], true⟩,
 ⟨(some 21), .load none (.tmp 20), none, [], true⟩,
 ⟨(some 22), .fieldAddr 1 (.tmp 3), none, [], true⟩,
 ⟨(some 23), .load none (.tmp 22), none, [], true⟩,
 ⟨(some 24), .fieldAddr 4 (.tmp 3), none, [], true⟩,
 ⟨(some 25), .load none (.tmp 24), none, [], true⟩,
 ⟨(some 26), .fieldAddr 5 (.tmp 3), none, [], true⟩,
 ⟨(some 27), .load none (.tmp 26), none, [], true⟩,
 ⟨(some 28), .fieldAddr 6 (.tmp 3), none, [], true⟩,
 ⟨(some 29), .load none (.tmp 28), none, [], true⟩,
 ⟨(some 30), .fieldAddr 7 (.tmp 3), none, [], true⟩,
 ⟨(some 31), .load none (.tmp 30), none, [], true⟩,
 ⟨(some 32), .buildSlice 1 6 [(.int .i64 0)] [(0, (.tmp 21)), (1, (.tmp 23)), (2, (.tmp 25)), (3, (.tmp 27)), (4, (.tmp 29)), (5, (.tmp 31))], none, [], true⟩,
 ⟨(some 6), .move (.tmp 32), none, [], true⟩])
 (.seq (.region [
 ⟨(some 33), .move (.tmp 5), none, [], true⟩,
 ⟨(some 34), .move (.tmp 6), none, [], true⟩,
 ⟨(some 35), .call (.const (.func (.func 36) #[] #[])) [(.tmp 33), (.tmp 34)], none, [], true⟩,
 ⟨(some 36), .move (.tmp 35), none, [], true⟩,
 ⟨(some 37), .fieldAddr 2 (.tmp 2), (some (36, true)), [], true⟩,
 ⟨(some 38), .load none (.tmp 37), (some (36, true)), [], true⟩,
 ⟨(some 39), .fieldAddr 2 (.tmp 3), (some (36, true)), [], true⟩,
 ⟨(some 40), .load none (.tmp 39), (some (36, true)), [], true⟩,
 ⟨(some 41), .bin .eql (.tmp 38) (.tmp 40), (some (36, true)), [], true⟩,
 ⟨(some 42), .pick (.tmp 36) (.tmp 41) (.const (.bool false)), none, [], true⟩,
 ⟨(some 43), .move (.tmp 42), none, [], true⟩,
 ⟨(some 44), .fieldAddr 3 (.tmp 2), (some (43, true)), [], true⟩,
 ⟨(some 45), .load none (.tmp 44), (some (43, true)), [], true⟩,
 ⟨(some 46), .fieldAddr 3 (.tmp 3), (some (43, true)), [], true⟩,
 ⟨(some 47), .load none (.tmp 46), (some (43, true)), [], true⟩,
 ⟨(some 48), .bin .eql (.tmp 45) (.tmp 47), (some (43, true)), [], true⟩,
 ⟨(some 49), .pick (.tmp 43) (.tmp 48) (.const (.bool false)), none, [], true⟩,
 ⟨(some 50), .move (.tmp 49), none, [], true⟩,
 ⟨(some 51), .fieldAddr 8 (.tmp 2), (some (50, true)), [], true⟩,
 ⟨(some 52), .load none (.tmp 51), (some (50, true)), [], true⟩,
 ⟨(some 53), .fieldAddr 8 (.tmp 3), (some (50, true)), [], true⟩,
 ⟨(some 54), .load none (.tmp 53), (some (50, true)), [], true⟩,
 ⟨(some 55), .call (.const (.func (.func 37) #[] #[])) [(.tmp 52), (.tmp 54)], (some (50, true)), [], true⟩,
 ⟨(some 56), .pick (.tmp 50) (.tmp 55) (.const (.bool false)), none, [], true⟩,
 ⟨(some 4), .move (.tmp 56), none, [], true⟩])
 .ret)))) }
theorem ir22_eq : funcC Tryd.prog 22 = some ir22 := by kernel_rfl
/-- wagonway/wagonwayref07.Same -/
def ir23 : IFunc :=
{ ntmps := 87, results := [.tmp 4], body :=
 (.seq (.region [
 ⟨(some 2), .box (.tmp 0), none, [], true⟩,
 ⟨(some 3), .box (.tmp 1), none, [], true⟩,
 ⟨(some 4), .move (.const (.bool false)), none, [], true⟩])
 (.seq (.seq (.region [
 ⟨(some 6), .fieldAddr 0 (.tmp 2), none, [], true⟩,
 ⟨(some 7), .load none (.tmp 6), none, [], true⟩,
 ⟨(some 8), .fieldAddr 0 (.tmp 3), none, [], true⟩,
 ⟨(some 9), .load none (.tmp 8), none, [], true⟩,
 ⟨(some 10), .bin .neq (.tmp 7) (.tmp 9), none, [], true⟩,
 ⟨(some 11), .move (.tmp 10), none, [], true⟩,
 ⟨(some 12), .fieldAddr 1 (.tmp 2), (some (11, false)), [], true⟩,
 ⟨(some 13), .load none (.tmp 12), (some (11, false)), [], true⟩,
 ⟨(some 14), .fieldAddr 1 (.tmp 3), (some (11, false)), [], true⟩,
 ⟨(some 15), .load none (.tmp 14), (some (11, false)), [], true⟩,
 ⟨(some 16), .bin .neq (.tmp 13) (.tmp 15), (some (11, false)), [], true⟩,
 ⟨(some 17), .pick (.tmp 11) (.const (.bool true)) (.tmp 16), none, [], true⟩,
 ⟨(some 18), .move (.tmp 17), none, [], true⟩,
 ⟨(some 19), .fieldAddr 2 (.tmp 2), (some (18, false)), [], true⟩,
 ⟨(some 20), .load none (.tmp 19), (some (18, false)), [], true⟩,
 ⟨(some 21), .fieldAddr 2 (.tmp 3), (some (18, false)), [], true⟩,
 ⟨(some 22), .load none (.tmp 21), (some (18, false)), [], true⟩,
 ⟨(some 23), .bin .neq (.tmp 20) (.tmp 22), (some (18, false)), [], true⟩,
 ⟨(some 24), .pick (.tmp 18) (.const (.bool true)) (.tmp 23), none, [], true⟩,
 ⟨(some 25), .move (.tmp 24), none, [], true⟩,
 ⟨(some 26), .fieldAddr 3 (.tmp 2), (some (25, false)), [], true⟩,
 ⟨(some 27), .load none (.tmp 26), (some (25, false)), [], true⟩,
 ⟨(some 28), .fieldAddr 3 (.tmp 3), (some (25, false)), [], true⟩,
 ⟨(some 29), .load none (.tmp 28), (some (25, false)), [], true⟩,
 ⟨(some 30), .bin .neq (.tmp 27) (.tmp 29), (some (25, false)), [], true⟩,
 ⟨(some 31), .pick (.tmp 25) (.const (.bool true)) (.tmp 30), none, [], true⟩,
 ⟨(some 32), .move (.tmp 31), none, [], true⟩,
 ⟨(some 33), .fieldAddr 4 (.tmp 2), (some (32, false)), [], true⟩,
 ⟨(some 34), .load none (.tmp 33), (some (32, false)), [], true⟩,
 ⟨(some 35), .fieldAddr 4 (.tmp 3), (some (32, false)), [], true⟩,
 ⟨(some 36), .load none (.tmp 35), (some (32, false)), [], true⟩,
 ⟨(some 37), .bin .neq (.tmp 34) (.tmp 36), (some (32, false)), [], true⟩,
 ⟨(some 38), .pick (.tmp 32) (.const (.bool true)) (.tmp 37), none, [], true⟩,
 ⟨(some 39), .move (.tmp 38), none, [], true⟩,
 ⟨(some 40), .fieldAddr 5 (.tmp 2), (some (39, false)), [], true⟩,
 ⟨(some 41), .load none (.tmp 40), (some (39, false)), [], true⟩,
 ⟨(some 42), .fieldAddr 5 (.tmp 3), (some (39, false)), [], true⟩,
 ⟨(some 43), .load none (.tmp 42), (some (39, false)), [], true⟩,
 ⟨(some 44), .bin .neq (.tmp 41) (.tmp 43), (some (39, false)), [], true⟩,
 ⟨(some 45), .pick (.tmp 39) (.const (.bool true)) (.tmp 44), none, [], true⟩,
 ⟨(some 46), .move (.tmp 45), none, [], true⟩,
 ⟨(some 47), .fieldAddr 6 (.tmp 2), (some (46, false)), [], true⟩,
 ⟨(some 48), .load none (.tmp 47), (some (46, false)), [], true⟩,
 ⟨(some 49), .fieldAddr 6 (.tmp 3), (some (46, false)), [], true⟩,
 ⟨(some 50), .load none (.tmp 49), (some (46, false)), [], true⟩,
 ⟨(some 51), .bin .neq (.tmp 48) (.tmp 50), (some (46, false)), [], true⟩,
 ⟨(some 52), .pick (.tmp 46) (.const (.bool true)) (.tmp 51), none, [], true⟩,
 ⟨(some 53), .move (.tmp 52), none, [], true⟩,
 ⟨(some 54), .fieldAddr 7 (.tmp 2), (some (53, false)), [], true⟩,
 ⟨(some 55), .load none (.tmp 54), (some (53, false)), [], true⟩,
 ⟨(some 56), .fieldAddr 7 (.tmp 3), (some (53, false)), [], true⟩,
 ⟨(some 57), .load none (.tmp 56), (some (53, false)), [], true⟩,
 ⟨(some 58), .bin .neq (.tmp 55) (.tmp 57), (some (53, false)), [], true⟩,
 ⟨(some 59), .pick (.tmp 53) (.const (.bool true)) (.tmp 58), none, [], true⟩,
 ⟨(some 60), .move (.tmp 59), none, [], true⟩,
 ⟨(some 61), .fieldAddr 8 (.tmp 2), (some (60, false)), [], true⟩,
 ⟨(some 62), .load none (.tmp 61), (some (60, false)), [], true⟩,
 ⟨(some 63), .lenSlice (.tmp 62), (some (60, false)), [], true⟩,
 ⟨(some 64), .fieldAddr 8 (.tmp 3), (some (60, false)), [], true⟩,
 ⟨(some 65), .load none (.tmp 64), (some (60, false)), [], true⟩,
 ⟨(some 66), .lenSlice (.tmp 65), (some (60, false)), [], true⟩,
 ⟨(some 67), .bin .neq (.tmp 63) (.tmp 66), (some (60, false)), [], true⟩,
 ⟨(some 68), .pick (.tmp 60) (.const (.bool true)) (.tmp 67), none, [], true⟩])
 (.cond (.tmp 68)
 (.seq (.region [
 ⟨(some 4), .move (.const (.bool false)), none, [], true⟩])
 .ret)
 .skip))
 (.seq (.seq (.region [
 ⟨(some 5), .move (.const (.int .i64 0)), none, [], true⟩])
 (.block 0 (.loop (.seq (.seq (.region [
 ⟨(some 69), .move (.tmp 5), none, [], true⟩,
 ⟨(some 70), .fieldAddr 8 (.tmp 2), none, [], true⟩,
 ⟨(some 71), .load none (.tmp 70), none, [], true⟩,
 ⟨(some 72), .lenSlice (.tmp 71), none, [], true⟩,
 ⟨(some 73), .bin .lss (.tmp 69) (.tmp 72), none, [], true⟩])
 (.cond (.tmp 73)
 .skip
 (.exit 0)))
 (.seq (.block 1 (.seq (.drawn [
 ⟨(some 76), .fieldAddr 8 (.tmp 2), none, [], false⟩,
 ⟨(some 77), .load none (.tmp 76), none, [0], false⟩,
 ⟨(some 78), .move (.tmp 5), none, [], false⟩,
 ⟨(some 79), .indexAddr 2 (.tmp 77) (.tmp 78), none, [1, 2, 0], false⟩,
 ⟨(some 80), .load (some 2) (.tmp 79), none, [3, 1, 2, 0], false⟩,
 ⟨(some 81), .fieldAddr 8 (.tmp 3), none, [], false⟩,
 ⟨(some 82), .load none (.tmp 81), none, [5], false⟩,
 ⟨(some 83), .move (.tmp 5), none, [], false⟩,
 ⟨(some 84), .indexAddr 2 (.tmp 82) (.tmp 83), none, [6, 7, 5], false⟩,
 ⟨(some 85), .load (some 2) (.tmp 84), none, [8, 6, 7, 5], false⟩,
 ⟨(some 86), .eqAgg true [.int, .int] (.tmp 80) (.tmp 85), none, [4, 9, 3, 1, 2, 0, 8, 6, 7, 5], true⟩])
 (.cond (.tmp 86)
 (.seq (.region [
 ⟨(some 4), .move (.const (.bool false)), none, [], true⟩])
 .ret)
 .skip)))
 (.region [
 ⟨(some 74), .move (.tmp 5), none, [], true⟩,
 ⟨(some 75), .bin .add (.tmp 74) (.const (.int .i64 1)), none, [], true⟩,
 ⟨(some 5), .move (.tmp 75), none, [], true⟩]))))))
 (.seq (.region [
 ⟨(some 4), .move (.const (.bool true)), none, [], true⟩])
 .ret)))) }
theorem ir23_eq : funcC Tryd.prog 23 = some ir23 := by kernel_rfl
/-- wagonway/wagonwaylaw07.hello -/
def ir24 : IFunc :=
{ ntmps := 3, results := [.cell 0 (some 15)], body :=
 (.seq (.region [
 ⟨(some 0), .box (.const (.agg #[(.int .i64 0), (.int .i64 0), (.int .u32 0), (.int .u32 0), (.int .u32 0), (.int .u32 0), (.int .i64 0), (.int .i64 0), (.int .u32 0), (.int .u64 0), (.int .i64 0), (.int .i64 0), (.int .i64 0), (.int .i64 0), (.slice none 0 0)])), none, [], true⟩])
 (.seq (.region [
 ⟨(some 1), .build [(.int .i64 0), (.int .i64 0), (.int .u32 0), (.int .u64 0), (.int .i64 0), (.int .i64 0), (.int .i64 0), (.int .i64 0), (.slice none 0 0)] [(0, 1, (.const (.int .i64 9)))], none, [], true⟩,
 ⟨(some 2), .build [(.int .i64 0), (.int .i64 0), (.int .u32 0), (.int .u32 0), (.int .u32 0), (.int .u32 0), (.int .i64 0), (.int .i64 0), (.int .u32 0), (.int .u64 0), (.int .i64 0), (.int .i64 0), (.int .i64 0), (.int .i64 0), (.slice none 0 0)] [(0, 1, (.const (.int .i64 1))), (1, 1, (.const (.int .i64 2))), (2, 1, (.const (.int .u32 1))), (6, 9, (.tmp 1))], none, [], true⟩,
 ⟨none, .store 15 (.tmp 0) (.tmp 2), none, [], true⟩])
 .ret)) }
theorem ir24_eq : funcC Tryd.prog 24 = some ir24 := by kernel_rfl
/-- wagonway/wagonwayref07.names -/
def ir25 : IFunc :=
{ ntmps := 21, results := [.tmp 2], body :=
 (.seq (.region [
 ⟨(some 2), .move (.const (.string ⟨#[]⟩)), none, [], true⟩])
 (.seq (.seq (.region [
 ⟨(some 3), .move (.tmp 0), none, [], true⟩])
 (.block 0 (.seq (.region [
 ⟨(some 5), .bin .eql (.tmp 3) (.const (.int .i64 1)), none, [], true⟩,
 ⟨(some 4), .move (.tmp 5), none, [], true⟩])
 (.cond (.tmp 4)
 (.seq (.region [
 ⟨(some 2), .move (.const (.string ⟨#[99, 115, 112]⟩)), none, [], true⟩])
 .ret)
 (.seq (.region [
 ⟨(some 7), .bin .eql (.tmp 3) (.const (.int .i64 2)), none, [], true⟩,
 ⟨(some 6), .move (.tmp 7), none, [], true⟩])
 (.cond (.tmp 6)
 (.seq (.region [
 ⟨(some 2), .move (.const (.string ⟨#[99, 103, 115]⟩)), none, [], true⟩])
 .ret)
 (.seq (.seq (.region [
 ⟨(some 9), .bin .eql (.tmp 3) (.const (.int .i64 3)), none, [], true⟩,
 ⟨(some 8), .move (.tmp 9), none, [], true⟩])
 (.cond (.tmp 8)
 .skip
 (.region [
 ⟨(some 10), .bin .eql (.tmp 3) (.const (.int .i64 10)), none, [], true⟩,
 ⟨(some 8), .move (.tmp 10), none, [], true⟩])))
 (.cond (.tmp 8)
 (.seq (.region [
 ⟨(some 2), .move (.const (.string ⟨#[99, 103]⟩)), none, [], true⟩])
 .ret)
 (.seq (.region [
 ⟨(some 12), .bin .eql (.tmp 3) (.const (.int .i64 5)), none, [], true⟩,
 ⟨(some 11), .move (.tmp 12), none, [], true⟩])
 (.cond (.tmp 11)
 (.seq (.region [
 ⟨(some 2), .move (.const (.string ⟨#[99, 115, 119]⟩)), none, [], true⟩])
 .ret)
 (.seq (.region [
 ⟨(some 14), .bin .eql (.tmp 3) (.const (.int .i64 6)), none, [], true⟩,
 ⟨(some 13), .move (.tmp 14), none, [], true⟩])
 (.cond (.tmp 13)
 (.seq (.region [
 ⟨(some 2), .move (.const (.string ⟨#[99, 111, 119, 112, 104]⟩)), none, [], true⟩])
 .ret)
 (.seq (.region [
 ⟨(some 16), .bin .eql (.tmp 3) (.const (.int .i64 7)), none, [], true⟩,
 ⟨(some 15), .move (.tmp 16), none, [], true⟩])
 (.cond (.tmp 15)
 (.seq (.region [
 ⟨(some 2), .move (.const (.string ⟨#[111, 119]⟩)), none, [], true⟩])
 .ret)
 (.seq (.region [
 ⟨(some 18), .bin .eql (.tmp 3) (.const (.int .i64 8)), none, [], true⟩,
 ⟨(some 17), .move (.tmp 18), none, [], true⟩])
 (.cond (.tmp 17)
 (.seq (.region [
 ⟨(some 2), .move (.const (.string ⟨#[99, 112]⟩)), none, [], true⟩])
 .ret)
 (.seq (.region [
 ⟨(some 20), .bin .eql (.tmp 3) (.const (.int .i64 11)), none, [], true⟩,
 ⟨(some 19), .move (.tmp 20), none, [], true⟩])
 (.cond (.tmp 19)
 (.seq (.region [
 ⟨(some 2), .move (.const (.string ⟨#[108]⟩)), none, [], true⟩])
 .ret)
 .skip))))))))))))))))))
 (.seq (.region [
 ⟨(some 2), .move (.const (.string ⟨#[]⟩)), none, [], true⟩])
 .ret))) }
theorem ir25_eq : funcC Tryd.prog 25 = some ir25 := by kernel_rfl
/-- wagonway/wagonwayref07.has -/
def ir26 : IFunc :=
{ ntmps := 17, results := [.tmp 4], body :=
 (.seq (.region [
 ⟨(some 4), .move (.const (.bool false)), none, [], true⟩])
 (.seq (.seq (.region [
 ⟨(some 5), .move (.const (.int .i64 0)), none, [], true⟩])
 (.block 0 (.loop (.seq (.seq (.region [
 ⟨(some 6), .move (.tmp 5), none, [], true⟩,
 ⟨(some 7), .move (.tmp 0), none, [], true⟩,
 ⟨(some 8), .lenStr (.tmp 7), none, [], true⟩,
 ⟨(some 9), .bin .lss (.tmp 6) (.tmp 8), none, [], true⟩])
 (.cond (.tmp 9)
 .skip
 (.exit 0)))
 (.seq (.block 1 (.seq (.region [
 ⟨(some 12), .move (.tmp 0), none, [], true⟩,
 ⟨(some 13), .move (.tmp 5), none, [], true⟩,
 ⟨(some 14), .indexStr (.tmp 12) (.tmp 13), none, [], true⟩,
 ⟨(some 15), .move (.tmp 1), none, [], true⟩,
 ⟨(some 16), .bin .eql (.tmp 14) (.tmp 15), none, [], true⟩])
 (.cond (.tmp 16)
 (.seq (.region [
 ⟨(some 4), .move (.const (.bool true)), none, [], true⟩])
 .ret)
 .skip)))
 (.region [
 ⟨(some 10), .move (.tmp 5), none, [], true⟩,
 ⟨(some 11), .bin .add (.tmp 10) (.const (.int .i64 1)), none, [], true⟩,
 ⟨(some 5), .move (.tmp 11), none, [], true⟩]))))))
 (.seq (.region [
 ⟨(some 4), .move (.const (.bool false)), none, [], true⟩])
 .ret))) }
theorem ir26_eq : funcC Tryd.prog 26 = some ir26 := by kernel_rfl
/-- wagonway/wire.in -/
def ir27 : IFunc :=
{ ntmps := 15, results := [.tmp 6], body :=
 (.seq (.region [
 ⟨(some 6), .move (.const (.bool false)), none, [], true⟩])
 (.seq (.region [
 ⟨(some 7), .move (.tmp 0), none, [], true⟩,
 ⟨(some 8), .move (.tmp 1), none, [], true⟩,
 ⟨(some 9), .bin .geq (.tmp 7) (.tmp 8), none, [], true⟩,
 ⟨(some 10), .move (.tmp 9), none, [], true⟩,
 ⟨(some 11), .move (.tmp 0), (some (10, true)), [], true⟩,
 ⟨(some 12), .move (.tmp 2), (some (10, true)), [], true⟩,
 ⟨(some 13), .bin .leq (.tmp 11) (.tmp 12), (some (10, true)), [], true⟩,
 ⟨(some 14), .pick (.tmp 10) (.tmp 13) (.const (.bool false)), none, [], true⟩,
 ⟨(some 6), .move (.tmp 14), none, [], true⟩])
 .ret)) }
theorem ir27_eq : funcC Tryd.prog 27 = some ir27 := by kernel_rfl
/-- wagonway/wire.only -/
def ir28 : IFunc :=
{ ntmps := 54, results := [.cell 2 (some 9)], body :=
 (.seq (.region [
 ⟨(some 1), .box (.tmp 0), none, [], true⟩,
 ⟨(some 2), .box (.const (.agg #[(.int .i64 0), (.int .i64 0), (.int .u32 0), (.int .u64 0), (.int .i64 0), (.int .i64 0), (.int .i64 0), (.int .i64 0), (.slice none 0 0)])), none, [], true⟩])
 (.seq (.region [
 ⟨(some 5), .fieldAddr 0 (.tmp 1), none, [], true⟩,
 ⟨(some 6), .load none (.tmp 5), none, [], true⟩,
 ⟨(some 7), .build [(.int .i64 0), (.int .i64 0), (.int .u32 0), (.int .u64 0), (.int .i64 0), (.int .i64 0), (.int .i64 0), (.int .i64 0), (.slice none 0 0)] [(0, 1, (.tmp 6))], none, [], true⟩,
 ⟨(some 3), .box (.const (.agg #[(.int .i64 0), (.int .i64 0), (.int .u32 0), (.int .u64 0), (.int .i64 0), (.int .i64 0), (.int .i64 0), (.int .i64 0), (.slice none 0 0)])), none, [], true⟩,
 ⟨none, .store 9 (.tmp 3) (.tmp 7), none, [], true⟩])
 (.seq (.seq (.region [
 ⟨(some 8), .fieldAddr 0 (.tmp 1), none, [], true⟩,
 ⟨(some 9), .load none (.tmp 8), none, [], true⟩,
 ⟨(some 10), .call (.const (.func (.func 38) #[] #[])) [(.tmp 9)], none, [], true⟩])
 (.block 0 (.rangeFunc (.tmp 10) [11]
 (.region [
 ⟨(some 4), .move (.tmp 11), none, [], true⟩])
 (.block 1 (.seq (.region [
 ⟨(some 12), .move (.tmp 4), none, [], true⟩])
 (.block 2 (.seq (.region [
 ⟨(some 14), .bin .eql (.tmp 12) (.const (.int .i64 1)), none, [], true⟩,
 ⟨(some 13), .move (.tmp 14), none, [], true⟩])
 (.cond (.tmp 13)
 (.region [
 ⟨(some 15), .fieldAddr 1 (.tmp 1), none, [], true⟩,
 ⟨(some 16), .load none (.tmp 15), none, [], true⟩,
 ⟨(some 17), .fieldAddr 1 (.tmp 3), none, [], true⟩,
 ⟨none, .store 1 (.tmp 17) (.tmp 16), none, [], true⟩])
 (.seq (.region [
 ⟨(some 19), .bin .eql (.tmp 12) (.const (.int .i64 2)), none, [], true⟩,
 ⟨(some 18), .move (.tmp 19), none, [], true⟩])
 (.cond (.tmp 18)
 (.region [
 ⟨(some 20), .fieldAddr 2 (.tmp 1), none, [], true⟩,
 ⟨(some 21), .load none (.tmp 20), none, [], true⟩,
 ⟨(some 22), .fieldAddr 2 (.tmp 3), none, [], true⟩,
 ⟨none, .store 1 (.tmp 22) (.tmp 21), none, [], true⟩])
 (.seq (.region [
 ⟨(some 24), .bin .eql (.tmp 12) (.const (.int .i64 3)), none, [], true⟩,
 ⟨(some 23), .move (.tmp 24), none, [], true⟩])
 (.cond (.tmp 23)
 (.region [
 ⟨(some 25), .fieldAddr 3 (.tmp 1), none, [], true⟩,
 ⟨(some 26), .load none (.tmp 25), none, [], true⟩,
 ⟨(some 27), .fieldAddr 3 (.tmp 3), none, [], true⟩,
 ⟨none, .store 1 (.tmp 27) (.tmp 26), none, [], true⟩])
 (.seq (.region [
 ⟨(some 29), .bin .eql (.tmp 12) (.const (.int .i64 4)), none, [], true⟩,
 ⟨(some 28), .move (.tmp 29), none, [], true⟩])
 (.cond (.tmp 28)
 (.region [
 ⟨(some 30), .fieldAddr 4 (.tmp 1), none, [], true⟩,
 ⟨(some 31), .load none (.tmp 30), none, [], true⟩,
 ⟨(some 32), .fieldAddr 4 (.tmp 3), none, [], true⟩,
 ⟨none, .store 1 (.tmp 32) (.tmp 31), none, [], true⟩])
 (.seq (.region [
 ⟨(some 34), .bin .eql (.tmp 12) (.const (.int .i64 5)), none, [], true⟩,
 ⟨(some 33), .move (.tmp 34), none, [], true⟩])
 (.cond (.tmp 33)
 (.region [
 ⟨(some 35), .fieldAddr 5 (.tmp 1), none, [], true⟩,
 ⟨(some 36), .load none (.tmp 35), none, [], true⟩,
 ⟨(some 37), .fieldAddr 5 (.tmp 3), none, [], true⟩,
 ⟨none, .store 1 (.tmp 37) (.tmp 36), none, [], true⟩])
 (.seq (.region [
 ⟨(some 39), .bin .eql (.tmp 12) (.const (.int .i64 6)), none, [], true⟩,
 ⟨(some 38), .move (.tmp 39), none, [], true⟩])
 (.cond (.tmp 38)
 (.region [
 ⟨(some 40), .fieldAddr 6 (.tmp 1), none, [], true⟩,
 ⟨(some 41), .load none (.tmp 40), none, [], true⟩,
 ⟨(some 42), .fieldAddr 6 (.tmp 3), none, [], true⟩,
 ⟨none, .store 1 (.tmp 42) (.tmp 41), none, [], true⟩])
 (.seq (.region [
 ⟨(some 44), .bin .eql (.tmp 12) (.const (.int .i64 7)), none, [], true⟩,
 ⟨(some 43), .move (.tmp 44), none, [], true⟩])
 (.cond (.tmp 43)
 (.region [
 ⟨(some 45), .fieldAddr 7 (.tmp 1), none, [], true⟩,
 ⟨(some 46), .load none (.tmp 45), none, [], true⟩,
 ⟨(some 47), .fieldAddr 7 (.tmp 3), none, [], true⟩,
 ⟨none, .store 1 (.tmp 47) (.tmp 46), none, [], true⟩])
 (.seq (.region [
 ⟨(some 49), .bin .eql (.tmp 12) (.const (.int .i64 8)), none, [], true⟩,
 ⟨(some 48), .move (.tmp 49), none, [], true⟩])
 (.cond (.tmp 48)
 (.region [
 ⟨(some 50), .fieldAddr 8 (.tmp 1), none, [], true⟩,
 ⟨(some 51), .load none (.tmp 50), none, [], true⟩,
 ⟨(some 52), .fieldAddr 8 (.tmp 3), none, [], true⟩,
 ⟨none, .store 1 (.tmp 52) (.tmp 51), none, [], true⟩])
 .skip))))))))))))))))))))))
 (.seq (.region [
 ⟨(some 53), .load (some 9) (.tmp 3), none, [], true⟩,
 ⟨none, .store 9 (.tmp 2) (.tmp 53), none, [], true⟩])
 .ret)))) }
theorem ir28_eq : funcC Tryd.prog 28 = some ir28 := by kernel_rfl
/-- wagonway/wire.put -/
def ir29 : IFunc :=
{ ntmps := 23, results := [.tmp 6], body :=
 (.seq (.region [
 ⟨(some 6), .move (.const (.slice none 0 0)), none, [], true⟩])
 (.seq (.seq (.region [
 ⟨(some 8), .move (.tmp 2), none, [], true⟩,
 ⟨(some 9), .bin .sub (.tmp 8) (.const (.int .i64 1)), none, [], true⟩,
 ⟨(some 7), .move (.tmp 9), none, [], true⟩])
 (.block 0 (.loop (.seq (.seq (.region [
 ⟨(some 10), .move (.tmp 7), none, [], true⟩,
 ⟨(some 11), .bin .geq (.tmp 10) (.const (.int .i64 0)), none, [], true⟩])
 (.cond (.tmp 11)
 .skip
 (.exit 0)))
 (.seq (.block 1 (.region [
 ⟨(some 14), .move (.tmp 0), none, [], true⟩,
 ⟨(some 15), .move (.tmp 1), none, [], true⟩,
 ⟨(some 16), .move (.tmp 7), none, [], true⟩,
 ⟨(some 17), .bin .mul (.const (.int .i64 8)) (.tmp 16), none, [], true⟩,
 ⟨(some 18), .bin .shr (.tmp 15) (.tmp 17), none, [], true⟩,
 ⟨(some 19), .conv .u8 (.tmp 18), none, [], true⟩,
 ⟨(some 20), .buildSlice 1 1 [(.int .u8 0)] [(0, (.tmp 19))], none, [], true⟩,
 ⟨(some 21), .append 1 1 (.tmp 14) (.tmp 20), none, [], true⟩,
 ⟨(some 0), .move (.tmp 21), none, [], true⟩]))
 (.region [
 ⟨(some 12), .move (.tmp 7), none, [], true⟩,
 ⟨(some 13), .bin .sub (.tmp 12) (.const (.int .i64 1)), none, [], true⟩,
 ⟨(some 7), .move (.tmp 13), none, [], true⟩]))))))
 (.seq (.region [
 ⟨(some 22), .move (.tmp 0), none, [], true⟩,
 ⟨(some 6), .move (.tmp 22), none, [], true⟩])
 .ret))) }
theorem ir29_eq : funcC Tryd.prog 29 = some ir29 := by kernel_rfl
/-- wagonway/wire.plain -/
def ir30 : IFunc :=
{ ntmps := 98, results := [.tmp 4], body :=
 (.seq (.region [
 ⟨(some 2), .box (.tmp 0), none, [], true⟩,
 ⟨(some 3), .box (.tmp 1), none, [], true⟩,
 ⟨(some 4), .move (.const (.slice none 0 0)), none, [], true⟩])
 (.seq (.region [
 ⟨(some 8), .load none (.tmp 2), none, [], true⟩,
 ⟨(some 9), .fieldAddr 0 (.tmp 3), none, [], true⟩,
 ⟨(some 10), .load none (.tmp 9), none, [], true⟩,
 ⟨(some 11), .conv .u8 (.tmp 10), none, [], true⟩,
 ⟨(some 12), .buildSlice 1 1 [(.int .u8 0)] [(0, (.tmp 11))], none, [], true⟩,
 ⟨(some 13), .append 1 1 (.tmp 8) (.tmp 12), none, [], true⟩,
 ⟨none, .store 1 (.tmp 2) (.tmp 13), none, [], true⟩])
 (.seq (.seq (.region [
 ⟨(some 14), .fieldAddr 0 (.tmp 3), none, [], true⟩,
 ⟨(some 15), .load none (.tmp 14), none, [], true⟩,
 ⟨(some 16), .call (.const (.func (.func 38) #[] #[])) [(.tmp 15)], none, [], true⟩])
 (.block 0 (.rangeFunc (.tmp 16) [17]
 (.region [
 ⟨(some 5), .move (.tmp 17), none, [], true⟩])
 (.block 1 (.seq (.region [
 ⟨(some 18), .move (.tmp 5), none, [], true⟩])
 (.block 2 (.seq (.region [
 ⟨(some 20), .bin .eql (.tmp 18) (.const (.int .i64 1)), none, [], true⟩,
 ⟨(some 19), .move (.tmp 20), none, [], true⟩])
 (.cond (.tmp 19)
 (.region [
 ⟨(some 21), .load none (.tmp 2), none, [], true⟩,
 ⟨(some 22), .fieldAddr 1 (.tmp 3), none, [], true⟩,
 ⟨(some 23), .load none (.tmp 22), none, [], true⟩,
 ⟨(some 24), .conv .u64 (.tmp 23), none, [], true⟩,
 ⟨(some 25), .call (.const (.func (.func 29) #[] #[])) [(.tmp 21), (.tmp 24), (.const (.int .i64 2))], none, [], true⟩,
 ⟨none, .store 1 (.tmp 2) (.tmp 25), none, [], true⟩])
 (.seq (.region [
 ⟨(some 27), .bin .eql (.tmp 18) (.const (.int .i64 2)), none, [], true⟩,
 ⟨(some 26), .move (.tmp 27), none, [], true⟩])
 (.cond (.tmp 26)
 (.region [
 ⟨(some 28), .load none (.tmp 2), none, [], true⟩,
 ⟨(some 29), .fieldAddr 2 (.tmp 3), none, [], true⟩,
 ⟨(some 30), .load none (.tmp 29), none, [], true⟩,
 ⟨(some 31), .conv .u64 (.tmp 30), none, [], true⟩,
 ⟨(some 32), .call (.const (.func (.func 29) #[] #[])) [(.tmp 28), (.tmp 31), (.const (.int .i64 4))], none, [], true⟩,
 ⟨none, .store 1 (.tmp 2) (.tmp 32), none, [], true⟩])
 (.seq (.region [
 ⟨(some 34), .bin .eql (.tmp 18) (.const (.int .i64 3)), none, [], true⟩,
 ⟨(some 33), .move (.tmp 34), none, [], true⟩])
 (.cond (.tmp 33)
 (.region [
 ⟨(some 35), .load none (.tmp 2), none, [], true⟩,
 ⟨(some 36), .fieldAddr 3 (.tmp 3), none, [], true⟩,
 ⟨(some 37), .load none (.tmp 36), none, [], true⟩,
 ⟨(some 38), .call (.const (.func (.func 29) #[] #[])) [(.tmp 35), (.tmp 37), (.const (.int .i64 8))], none, [], true⟩,
 ⟨none, .store 1 (.tmp 2) (.tmp 38), none, [], true⟩])
 (.seq (.region [
 ⟨(some 40), .bin .eql (.tmp 18) (.const (.int .i64 4)), none, [], true⟩,
 ⟨(some 39), .move (.tmp 40), none, [], true⟩])
 (.cond (.tmp 39)
 (.region [
 ⟨(some 41), .load none (.tmp 2), none, [], true⟩,
 ⟨(some 42), .fieldAddr 4 (.tmp 3), none, [], true⟩,
 ⟨(some 43), .load none (.tmp 42), none, [], true⟩,
 ⟨(some 44), .conv .u8 (.tmp 43), none, [], true⟩,
 ⟨(some 45), .buildSlice 1 1 [(.int .u8 0)] [(0, (.tmp 44))], none, [], true⟩,
 ⟨(some 46), .append 1 1 (.tmp 41) (.tmp 45), none, [], true⟩,
 ⟨none, .store 1 (.tmp 2) (.tmp 46), none, [], true⟩])
 (.seq (.region [
 ⟨(some 48), .bin .eql (.tmp 18) (.const (.int .i64 5)), none, [], true⟩,
 ⟨(some 47), .move (.tmp 48), none, [], true⟩])
 (.cond (.tmp 47)
 (.region [
 ⟨(some 49), .load none (.tmp 2), none, [], true⟩,
 ⟨(some 50), .fieldAddr 5 (.tmp 3), none, [], true⟩,
 ⟨(some 51), .load none (.tmp 50), none, [], true⟩,
 ⟨(some 52), .conv .u8 (.tmp 51), none, [], true⟩,
 ⟨(some 53), .buildSlice 1 1 [(.int .u8 0)] [(0, (.tmp 52))], none, [], true⟩,
 ⟨(some 54), .append 1 1 (.tmp 49) (.tmp 53), none, [], true⟩,
 ⟨none, .store 1 (.tmp 2) (.tmp 54), none, [], true⟩])
 (.seq (.region [
 ⟨(some 56), .bin .eql (.tmp 18) (.const (.int .i64 6)), none, [], true⟩,
 ⟨(some 55), .move (.tmp 56), none, [], true⟩])
 (.cond (.tmp 55)
 (.region [
 ⟨(some 57), .load none (.tmp 2), none, [], true⟩,
 ⟨(some 58), .fieldAddr 6 (.tmp 3), none, [], true⟩,
 ⟨(some 59), .load none (.tmp 58), none, [], true⟩,
 ⟨(some 60), .conv .u8 (.tmp 59), none, [], true⟩,
 ⟨(some 61), .buildSlice 1 1 [(.int .u8 0)] [(0, (.tmp 60))], none, [], true⟩,
 ⟨(some 62), .append 1 1 (.tmp 57) (.tmp 61), none, [], true⟩,
 ⟨none, .store 1 (.tmp 2) (.tmp 62), none, [], true⟩])
 (.seq (.region [
 ⟨(some 64), .bin .eql (.tmp 18) (.const (.int .i64 7)), none, [], true⟩,
 ⟨(some 63), .move (.tmp 64), none, [], true⟩])
 (.cond (.tmp 63)
 (.region [
 ⟨(some 65), .load none (.tmp 2), none, [], true⟩,
 ⟨(some 66), .fieldAddr 7 (.tmp 3), none, [], true⟩,
 ⟨(some 67), .load none (.tmp 66), none, [], true⟩,
 ⟨(some 68), .conv .u8 (.tmp 67), none, [], true⟩,
 ⟨(some 69), .buildSlice 1 1 [(.int .u8 0)] [(0, (.tmp 68))], none, [], true⟩,
 ⟨(some 70), .append 1 1 (.tmp 65) (.tmp 69), none, [], true⟩,
 ⟨none, .store 1 (.tmp 2) (.tmp 70), none, [], true⟩])
 (.seq (.region [
 ⟨(some 72), .bin .eql (.tmp 18) (.const (.int .i64 8)), none, [], true⟩,
 ⟨(some 71), .move (.tmp 72), none, [], true⟩])
 (.cond (.tmp 71)
 (.seq (.region [
 ⟨(some 73), .load none (.tmp 2), none, [], true⟩,
 ⟨(some 74), .fieldAddr 8 (.tmp 3), none, [], true⟩,
 ⟨(some 75), .load none (.tmp 74), none, [], true⟩,
 ⟨(some 76), .lenSlice (.tmp 75), none, [], true⟩,
 ⟨(some 77), .conv .u8 (.tmp 76), none, [], true⟩,
 ⟨(some 78), .buildSlice 1 1 [(.int .u8 0)] [(0, (.tmp 77))], none, [], true⟩,
 ⟨(some 79), .append 1 1 (.tmp 73) (.tmp 78), none, [], true⟩,
 ⟨none, .store 1 (.tmp 2) (.tmp 79), none, [], true⟩])
 (.seq (.region [
 ⟨(some 80), .fieldAddr 8 (.tmp 3), none, [], true⟩,
 ⟨(some 81), .load none (.tmp 80), none, [], true⟩,
 ⟨(some 82), .lenSlice (.tmp 81), none, [], true⟩,
 ⟨(some 83), .move (.const (.int .i64 0)), none, [], true⟩])
 (.block 3 (.loop (.seq (.region [
 ⟨(some 84), .bin .lss (.tmp 83) (.tmp 82), none, [], true⟩])
 (.seq (.cond (.tmp 84)
 .skip
 (.exit 3))
 (.seq (.block 4 (.seq (.region [
 ⟨(some 85), .indexAddr 2 (.tmp 81) (.tmp 83), none, [], true⟩,
 ⟨(some 86), .load (some 2) (.tmp 85), none, [], true⟩,
 ⟨(some 7), .box (.const (.agg #[(.int .i64 0), (.int .u32 0)])), none, [], true⟩,
 ⟨none, .store 2 (.tmp 7) (.tmp 86), none, [], true⟩])
 (.drawn [
 ⟨(some 87), .load none (.tmp 2), none, [], false⟩,
 ⟨(some 88), .fieldAddr 0 (.tmp 7), none, [], false⟩,
 ⟨(some 89), .load none (.tmp 88), none, [1], false⟩,
 ⟨(some 90), .conv .u64 (.tmp 89), none, [2, 1], false⟩,
 ⟨(some 91), .call (.const (.func (.func 29) #[] #[])) [(.tmp 87), (.tmp 90), (.const (.int .i64 2))], none, [0, 3, 2, 1], false⟩,
 ⟨(some 92), .fieldAddr 1 (.tmp 7), none, [], false⟩,
 ⟨(some 93), .load none (.tmp 92), none, [5], false⟩,
 ⟨(some 94), .conv .u64 (.tmp 93), none, [6, 5], false⟩,
 ⟨(some 95), .call (.const (.func (.func 29) #[] #[])) [(.tmp 91), (.tmp 94), (.const (.int .i64 4))], none, [4, 7, 0, 3, 2, 1, 6, 5], true⟩,
 ⟨none, .store 1 (.tmp 2) (.tmp 95), none, [8, 0, 1, 2, 3, 4, 5, 6, 7], true⟩])))
 (.region [
 ⟨(some 96), .bin .add (.tmp 83) (.const (.int .i64 1)), none, [], true⟩,
 ⟨(some 83), .move (.tmp 96), none, [], true⟩]))))))))
 .skip))))))))))))))))))))))
 (.seq (.region [
 ⟨(some 97), .load none (.tmp 2), none, [], true⟩,
 ⟨(some 4), .move (.tmp 97), none, [], true⟩])
 .ret)))) }
theorem ir30_eq : funcC Tryd.prog 30 = some ir30 := by kernel_rfl
/-- wagonway/wagonwayref07.number -/
def ir31 : IFunc :=
{ ntmps := 24, results := [.tmp 4], body :=
 (.seq (.region [
 ⟨(some 4), .move (.const (.slice none 0 0)), none, [], true⟩])
 (.seq (.region [
 ⟨(some 7), .move (.tmp 1), none, [], true⟩,
 ⟨(some 8), .makeSlice 1 1 [(.int .u8 0)] (.tmp 7) (.tmp 7), none, [], true⟩,
 ⟨(some 5), .move (.tmp 8), none, [], true⟩])
 (.seq (.seq (.region [
 ⟨(some 9), .move (.tmp 1), none, [], true⟩,
 ⟨(some 10), .bin .sub (.tmp 9) (.const (.int .i64 1)), none, [], true⟩,
 ⟨(some 6), .move (.tmp 10), none, [], true⟩])
 (.block 0 (.loop (.seq (.seq (.region [
 ⟨(some 11), .move (.tmp 6), none, [], true⟩,
 ⟨(some 12), .bin .geq (.tmp 11) (.const (.int .i64 0)), none, [], true⟩])
 (.cond (.tmp 12)
 .skip
 (.exit 0)))
 (.seq (.block 1 (.seq (.region [
 ⟨(some 15), .move (.tmp 5), none, [], true⟩,
 ⟨(some 16), .move (.tmp 6), none, [], true⟩,
 ⟨(some 17), .move (.tmp 0), none, [], true⟩,
 ⟨(some 18), .bin .rem (.tmp 17) (.const (.int .u64 256)), none, [], true⟩,
 ⟨(some 19), .conv .u8 (.tmp 18), none, [], true⟩,
 ⟨(some 20), .indexAddr 1 (.tmp 15) (.tmp 16), none, [], true⟩,
 ⟨none, .store 1 (.tmp 20) (.tmp 19), none, [], true⟩])
 (.region [
 ⟨(some 21), .move (.tmp 0), none, [], true⟩,
 ⟨(some 22), .bin .quo (.tmp 21) (.const (.int .u64 256)), none, [], true⟩,
 ⟨(some 0), .move (.tmp 22), none, [], true⟩])))
 (.region [
 ⟨(some 13), .move (.tmp 6), none, [], true⟩,
 ⟨(some 14), .bin .sub (.tmp 13) (.const (.int .i64 1)), none, [], true⟩,
 ⟨(some 6), .move (.tmp 14), none, [], true⟩]))))))
 (.seq (.region [
 ⟨(some 23), .move (.tmp 5), none, [], true⟩,
 ⟨(some 4), .move (.tmp 23), none, [], true⟩])
 .ret)))) }
theorem ir31_eq : funcC Tryd.prog 31 = some ir31 := by kernel_rfl
/-- wagonway/wire.whole -/
def ir32 : IFunc :=
{ ntmps := 28, results := [.cell 2 none, .cell 3 none], body :=
 (.seq (.region [
 ⟨(some 2), .box (.const (.slice none 0 0)), none, [], true⟩,
 ⟨(some 3), .box (.const (.bool false)), none, [], true⟩])
 (.seq (.seq (.region [
 ⟨(some 6), .move (.tmp 0), none, [], true⟩,
 ⟨(some 7), .lenSlice (.tmp 6), none, [], true⟩,
 ⟨(some 8), .bin .rem (.tmp 7) (.const (.int .i64 2)), none, [], true⟩,
 ⟨(some 9), .bin .neq (.tmp 8) (.const (.int .i64 0)), none, [], true⟩])
 (.cond (.tmp 9)
 (.seq (.region [
 ⟨none, .store 1 (.tmp 2) (.const (.slice none 0 0)), none, [], true⟩,
 ⟨none, .store 1 (.tmp 3) (.const (.bool false)), none, [], true⟩])
 .ret)
 .skip))
 (.seq (.region [
 ⟨(some 4), .box (.const (.slice none 0 0)), none, [], true⟩])
 (.seq (.seq (.region [
 ⟨(some 10), .move (.tmp 0), none, [], true⟩,
 ⟨(some 11), .call (.const (.func (.func 39) #[] #[])) [(.tmp 10), (.const (.int .i64 2))], none, [], true⟩])
 (.block 0 (.rangeFunc (.tmp 11) [12]
 (.region [
 ⟨(some 5), .move (.tmp 12), none, [], true⟩])
 (.block 1 (.seq (.seq (.drawn [
 ⟨(some 13), .move (.tmp 5), none, [], false⟩,
 ⟨(some 14), .indexAddr 1 (.tmp 13) (.const (.int .i64 0)), none, [0], false⟩,
 ⟨(some 15), .load none (.tmp 14), none, [1, 0], false⟩,
 ⟨(some 16), .move (.tmp 5), none, [], false⟩,
 ⟨(some 17), .indexAddr 1 (.tmp 16) (.const (.int .i64 1)), none, [3], false⟩,
 ⟨(some 18), .load none (.tmp 17), none, [4, 3], false⟩,
 ⟨(some 19), .un .xor (.tmp 18), none, [5, 4, 3], false⟩,
 ⟨(some 20), .bin .neq (.tmp 15) (.tmp 19), none, [2, 6, 1, 0, 5, 4, 3], true⟩])
 (.cond (.tmp 20)
 (.seq (.region [
 ⟨none, .store 1 (.tmp 2) (.const (.slice none 0 0)), none, [], true⟩,
 ⟨none, .store 1 (.tmp 3) (.const (.bool false)), none, [], true⟩])
 .ret)
 .skip))
 (.drawn [
 ⟨(some 21), .load none (.tmp 4), none, [], false⟩,
 ⟨(some 22), .move (.tmp 5), none, [], false⟩,
 ⟨(some 23), .indexAddr 1 (.tmp 22) (.const (.int .i64 0)), none, [1], false⟩,
 ⟨(some 24), .load none (.tmp 23), none, [2, 1], false⟩,
 ⟨(some 25), .buildSlice 1 1 [(.int .u8 0)] [(0, (.tmp 24))], none, [3, 2, 1], false⟩,
 ⟨(some 26), .append 1 1 (.tmp 21) (.tmp 25), none, [0, 4, 3, 2, 1], true⟩,
 ⟨none, .store 1 (.tmp 4) (.tmp 26), none, [5, 0, 1, 2, 3, 4], true⟩]))))))
 (.seq (.region [
 ⟨(some 27), .load none (.tmp 4), none, [], true⟩,
 ⟨none, .store 1 (.tmp 2) (.tmp 27), none, [], true⟩,
 ⟨none, .store 1 (.tmp 3) (.const (.bool true)), none, [], true⟩])
 .ret))))) }
theorem ir32_eq : funcC Tryd.prog 32 = some ir32 := by kernel_rfl
/-- wagonway/wire.Read$1 -/
def ir33 : IFunc :=
{ ntmps := 35, results := [.tmp 4], body :=
 (.seq (.region [
 ⟨(some 4), .move (.const (.int .u64 0)), none, [], true⟩])
 (.seq (.seq (.region [
 ⟨(some 8), .load none (.tmp 1), none, [], true⟩,
 ⟨(some 9), .move (.tmp 8), none, [], true⟩,
 ⟨(some 10), .move (.tmp 0), (some (9, true)), [], true⟩,
 ⟨(some 11), .load none (.tmp 2), (some (9, true)), [], true⟩,
 ⟨(some 12), .lenSlice (.tmp 11), (some (9, true)), [], true⟩,
 ⟨(some 13), .bin .leq (.tmp 10) (.tmp 12), (some (9, true)), [], true⟩,
 ⟨(some 14), .pick (.tmp 9) (.tmp 13) (.const (.bool false)), none, [], true⟩,
 ⟨none, .store 1 (.tmp 1) (.tmp 14), none, [], true⟩])
 (.seq (.region [
 ⟨(some 15), .load none (.tmp 1), none, [], true⟩,
 ⟨(some 16), .un .not (.tmp 15), none, [], true⟩])
 (.cond (.tmp 16)
 (.seq (.region [
 ⟨(some 4), .move (.const (.int .u64 0)), none, [], true⟩])
 .ret)
 .skip)))
 (.seq (.region [
 ⟨(some 5), .move (.const (.int .u64 0)), none, [], true⟩])
 (.seq (.seq (.region [
 ⟨(some 17), .load none (.tmp 2), none, [], true⟩,
 ⟨(some 18), .move (.tmp 0), none, [], true⟩,
 ⟨(some 19), .slice 1 (.tmp 17) none (some (.tmp 18)) none, none, [], true⟩,
 ⟨(some 20), .lenSlice (.tmp 19), none, [], true⟩,
 ⟨(some 21), .move (.const (.int .i64 0)), none, [], true⟩])
 (.block 0 (.loop (.seq (.region [
 ⟨(some 22), .bin .lss (.tmp 21) (.tmp 20), none, [], true⟩])
 (.seq (.cond (.tmp 22)
 .skip
 (.exit 0))
 (.seq (.block 1 (.seq (.region [
 ⟨(some 23), .indexAddr 1 (.tmp 19) (.tmp 21), none, [], true⟩,
 ⟨(some 24), .load none (.tmp 23), none, [], true⟩,
 ⟨(some 7), .move (.tmp 24), none, [], true⟩])
 (.region [
 ⟨(some 25), .move (.tmp 5), none, [], true⟩,
 ⟨(some 26), .bin .shl (.tmp 25) (.const (.int .u64 8)), none, [], true⟩,
 ⟨(some 27), .move (.tmp 7), none, [], true⟩,
 ⟨(some 28), .conv .u64 (.tmp 27), none, [], true⟩,
 ⟨(some 29), .bin .or (.tmp 26) (.tmp 28), none, [], true⟩,
 ⟨(some 5), .move (.tmp 29), none, [], true⟩])))
 (.region [
 ⟨(some 30), .bin .add (.tmp 21) (.const (.int .i64 1)), none, [], true⟩,
 ⟨(some 21), .move (.tmp 30), none, [], true⟩])))))))
 (.seq (.region [
 ⟨(some 31), .load none (.tmp 2), none, [], true⟩,
 ⟨(some 32), .move (.tmp 0), none, [], true⟩,
 ⟨(some 33), .slice 1 (.tmp 31) (some (.tmp 32)) none none, none, [], true⟩,
 ⟨none, .store 1 (.tmp 2) (.tmp 33), none, [], true⟩])
 (.seq (.region [
 ⟨(some 34), .move (.tmp 5), none, [], true⟩,
 ⟨(some 4), .move (.tmp 34), none, [], true⟩])
 .ret)))))) }
theorem ir33_eq : funcC Tryd.prog 33 = some ir33 := by kernel_rfl
/-- wagonway/wire.message -/
def ir34 : IFunc :=
{ ntmps := 75, results := [.cell 4 (some 9)], body :=
 (.seq (.region [
 ⟨(some 3), .box (.tmp 1), none, [], true⟩,
 ⟨(some 4), .box (.const (.agg #[(.int .i64 0), (.int .i64 0), (.int .u32 0), (.int .u64 0), (.int .i64 0), (.int .i64 0), (.int .i64 0), (.int .i64 0), (.slice none 0 0)])), none, [], true⟩])
 (.seq (.region [
 ⟨(some 7), .move (.tmp 0), none, [], true⟩,
 ⟨(some 8), .build [(.int .i64 0), (.int .i64 0), (.int .u32 0), (.int .u64 0), (.int .i64 0), (.int .i64 0), (.int .i64 0), (.int .i64 0), (.slice none 0 0)] [(0, 1, (.tmp 7))], none, [], true⟩,
 ⟨(some 5), .box (.const (.agg #[(.int .i64 0), (.int .i64 0), (.int .u32 0), (.int .u64 0), (.int .i64 0), (.int .i64 0), (.int .i64 0), (.int .i64 0), (.slice none 0 0)])), none, [], true⟩,
 ⟨none, .store 9 (.tmp 5) (.tmp 8), none, [], true⟩])
 (.seq (.seq (.region [
 ⟨(some 9), .move (.tmp 0), none, [], true⟩,
 ⟨(some 10), .call (.const (.func (.func 38) #[] #[])) [(.tmp 9)], none, [], true⟩])
 (.block 0 (.rangeFunc (.tmp 10) [11]
 (.region [
 ⟨(some 6), .move (.tmp 11), none, [], true⟩])
 (.block 1 (.seq (.region [
 ⟨(some 12), .move (.tmp 6), none, [], true⟩])
 (.block 2 (.seq (.region [
 ⟨(some 14), .bin .eql (.tmp 12) (.const (.int .i64 1)), none, [], true⟩,
 ⟨(some 13), .move (.tmp 14), none, [], true⟩])
 (.cond (.tmp 13)
 (.region [
 ⟨(some 15), .load none (.tmp 3), none, [], true⟩,
 ⟨(some 16), .call (.tmp 15) [(.const (.int .i64 2))], none, [], true⟩,
 ⟨(some 17), .conv .i64 (.tmp 16), none, [], true⟩,
 ⟨(some 18), .fieldAddr 1 (.tmp 5), none, [], true⟩,
 ⟨none, .store 1 (.tmp 18) (.tmp 17), none, [], true⟩])
 (.seq (.region [
 ⟨(some 20), .bin .eql (.tmp 12) (.const (.int .i64 2)), none, [], true⟩,
 ⟨(some 19), .move (.tmp 20), none, [], true⟩])
 (.cond (.tmp 19)
 (.region [
 ⟨(some 21), .load none (.tmp 3), none, [], true⟩,
 ⟨(some 22), .call (.tmp 21) [(.const (.int .i64 4))], none, [], true⟩,
 ⟨(some 23), .conv .u32 (.tmp 22), none, [], true⟩,
 ⟨(some 24), .fieldAddr 2 (.tmp 5), none, [], true⟩,
 ⟨none, .store 1 (.tmp 24) (.tmp 23), none, [], true⟩])
 (.seq (.region [
 ⟨(some 26), .bin .eql (.tmp 12) (.const (.int .i64 3)), none, [], true⟩,
 ⟨(some 25), .move (.tmp 26), none, [], true⟩])
 (.cond (.tmp 25)
 (.region [
 ⟨(some 27), .load none (.tmp 3), none, [], true⟩,
 ⟨(some 28), .call (.tmp 27) [(.const (.int .i64 8))], none, [], true⟩,
 ⟨(some 29), .fieldAddr 3 (.tmp 5), none, [], true⟩,
 ⟨none, .store 1 (.tmp 29) (.tmp 28), none, [], true⟩])
 (.seq (.region [
 ⟨(some 31), .bin .eql (.tmp 12) (.const (.int .i64 4)), none, [], true⟩,
 ⟨(some 30), .move (.tmp 31), none, [], true⟩])
 (.cond (.tmp 30)
 (.region [
 ⟨(some 32), .load none (.tmp 3), none, [], true⟩,
 ⟨(some 33), .call (.tmp 32) [(.const (.int .i64 1))], none, [], true⟩,
 ⟨(some 34), .conv .i64 (.tmp 33), none, [], true⟩,
 ⟨(some 35), .fieldAddr 4 (.tmp 5), none, [], true⟩,
 ⟨none, .store 1 (.tmp 35) (.tmp 34), none, [], true⟩])
 (.seq (.region [
 ⟨(some 37), .bin .eql (.tmp 12) (.const (.int .i64 5)), none, [], true⟩,
 ⟨(some 36), .move (.tmp 37), none, [], true⟩])
 (.cond (.tmp 36)
 (.region [
 ⟨(some 38), .load none (.tmp 3), none, [], true⟩,
 ⟨(some 39), .call (.tmp 38) [(.const (.int .i64 1))], none, [], true⟩,
 ⟨(some 40), .conv .i64 (.tmp 39), none, [], true⟩,
 ⟨(some 41), .fieldAddr 5 (.tmp 5), none, [], true⟩,
 ⟨none, .store 1 (.tmp 41) (.tmp 40), none, [], true⟩])
 (.seq (.region [
 ⟨(some 43), .bin .eql (.tmp 12) (.const (.int .i64 6)), none, [], true⟩,
 ⟨(some 42), .move (.tmp 43), none, [], true⟩])
 (.cond (.tmp 42)
 (.region [
 ⟨(some 44), .load none (.tmp 3), none, [], true⟩,
 ⟨(some 45), .call (.tmp 44) [(.const (.int .i64 1))], none, [], true⟩,
 ⟨(some 46), .conv .i64 (.tmp 45), none, [], true⟩,
 ⟨(some 47), .fieldAddr 6 (.tmp 5), none, [], true⟩,
 ⟨none, .store 1 (.tmp 47) (.tmp 46), none, [], true⟩])
 (.seq (.region [
 ⟨(some 49), .bin .eql (.tmp 12) (.const (.int .i64 7)), none, [], true⟩,
 ⟨(some 48), .move (.tmp 49), none, [], true⟩])
 (.cond (.tmp 48)
 (.region [
 ⟨(some 50), .load none (.tmp 3), none, [], true⟩,
 ⟨(some 51), .call (.tmp 50) [(.const (.int .i64 1))], none, [], true⟩,
 ⟨(some 52), .conv .i8 (.tmp 51), none, [], true⟩,
 ⟨(some 53), .conv .i64 (.tmp 52), none, [], true⟩,
 ⟨(some 54), .fieldAddr 7 (.tmp 5), none, [], true⟩,
 ⟨none, .store 1 (.tmp 54) (.tmp 53), none, [], true⟩])
 (.seq (.region [
 ⟨(some 56), .bin .eql (.tmp 12) (.const (.int .i64 8)), none, [], true⟩,
 ⟨(some 55), .move (.tmp 56), none, [], true⟩])
 (.cond (.tmp 55)
 (.seq (.region [
 ⟨(some 57), .load none (.tmp 3), none, [], true⟩,
 ⟨(some 58), .call (.tmp 57) [(.const (.int .i64 1))], none, [], true⟩,
 ⟨(some 59), .move (.const (.int .u64 0)), none, [], true⟩])
 (.block 3 (.loop (.seq (.region [
 ⟨(some 60), .bin .lss (.tmp 59) (.tmp 58), none, [], true⟩])
 (.seq (.cond (.tmp 60)
 .skip
 (.exit 3))
 (.seq (.block 4 (.drawn [
 ⟨(some 61), .fieldAddr 8 (.tmp 5), none, [], false⟩,
 ⟨(some 62), .load none (.tmp 61), none, [0], false⟩,
 ⟨(some 63), .load none (.tmp 3), none, [], false⟩,
 ⟨(some 64), .call (.tmp 63) [(.const (.int .i64 2))], none, [2], false⟩,
 ⟨(some 65), .conv .i64 (.tmp 64), none, [3, 2], false⟩,
 ⟨(some 66), .load none (.tmp 3), none, [], false⟩,
 ⟨(some 67), .call (.tmp 66) [(.const (.int .i64 4))], none, [5, 3, 2], false⟩,
 ⟨(some 68), .conv .u32 (.tmp 67), none, [6, 5, 3, 2], false⟩,
 ⟨(some 69), .build [(.int .i64 0), (.int .u32 0)] [(0, 1, (.tmp 65)), (1, 1, (.tmp 68))], none, [4, 7, 3, 2, 6, 5], false⟩,
 ⟨(some 70), .buildSlice 2 1 [(.int .i64 0), (.int .u32 0)] [(0, (.tmp 69))], none, [8, 4, 7, 3, 2, 6, 5], false⟩,
 ⟨(some 71), .append 2 16 (.tmp 62) (.tmp 70), none, [1, 9, 6, 0, 8, 4, 7, 3, 2, 5], true⟩,
 ⟨(some 72), .fieldAddr 8 (.tmp 5), none, [0, 1, 2, 3, 4, 5, 6, 7, 8, 9, 10], true⟩,
 ⟨none, .store 1 (.tmp 72) (.tmp 71), none, [11, 10, 0, 1, 2, 3, 4, 5, 6, 7, 8, 9], true⟩]))
 (.region [
 ⟨(some 73), .bin .add (.tmp 59) (.const (.int .u64 1)), none, [], true⟩,
 ⟨(some 59), .move (.tmp 73), none, [], true⟩])))))))
 .skip))))))))))))))))))))))
 (.seq (.region [
 ⟨(some 74), .load (some 9) (.tmp 5), none, [], true⟩,
 ⟨none, .store 9 (.tmp 4) (.tmp 74), none, [], true⟩])
 .ret)))) }
theorem ir34_eq : funcC Tryd.prog 34 = some ir34 := by kernel_rfl
/-- wagonway/wagonwayref07.guess -/
def ir35 : IFunc :=
{ ntmps := 144, results := [.cell 2 (some 15)], body :=
 (.seq (.region [
 ⟨(some 2), .box (.const (.agg #[(.int .i64 0), (.int .i64 0), (.int .u32 0), (.int .u32 0), (.int .u32 0), (.int .u32 0), (.int .i64 0), (.int .i64 0), (.int .u32 0), (.int .u64 0), (.int .i64 0), (.int .i64 0), (.int .i64 0), (.int .i64 0), (.slice none 0 0)])), none, [], true⟩])
 (.seq (.region [
 ⟨(some 10), .move (.tmp 0), none, [], true⟩,
 ⟨(some 11), .call (.const (.func (.func 40) #[] #[])) [(.tmp 10), (.const (.int .i64 0)), (.const (.int .i64 1))], none, [], true⟩,
 ⟨(some 12), .conv .i64 (.tmp 11), none, [], true⟩,
 ⟨(some 13), .move (.tmp 0), none, [], true⟩,
 ⟨(some 14), .call (.const (.func (.func 40) #[] #[])) [(.tmp 13), (.const (.int .i64 1)), (.const (.int .i64 1))], none, [], true⟩,
 ⟨(some 15), .conv .i64 (.tmp 14), none, [], true⟩,
 ⟨(some 16), .move (.tmp 0), none, [], true⟩,
 ⟨(some 17), .call (.const (.func (.func 40) #[] #[])) [(.tmp 16), (.const (.int .i64 2)), (.const (.int .i64 4))], none, [], true⟩,
 ⟨(some 18), .conv .u32 (.tmp 17), none, [], true⟩,
 ⟨(some 19), .move (.tmp 0), none, [], true⟩,
 ⟨(some 20), .call (.const (.func (.func 40) #[] #[])) [(.tmp 19), (.const (.int .i64 6)), (.const (.int .i64 4))], none, [], true⟩,
 ⟨(some 21), .conv .u32 (.tmp 20), none, [], true⟩,
 ⟨(some 22), .move (.tmp 0), none, [], true⟩,
 ⟨(some 23), .call (.const (.func (.func 40) #[] #[])) [(.tmp 22), (.const (.int .i64 10)), (.const (.int .i64 4))], none, [], true⟩,
 ⟨(some 24), .conv .u32 (.tmp 23), none, [], true⟩,
 ⟨(some 25), .move (.tmp 0), none, [], true⟩,
 ⟨(some 26), .call (.const (.func (.func 40) #[] #[])) [(.tmp 25), (.const (.int .i64 14)), (.const (.int .i64 4))], none, [], true⟩,
 ⟨(some 27), .conv .u32 (.tmp 26), none, [], true⟩,
 ⟨(some 28), .build [(.int .i64 0), (.int .i64 0), (.int .u32 0), (.int .u32 0), (.int .u32 0), (.int .u32 0), (.int .i64 0), (.int .i64 0), (.int .u32 0), (.int .u64 0), (.int .i64 0), (.int .i64 0), (.int .i64 0), (.int .i64 0), (.slice none 0 0)] [(0, 1, (.tmp 12)), (1, 1, (.tmp 15)), (2, 1, (.tmp 18)), (3, 1, (.tmp 21)), (4, 1, (.tmp 24)), (5, 1, (.tmp 27))], none, [], true⟩,
 ⟨(some 3), .box (.const (.agg #[(.int .i64 0), (.int .i64 0), (.int .u32 0), (.int .u32 0), (.int .u32 0), (.int .u32 0), (.int .i64 0), (.int .i64 0), (.int .u32 0), (.int .u64 0), (.int .i64 0), (.int .i64 0), (.int .i64 0), (.int .i64 0), (.slice none 0 0)])), none, [], true⟩,
 ⟨none, .store 15 (.tmp 3) (.tmp 28), none, [], true⟩])
 (.seq (.region [
 ⟨(some 29), .move (.tmp 0), none, [], true⟩,
 ⟨(some 30), .call (.const (.func (.func 40) #[] #[])) [(.tmp 29), (.const (.int .i64 18)), (.const (.int .i64 1))], none, [], true⟩,
 ⟨(some 31), .conv .i64 (.tmp 30), none, [], true⟩,
 ⟨(some 32), .build [(.int .i64 0), (.int .i64 0), (.int .u32 0), (.int .u64 0), (.int .i64 0), (.int .i64 0), (.int .i64 0), (.int .i64 0), (.slice none 0 0)] [(0, 1, (.tmp 31))], none, [], true⟩,
 ⟨(some 4), .box (.const (.agg #[(.int .i64 0), (.int .i64 0), (.int .u32 0), (.int .u64 0), (.int .i64 0), (.int .i64 0), (.int .i64 0), (.int .i64 0), (.slice none 0 0)])), none, [], true⟩,
 ⟨none, .store 9 (.tmp 4) (.tmp 32), none, [], true⟩])
 (.seq (.region [
 ⟨(some 33), .fieldAddr 0 (.tmp 4), none, [], true⟩,
 ⟨(some 34), .load none (.tmp 33), none, [], true⟩,
 ⟨(some 35), .call (.const (.func (.func 25) #[] #[])) [(.tmp 34)], none, [], true⟩,
 ⟨(some 5), .move (.tmp 35), none, [], true⟩])
 (.seq (.region [
 ⟨(some 6), .move (.const (.int .i64 19)), none, [], true⟩])
 (.seq (.seq (.region [
 ⟨(some 7), .move (.const (.int .i64 0)), none, [], true⟩])
 (.block 0 (.loop (.seq (.seq (.region [
 ⟨(some 36), .move (.tmp 7), none, [], true⟩,
 ⟨(some 37), .move (.tmp 5), none, [], true⟩,
 ⟨(some 38), .lenStr (.tmp 37), none, [], true⟩,
 ⟨(some 39), .bin .lss (.tmp 36) (.tmp 38), none, [], true⟩])
 (.cond (.tmp 39)
 .skip
 (.exit 0)))
 (.seq (.block 1 (.seq (.region [
 ⟨(some 42), .move (.tmp 5), none, [], true⟩,
 ⟨(some 43), .move (.tmp 7), none, [], true⟩,
 ⟨(some 44), .indexStr (.tmp 42) (.tmp 43), none, [], true⟩])
 (.block 2 (.seq (.region [
 ⟨(some 46), .bin .eql (.tmp 44) (.const (.int .u8 99)), none, [], true⟩,
 ⟨(some 45), .move (.tmp 46), none, [], true⟩])
 (.cond (.tmp 45)
 (.seq (.region [
 ⟨(some 47), .move (.tmp 0), none, [], true⟩,
 ⟨(some 48), .move (.tmp 6), none, [], true⟩,
 ⟨(some 49), .call (.const (.func (.func 40) #[] #[])) [(.tmp 47), (.tmp 48), (.const (.int .i64 2))], none, [], true⟩,
 ⟨(some 50), .conv .i64 (.tmp 49), none, [], true⟩,
 ⟨(some 51), .fieldAddr 1 (.tmp 4), none, [], true⟩,
 ⟨none, .store 1 (.tmp 51) (.tmp 50), none, [], true⟩])
 (.region [
 ⟨(some 52), .move (.tmp 6), none, [], true⟩,
 ⟨(some 53), .bin .add (.tmp 52) (.const (.int .i64 2)), none, [], true⟩,
 ⟨(some 6), .move (.tmp 53), none, [], true⟩]))
 (.seq (.region [
 ⟨(some 55), .bin .eql (.tmp 44) (.const (.int .u8 103)), none, [], true⟩,
 ⟨(some 54), .move (.tmp 55), none, [], true⟩])
 (.cond (.tmp 54)
 (.seq (.region [
 ⟨(some 56), .move (.tmp 0), none, [], true⟩,
 ⟨(some 57), .move (.tmp 6), none, [], true⟩,
 ⟨(some 58), .call (.const (.func (.func 40) #[] #[])) [(.tmp 56), (.tmp 57), (.const (.int .i64 4))], none, [], true⟩,
 ⟨(some 59), .conv .u32 (.tmp 58), none, [], true⟩,
 ⟨(some 60), .fieldAddr 2 (.tmp 4), none, [], true⟩,
 ⟨none, .store 1 (.tmp 60) (.tmp 59), none, [], true⟩])
 (.region [
 ⟨(some 61), .move (.tmp 6), none, [], true⟩,
 ⟨(some 62), .bin .add (.tmp 61) (.const (.int .i64 4)), none, [], true⟩,
 ⟨(some 6), .move (.tmp 62), none, [], true⟩]))
 (.seq (.region [
 ⟨(some 64), .bin .eql (.tmp 44) (.const (.int .u8 115)), none, [], true⟩,
 ⟨(some 63), .move (.tmp 64), none, [], true⟩])
 (.cond (.tmp 63)
 (.seq (.region [
 ⟨(some 65), .move (.tmp 0), none, [], true⟩,
 ⟨(some 66), .move (.tmp 6), none, [], true⟩,
 ⟨(some 67), .call (.const (.func (.func 40) #[] #[])) [(.tmp 65), (.tmp 66), (.const (.int .i64 8))], none, [], true⟩,
 ⟨(some 68), .fieldAddr 3 (.tmp 4), none, [], true⟩,
 ⟨none, .store 1 (.tmp 68) (.tmp 67), none, [], true⟩])
 (.region [
 ⟨(some 69), .move (.tmp 6), none, [], true⟩,
 ⟨(some 70), .bin .add (.tmp 69) (.const (.int .i64 8)), none, [], true⟩,
 ⟨(some 6), .move (.tmp 70), none, [], true⟩]))
 (.seq (.region [
 ⟨(some 72), .bin .eql (.tmp 44) (.const (.int .u8 112)), none, [], true⟩,
 ⟨(some 71), .move (.tmp 72), none, [], true⟩])
 (.cond (.tmp 71)
 (.seq (.region [
 ⟨(some 73), .move (.tmp 0), none, [], true⟩,
 ⟨(some 74), .move (.tmp 6), none, [], true⟩,
 ⟨(some 75), .call (.const (.func (.func 40) #[] #[])) [(.tmp 73), (.tmp 74), (.const (.int .i64 1))], none, [], true⟩,
 ⟨(some 76), .conv .i64 (.tmp 75), none, [], true⟩,
 ⟨(some 77), .fieldAddr 4 (.tmp 4), none, [], true⟩,
 ⟨none, .store 1 (.tmp 77) (.tmp 76), none, [], true⟩])
 (.region [
 ⟨(some 78), .move (.tmp 6), none, [], true⟩,
 ⟨(some 79), .bin .add (.tmp 78) (.const (.int .i64 1)), none, [], true⟩,
 ⟨(some 6), .move (.tmp 79), none, [], true⟩]))
 (.seq (.region [
 ⟨(some 81), .bin .eql (.tmp 44) (.const (.int .u8 104)), none, [], true⟩,
 ⟨(some 80), .move (.tmp 81), none, [], true⟩])
 (.cond (.tmp 80)
 (.seq (.region [
 ⟨(some 82), .move (.tmp 0), none, [], true⟩,
 ⟨(some 83), .move (.tmp 6), none, [], true⟩,
 ⟨(some 84), .call (.const (.func (.func 40) #[] #[])) [(.tmp 82), (.tmp 83), (.const (.int .i64 1))], none, [], true⟩,
 ⟨(some 85), .conv .i64 (.tmp 84), none, [], true⟩,
 ⟨(some 86), .fieldAddr 5 (.tmp 4), none, [], true⟩,
 ⟨none, .store 1 (.tmp 86) (.tmp 85), none, [], true⟩])
 (.region [
 ⟨(some 87), .move (.tmp 6), none, [], true⟩,
 ⟨(some 88), .bin .add (.tmp 87) (.const (.int .i64 1)), none, [], true⟩,
 ⟨(some 6), .move (.tmp 88), none, [], true⟩]))
 (.seq (.region [
 ⟨(some 90), .bin .eql (.tmp 44) (.const (.int .u8 111)), none, [], true⟩,
 ⟨(some 89), .move (.tmp 90), none, [], true⟩])
 (.cond (.tmp 89)
 (.seq (.region [
 ⟨(some 91), .move (.tmp 0), none, [], true⟩,
 ⟨(some 92), .move (.tmp 6), none, [], true⟩,
 ⟨(some 93), .call (.const (.func (.func 40) #[] #[])) [(.tmp 91), (.tmp 92), (.const (.int .i64 1))], none, [], true⟩,
 ⟨(some 94), .conv .i64 (.tmp 93), none, [], true⟩,
 ⟨(some 95), .fieldAddr 6 (.tmp 4), none, [], true⟩,
 ⟨none, .store 1 (.tmp 95) (.tmp 94), none, [], true⟩])
 (.region [
 ⟨(some 96), .move (.tmp 6), none, [], true⟩,
 ⟨(some 97), .bin .add (.tmp 96) (.const (.int .i64 1)), none, [], true⟩,
 ⟨(some 6), .move (.tmp 97), none, [], true⟩]))
 (.seq (.region [
 ⟨(some 99), .bin .eql (.tmp 44) (.const (.int .u8 119)), none, [], true⟩,
 ⟨(some 98), .move (.tmp 99), none, [], true⟩])
 (.cond (.tmp 98)
 (.seq (.region [
 ⟨(some 100), .move (.tmp 0), none, [], true⟩,
 ⟨(some 101), .move (.tmp 6), none, [], true⟩,
 ⟨(some 102), .call (.const (.func (.func 40) #[] #[])) [(.tmp 100), (.tmp 101), (.const (.int .i64 1))], none, [], true⟩,
 ⟨(some 103), .conv .i64 (.tmp 102), none, [], true⟩,
 ⟨(some 104), .fieldAddr 7 (.tmp 4), none, [], true⟩,
 ⟨none, .store 1 (.tmp 104) (.tmp 103), none, [], true⟩])
 (.seq (.seq (.region [
 ⟨(some 105), .fieldAddr 7 (.tmp 4), none, [], true⟩,
 ⟨(some 106), .load none (.tmp 105), none, [], true⟩,
 ⟨(some 107), .bin .eql (.tmp 106) (.const (.int .i64 255)), none, [], true⟩])
 (.cond (.tmp 107)
 (.region [
 ⟨(some 108), .fieldAddr 7 (.tmp 4), none, [], true⟩,
 ⟨none, .store 1 (.tmp 108) (.const (.int .i64 (-1))), none, [], true⟩])
 .skip))
 (.region [
 ⟨(some 109), .move (.tmp 6), none, [], true⟩,
 ⟨(some 110), .bin .add (.tmp 109) (.const (.int .i64 1)), none, [], true⟩,
 ⟨(some 6), .move (.tmp 110), none, [], true⟩])))
 (.seq (.region [
 ⟨(some 112), .bin .eql (.tmp 44) (.const (.int .u8 108)), none, [], true⟩,
 ⟨(some 111), .move (.tmp 112), none, [], true⟩])
 (.cond (.tmp 111)
 (.seq (.region [
 ⟨(some 113), .move (.tmp 0), none, [], true⟩,
 ⟨(some 114), .move (.tmp 6), none, [], true⟩,
 ⟨(some 115), .call (.const (.func (.func 40) #[] #[])) [(.tmp 113), (.tmp 114), (.const (.int .i64 1))], none, [], true⟩,
 ⟨(some 116), .conv .i64 (.tmp 115), none, [], true⟩,
 ⟨(some 8), .move (.tmp 116), none, [], true⟩])
 (.seq (.region [
 ⟨(some 117), .move (.tmp 6), none, [], true⟩,
 ⟨(some 118), .bin .add (.tmp 117) (.const (.int .i64 1)), none, [], true⟩,
 ⟨(some 6), .move (.tmp 118), none, [], true⟩])
 (.seq (.region [
 ⟨(some 9), .move (.const (.int .i64 0)), none, [], true⟩])
 (.block 3 (.loop (.seq (.seq (.region [
 ⟨(some 119), .move (.tmp 9), none, [], true⟩,
 ⟨(some 120), .move (.tmp 8), none, [], true⟩,
 ⟨(some 121), .bin .lss (.tmp 119) (.tmp 120), none, [], true⟩])
 (.cond (.tmp 121)
 .skip
 (.exit 3)))
 (.seq (.block 4 (.seq (.drawn [
 ⟨(some 124), .fieldAddr 8 (.tmp 4), none, [], false⟩,
 ⟨(some 125), .load none (.tmp 124), none, [0], false⟩,
 ⟨(some 126), .move (.tmp 0), none, [], false⟩,
 ⟨(some 127), .move (.tmp 6), none, [], false⟩,
 ⟨(some 128), .call (.const (.func (.func 40) #[] #[])) [(.tmp 126), (.tmp 127), (.const (.int .i64 2))], none, [2, 3], false⟩,
 ⟨(some 129), .conv .i64 (.tmp 128), none, [4, 2, 3], false⟩,
 ⟨(some 130), .move (.tmp 0), none, [], false⟩,
 ⟨(some 131), .move (.tmp 6), none, [], false⟩,
 ⟨(some 132), .bin .add (.tmp 131) (.const (.int .i64 2)), none, [7], false⟩,
 ⟨(some 133), .call (.const (.func (.func 40) #[] #[])) [(.tmp 130), (.tmp 132), (.const (.int .i64 4))], none, [6, 8, 4, 7, 2, 3], false⟩,
 ⟨(some 134), .conv .u32 (.tmp 133), none, [9, 6, 8, 4, 7, 2, 3], false⟩,
 ⟨(some 135), .build [(.int .i64 0), (.int .u32 0)] [(0, 1, (.tmp 129)), (1, 1, (.tmp 134))], none, [5, 10, 4, 2, 3, 9, 6, 8, 7], false⟩,
 ⟨(some 136), .buildSlice 2 1 [(.int .i64 0), (.int .u32 0)] [(0, (.tmp 135))], none, [11, 5, 10, 4, 2, 3, 9, 6, 8, 7], false⟩,
 ⟨(some 137), .append 2 16 (.tmp 125) (.tmp 136), none, [1, 12, 9, 0, 11, 5, 10, 4, 2, 3, 6, 8, 7], true⟩,
 ⟨(some 138), .fieldAddr 8 (.tmp 4), none, [0, 1, 2, 3, 4, 5, 6, 7, 8, 9, 10, 11, 12, 13], true⟩,
 ⟨none, .store 1 (.tmp 138) (.tmp 137), none, [14, 13, 0, 1, 2, 3, 4, 5, 6, 7, 8, 9, 10, 11, 12], true⟩])
 (.region [
 ⟨(some 139), .move (.tmp 6), none, [], true⟩,
 ⟨(some 140), .bin .add (.tmp 139) (.const (.int .i64 6)), none, [], true⟩,
 ⟨(some 6), .move (.tmp 140), none, [], true⟩])))
 (.region [
 ⟨(some 122), .move (.tmp 9), none, [], true⟩,
 ⟨(some 123), .bin .add (.tmp 122) (.const (.int .i64 1)), none, [], true⟩,
 ⟨(some 9), .move (.tmp 123), none, [], true⟩]))))))))
 .skip)))))))))))))))))))
 (.region [
 ⟨(some 40), .move (.tmp 7), none, [], true⟩,
 ⟨(some 41), .bin .add (.tmp 40) (.const (.int .i64 1)), none, [], true⟩,
 ⟨(some 7), .move (.tmp 41), none, [], true⟩]))))))
 (.seq (.region [
 ⟨(some 141), .load (some 9) (.tmp 4), none, [], true⟩,
 ⟨(some 142), .fieldAddr 6 (.tmp 3), none, [], true⟩,
 ⟨none, .store 9 (.tmp 142) (.tmp 141), none, [], true⟩])
 (.seq (.region [
 ⟨(some 143), .load (some 15) (.tmp 3), none, [], true⟩,
 ⟨none, .store 15 (.tmp 2) (.tmp 143), none, [], true⟩])
 .ret)))))))) }
theorem ir35_eq : funcC Tryd.prog 35 = some ir35 := by kernel_rfl
/-- slices.Equal[[]int,int] -/
def ir36 : IFunc :=
{ ntmps := 26, results := [.tmp 4], body :=
 (.seq (.region [
 ⟨(some 4), .move (.const (.bool false)), none, [], true⟩])
 (.seq (.seq (.region [
 ⟨(some 6), .move (.tmp 0), none, [], true⟩,
 ⟨(some 7), .lenSlice (.tmp 6), none, [], true⟩,
 ⟨(some 8), .move (.tmp 1), none, [], true⟩,
 ⟨(some 9), .lenSlice (.tmp 8), none, [], true⟩,
 ⟨(some 10), .bin .neq (.tmp 7) (.tmp 9), none, [], true⟩])
 (.cond (.tmp 10)
 (.seq (.region [
 ⟨(some 4), .move (.const (.bool false)), none, [], true⟩])
 .ret)
 .skip))
 (.seq (.seq (.region [
 ⟨(some 11), .move (.tmp 0), none, [], true⟩,
 ⟨(some 12), .lenSlice (.tmp 11), none, [], true⟩,
 ⟨(some 13), .move (.const (.int .i64 0)), none, [], true⟩])
 (.block 0 (.loop (.seq (.region [
 ⟨(some 14), .bin .lss (.tmp 13) (.tmp 12), none, [], true⟩])
 (.seq (.cond (.tmp 14)
 .skip
 (.exit 0))
 (.seq (.block 1 (.seq (.region [
 ⟨(some 15), .move (.tmp 13), none, [], true⟩,
 ⟨(some 5), .move (.tmp 15), none, [], true⟩])
 (.seq (.drawn [
 ⟨(some 16), .move (.tmp 0), none, [], false⟩,
 ⟨(some 17), .move (.tmp 5), none, [], false⟩,
 ⟨(some 18), .indexAddr 1 (.tmp 16) (.tmp 17), none, [0, 1], false⟩,
 ⟨(some 19), .load none (.tmp 18), none, [2, 0, 1], false⟩,
 ⟨(some 20), .move (.tmp 1), none, [], false⟩,
 ⟨(some 21), .move (.tmp 5), none, [], false⟩,
 ⟨(some 22), .indexAddr 1 (.tmp 20) (.tmp 21), none, [4, 5], false⟩,
 ⟨(some 23), .load none (.tmp 22), none, [6, 4, 5], false⟩,
 ⟨(some 24), .bin .neq (.tmp 19) (.tmp 23), none, [3, 7, 2, 0, 1, 6, 4, 5], true⟩])
 (.cond (.tmp 24)
 (.seq (.region [
 ⟨(some 4), .move (.const (.bool false)), none, [], true⟩])
 .ret)
 .skip))))
 (.region [
 ⟨(some 25), .bin .add (.tmp 13) (.const (.int .i64 1)), none, [], true⟩,
 ⟨(some 13), .move (.tmp 25), none, [], true⟩])))))))
 (.seq (.region [
 ⟨(some 4), .move (.const (.bool true)), none, [], true⟩])
 .ret)))) }
theorem ir36_eq : funcC Tryd.prog 36 = some ir36 := by kernel_rfl
/-- slices.Equal[[]wagonway/api.Claim,wagonway/api.Claim] -/
def ir37 : IFunc :=
{ ntmps := 26, results := [.tmp 4], body :=
 (.seq (.region [
 ⟨(some 4), .move (.const (.bool false)), none, [], true⟩])
 (.seq (.seq (.region [
 ⟨(some 6), .move (.tmp 0), none, [], true⟩,
 ⟨(some 7), .lenSlice (.tmp 6), none, [], true⟩,
 ⟨(some 8), .move (.tmp 1), none, [], true⟩,
 ⟨(some 9), .lenSlice (.tmp 8), none, [], true⟩,
 ⟨(some 10), .bin .neq (.tmp 7) (.tmp 9), none, [], true⟩])
 (.cond (.tmp 10)
 (.seq (.region [
 ⟨(some 4), .move (.const (.bool false)), none, [], true⟩])
 .ret)
 .skip))
 (.seq (.seq (.region [
 ⟨(some 11), .move (.tmp 0), none, [], true⟩,
 ⟨(some 12), .lenSlice (.tmp 11), none, [], true⟩,
 ⟨(some 13), .move (.const (.int .i64 0)), none, [], true⟩])
 (.block 0 (.loop (.seq (.region [
 ⟨(some 14), .bin .lss (.tmp 13) (.tmp 12), none, [], true⟩])
 (.seq (.cond (.tmp 14)
 .skip
 (.exit 0))
 (.seq (.block 1 (.seq (.region [
 ⟨(some 15), .move (.tmp 13), none, [], true⟩,
 ⟨(some 5), .move (.tmp 15), none, [], true⟩])
 (.seq (.drawn [
 ⟨(some 16), .move (.tmp 0), none, [], false⟩,
 ⟨(some 17), .move (.tmp 5), none, [], false⟩,
 ⟨(some 18), .indexAddr 2 (.tmp 16) (.tmp 17), none, [0, 1], false⟩,
 ⟨(some 19), .load (some 2) (.tmp 18), none, [2, 0, 1], false⟩,
 ⟨(some 20), .move (.tmp 1), none, [], false⟩,
 ⟨(some 21), .move (.tmp 5), none, [], false⟩,
 ⟨(some 22), .indexAddr 2 (.tmp 20) (.tmp 21), none, [4, 5], false⟩,
 ⟨(some 23), .load (some 2) (.tmp 22), none, [6, 4, 5], false⟩,
 ⟨(some 24), .eqAgg true [.int, .int] (.tmp 19) (.tmp 23), none, [3, 7, 2, 0, 1, 6, 4, 5], true⟩])
 (.cond (.tmp 24)
 (.seq (.region [
 ⟨(some 4), .move (.const (.bool false)), none, [], true⟩])
 .ret)
 .skip))))
 (.region [
 ⟨(some 25), .bin .add (.tmp 13) (.const (.int .i64 1)), none, [], true⟩,
 ⟨(some 13), .move (.tmp 25), none, [], true⟩])))))))
 (.seq (.region [
 ⟨(some 4), .move (.const (.bool true)), none, [], true⟩])
 .ret)))) }
theorem ir37_eq : funcC Tryd.prog 37 = some ir37 := by kernel_rfl
/-- wagonway/wire.fields -/
def ir38 : IFunc :=
{ ntmps := 4, results := [.tmp 2], body :=
 (.seq (.region [
 ⟨(some 1), .box (.tmp 0), none, [], true⟩,
 ⟨(some 2), .move (.const .nilFunc), none, [], true⟩])
 (.seq (.region [
 ⟨(some 3), .func (.func 41) [] [(.tmp 1)], none, [], true⟩,
 ⟨(some 2), .move (.tmp 3), none, [], true⟩])
 .ret)) }
theorem ir38_eq : funcC Tryd.prog 38 = some ir38 := by kernel_rfl
/-- slices.Chunk[[]byte,byte] -/
def ir39 : IFunc :=
{ ntmps := 9, results := [.tmp 4], body :=
 (.seq (.region [
 ⟨(some 2), .box (.tmp 0), none, [], true⟩,
 ⟨(some 3), .box (.tmp 1), none, [], true⟩,
 ⟨(some 4), .move (.const .nilFunc), none, [], true⟩])
 (.seq (.seq (.region [
 ⟨(some 5), .load none (.tmp 3), none, [], true⟩,
 ⟨(some 6), .bin .lss (.tmp 5) (.const (.int .i64 1)), none, [], true⟩])
 (.cond (.tmp 6)
 (.region [
 ⟨(some 7), .bad, none, [], true⟩,
 ⟨none, .bad, none, [], true⟩])
 .skip))
 (.seq (.region [
 ⟨(some 8), .func (.func 42) [] [(.tmp 2), (.tmp 3)], none, [], true⟩,
 ⟨(some 4), .move (.tmp 8), none, [], true⟩])
 .ret))) }
theorem ir39_eq : funcC Tryd.prog 39 = some ir39 := by kernel_rfl
/-- wagonway/wagonwayref07.take -/
def ir40 : IFunc :=
{ ntmps := 33, results := [.tmp 6], body :=
 (.seq (.region [
 ⟨(some 6), .move (.const (.int .u64 0)), none, [], true⟩])
 (.seq (.region [
 ⟨(some 7), .move (.const (.int .u64 0)), none, [], true⟩])
 (.seq (.seq (.region [
 ⟨(some 8), .move (.const (.int .i64 0)), none, [], true⟩])
 (.block 0 (.loop (.seq (.seq (.region [
 ⟨(some 9), .move (.tmp 8), none, [], true⟩,
 ⟨(some 10), .move (.tmp 2), none, [], true⟩,
 ⟨(some 11), .bin .lss (.tmp 9) (.tmp 10), none, [], true⟩,
 ⟨(some 12), .move (.tmp 11), none, [], true⟩,
 ⟨(some 13), .move (.tmp 1), (some (12, true)), [], true⟩,
 ⟨(some 14), .move (.tmp 8), (some (12, true)), [], true⟩,
 ⟨(some 15), .bin .add (.tmp 13) (.tmp 14), (some (12, true)), [], true⟩,
 ⟨(some 16), .move (.tmp 0), (some (12, true)), [], true⟩,
 ⟨(some 17), .lenSlice (.tmp 16), (some (12, true)), [], true⟩,
 ⟨(some 18), .bin .lss (.tmp 15) (.tmp 17), (some (12, true)), [], true⟩,
 ⟨(some 19), .pick (.tmp 12) (.tmp 18) (.const (.bool false)), none, [], true⟩])
 (.cond (.tmp 19)
 .skip
 (.exit 0)))
 (.seq (.block 1 (.region [
 ⟨(some 22), .move (.tmp 7), none, [], true⟩,
 ⟨(some 23), .bin .mul (.tmp 22) (.const (.int .u64 256)), none, [], true⟩,
 ⟨(some 24), .move (.tmp 0), none, [], true⟩,
 ⟨(some 25), .move (.tmp 1), none, [], true⟩,
 ⟨(some 26), .move (.tmp 8), none, [], true⟩,
 ⟨(some 27), .bin .add (.tmp 25) (.tmp 26), none, [], true⟩,
 ⟨(some 28), .indexAddr 1 (.tmp 24) (.tmp 27), none, [], true⟩,
 ⟨(some 29), .load none (.tmp 28), none, [], true⟩,
 ⟨(some 30), .conv .u64 (.tmp 29), none, [], true⟩,
 ⟨(some 31), .bin .add (.tmp 23) (.tmp 30), none, [], true⟩,
 ⟨(some 7), .move (.tmp 31), none, [], true⟩]))
 (.region [
 ⟨(some 20), .move (.tmp 8), none, [], true⟩,
 ⟨(some 21), .bin .add (.tmp 20) (.const (.int .i64 1)), none, [], true⟩,
 ⟨(some 8), .move (.tmp 21), none, [], true⟩]))))))
 (.seq (.region [
 ⟨(some 32), .move (.tmp 7), none, [], true⟩,
 ⟨(some 6), .move (.tmp 32), none, [], true⟩])
 .ret)))) }
theorem ir40_eq : funcC Tryd.prog 40 = some ir40 := by kernel_rfl
/-- wagonway/wire.fields$1 -/
def ir41 : IFunc :=
{ ntmps := 22, results := [], body :=
 (.seq .skip
 (.seq (.region [
 ⟨(some 5), .load none (.tmp 1), none, [], true⟩,
 ⟨(some 6), .bin .sub (.tmp 5) (.const (.int .i64 1)), none, [], true⟩,
 ⟨(some 7), .indexAddrArr 11 6 (.const (.pointer (some ⟨1, 0, none⟩))) (.tmp 6), none, [], true⟩,
 ⟨(some 8), .fieldAddr 1 (.tmp 7), none, [], true⟩,
 ⟨(some 9), .load (some 5) (.tmp 8), none, [], true⟩,
 ⟨(some 10), .move (.const (.int .i64 0)), none, [], true⟩])
 (.block 0 (.loop (.seq (.region [
 ⟨(some 11), .bin .lss (.tmp 10) (.const (.int .i64 5)), none, [], true⟩])
 (.seq (.cond (.tmp 11)
 .skip
 (.exit 0))
 (.seq (.block 1 (.seq (.region [
 ⟨(some 12), .indexAgg 5 1 none (.tmp 9) (.tmp 10), none, [], true⟩,
 ⟨(some 4), .move (.tmp 12), none, [], true⟩])
 (.seq (.region [
 ⟨(some 13), .move (.tmp 4), none, [], true⟩,
 ⟨(some 14), .bin .eql (.tmp 13) (.const (.int .i64 0)), none, [], true⟩,
 ⟨(some 15), .move (.tmp 14), none, [], true⟩,
 ⟨(some 16), .move (.tmp 0), (some (15, false)), [], true⟩,
 ⟨(some 17), .move (.tmp 4), (some (15, false)), [], true⟩,
 ⟨(some 18), .call (.tmp 16) [(.tmp 17)], (some (15, false)), [], true⟩,
 ⟨(some 19), .un .not (.tmp 18), (some (15, false)), [], true⟩,
 ⟨(some 20), .pick (.tmp 15) (.const (.bool true)) (.tmp 19), none, [], true⟩])
 (.cond (.tmp 20)
 (.exit 0)
 .skip))))
 (.region [
 ⟨(some 21), .bin .add (.tmp 10) (.const (.int .i64 1)), none, [], true⟩,
 ⟨(some 10), .move (.tmp 21), none, [], true⟩])))))))) }
theorem ir41_eq : funcC Tryd.prog 41 = some ir41 := by kernel_rfl
/-- slices.Chunk[[]byte,byte]$1 -/
def ir42 : IFunc :=
{ ntmps := 31, results := [], body :=
 (.seq (.region [
 ⟨(some 4), .move (.const (.int .i64 0)), none, [], true⟩])
 (.block 0 (.loop (.seq (.seq (.region [
 ⟨(some 6), .move (.tmp 4), none, [], true⟩,
 ⟨(some 7), .load none (.tmp 1), none, [], true⟩,
 ⟨(some 8), .lenSlice (.tmp 7), none, [], true⟩,
 ⟨(some 9), .bin .lss (.tmp 6) (.tmp 8), none, [], true⟩])
 (.cond (.tmp 9)
 .skip
 (.exit 0)))
 (.seq (.block 1 (.seq (.drawn [
 ⟨(some 13), .load none (.tmp 2), none, [], false⟩,
 ⟨(some 14), .load none (.tmp 1), none, [], false⟩,
 ⟨(some 15), .move (.tmp 4), none, [], false⟩,
 ⟨(some 16), .slice 1 (.tmp 14) (some (.tmp 15)) none none, none, [1, 2], false⟩,
 ⟨(some 17), .lenSlice (.tmp 16), none, [3, 1, 2], false⟩,
 ⟨(some 18), .minmax false [(.tmp 13), (.tmp 17)], none, [0, 4, 3, 1, 2], true⟩,
 ⟨(some 5), .move (.tmp 18), none, [5, 0, 1, 2, 3, 4], true⟩])
 (.seq (.region [
 ⟨(some 19), .move (.tmp 0), none, [], true⟩,
 ⟨(some 20), .load none (.tmp 1), none, [], true⟩,
 ⟨(some 21), .move (.tmp 4), none, [], true⟩,
 ⟨(some 22), .move (.tmp 4), none, [], true⟩,
 ⟨(some 23), .move (.tmp 5), none, [], true⟩,
 ⟨(some 24), .bin .add (.tmp 22) (.tmp 23), none, [], true⟩,
 ⟨(some 25), .move (.tmp 4), none, [], true⟩,
 ⟨(some 26), .move (.tmp 5), none, [], true⟩,
 ⟨(some 27), .bin .add (.tmp 25) (.tmp 26), none, [], true⟩,
 ⟨(some 28), .slice 1 (.tmp 20) (some (.tmp 21)) (some (.tmp 24)) (some (.tmp 27)), none, [], true⟩,
 ⟨(some 29), .call (.tmp 19) [(.tmp 28)], none, [], true⟩,
 ⟨(some 30), .un .not (.tmp 29), none, [], true⟩])
 (.cond (.tmp 30)
 .ret
 .skip))))
 (.region [
 ⟨(some 10), .move (.tmp 4), none, [], true⟩,
 ⟨(some 11), .load none (.tmp 2), none, [], true⟩,
 ⟨(some 12), .bin .add (.tmp 10) (.tmp 11), none, [], true⟩,
 ⟨(some 4), .move (.tmp 12), none, [], true⟩])))))) }
theorem ir42_eq : funcC Tryd.prog 42 = some ir42 := by kernel_rfl
def table : List (Option IFunc) :=
  [none, none, none, none, none, some ir5, none, none, none, some ir9, some ir10, some ir11, some ir12, some ir13, some ir14, some ir15, some ir16, some ir17, some ir18, some ir19, some ir20, some ir21, some ir22, some ir23, some ir24, some ir25, some ir26, some ir27, some ir28, some ir29, some ir30, some ir31, some ir32, some ir33, some ir34, some ir35, some ir36, some ir37, some ir38, some ir39, some ir40, some ir41, some ir42]
def env : Env := fun g => (table[g]?).join
theorem env_ok : ∀ g F, env g = some F → funcC Tryd.prog g = some F := by
  intro g F h
  match g with
  | 0 => cases h
  | 1 => cases h
  | 2 => cases h
  | 3 => cases h
  | 4 => cases h
  | 5 => cases h; exact ir5_eq
  | 6 => cases h
  | 7 => cases h
  | 8 => cases h
  | 9 => cases h; exact ir9_eq
  | 10 => cases h; exact ir10_eq
  | 11 => cases h; exact ir11_eq
  | 12 => cases h; exact ir12_eq
  | 13 => cases h; exact ir13_eq
  | 14 => cases h; exact ir14_eq
  | 15 => cases h; exact ir15_eq
  | 16 => cases h; exact ir16_eq
  | 17 => cases h; exact ir17_eq
  | 18 => cases h; exact ir18_eq
  | 19 => cases h; exact ir19_eq
  | 20 => cases h; exact ir20_eq
  | 21 => cases h; exact ir21_eq
  | 22 => cases h; exact ir22_eq
  | 23 => cases h; exact ir23_eq
  | 24 => cases h; exact ir24_eq
  | 25 => cases h; exact ir25_eq
  | 26 => cases h; exact ir26_eq
  | 27 => cases h; exact ir27_eq
  | 28 => cases h; exact ir28_eq
  | 29 => cases h; exact ir29_eq
  | 30 => cases h; exact ir30_eq
  | 31 => cases h; exact ir31_eq
  | 32 => cases h; exact ir32_eq
  | 33 => cases h; exact ir33_eq
  | 34 => cases h; exact ir34_eq
  | 35 => cases h; exact ir35_eq
  | 36 => cases h; exact ir36_eq
  | 37 => cases h; exact ir37_eq
  | 38 => cases h; exact ir38_eq
  | 39 => cases h; exact ir39_eq
  | 40 => cases h; exact ir40_eq
  | 41 => cases h; exact ir41_eq
  | 42 => cases h; exact ir42_eq
  | g + 43 => simp [env, table] at h
end Go.Proofs.YtpodmgbnldmlcaaDoor
