/-
  THE FUNCTIONS THAT THE STATEMENTS REACH, in the intermediate form; written by a program of this claim.
-/
import Derived.Test.YtpodmgbnldmlcaaDoorChecked
import Derived.Test.YtpodmgbnldmlcaaDoorFa
import Derived.KernelRfl
namespace Go.Proofs.YtpodmgbnldmlcaaDoor
open Go Go.Ideal
/-- wagonway/wagonwaylaw07.WireWrites -/
def ir3 : IFunc :=
{ ntmps := 89, results := [.tmp 2], body :=
 (.seq (.region [
 ⟨(some 1), .box (.tmp 0), none, [], true⟩,
 ⟨(some 2), .move (.const (.bool false)), none, [], true⟩])
 (.seq (.seq (.region [
 ⟨(some 13), .fieldAddr 6 (.tmp 1), none, [], true⟩,
 ⟨(some 14), .fieldAddr 8 (.tmp 13), none, [], true⟩,
 ⟨(some 15), .load none (.tmp 14), none, [], true⟩,
 ⟨(some 16), .lenSlice (.tmp 15), none, [], true⟩,
 ⟨(some 17), .bin .gtr (.tmp 16) (.const (.int .i64 100)), none, [], true⟩])
 (.cond (.tmp 17)
 (.seq (.region [
 ⟨(some 2), .move (.const (.bool true)), none, [], true⟩])
 .ret)
 .skip))
 (.seq (.region [
 ⟨(some 18), .load (some 15) (.tmp 1), none, [], true⟩,
 ⟨(some 19), .call (.const (.func (.func 9) #[] #[])) [(.tmp 18)], none, [], true⟩,
 ⟨(some 3), .move (.tmp 19), none, [], true⟩])
 (.seq (.region [
 ⟨(some 20), .fieldAddr 6 (.tmp 1), none, [], true⟩,
 ⟨(some 21), .load (some 9) (.tmp 20), none, [], true⟩,
 ⟨(some 22), .call (.const (.func (.func 10) #[] #[])) [(.tmp 21)], none, [], true⟩,
 ⟨(some 4), .move (.tmp 22), none, [], true⟩])
 (.seq (.region [
 ⟨(some 23), .load (some 15) (.tmp 1), none, [], true⟩,
 ⟨(some 24), .call (.const (.func (.func 11) #[] #[])) [(.tmp 23)], none, [], true⟩,
 ⟨(some 5), .move (.tmp 24), none, [], true⟩])
 (.seq (.region [
 ⟨(some 25), .fieldAddr 6 (.tmp 1), none, [], true⟩,
 ⟨(some 26), .load (some 9) (.tmp 25), none, [], true⟩,
 ⟨(some 27), .call (.const (.func (.func 12) #[] #[])) [(.tmp 26)], none, [], true⟩,
 ⟨(some 6), .move (.tmp 27), none, [], true⟩])
 (.seq (.region [
 ⟨(some 29), .load (some 15) (.tmp 1), none, [], true⟩,
 ⟨(some 30), .call (.const (.func (.func 13) #[] #[])) [(.tmp 29)], none, [], true⟩,
 ⟨(some 28), .move (.tmp 30), none, [], true⟩,
 ⟨(some 31), .extract (.tmp 28) 0, none, [], true⟩,
 ⟨(some 32), .extract (.tmp 28) 1, none, [], true⟩,
 ⟨(some 7), .move (.tmp 31), none, [], true⟩,
 ⟨(some 8), .move (.tmp 32), none, [], true⟩])
 (.seq (.region [
 ⟨(some 34), .load (some 15) (.tmp 1), none, [], true⟩,
 ⟨(some 35), .call (.const (.func (.func 14) #[] #[])) [(.tmp 34)], none, [], true⟩,
 ⟨(some 33), .move (.tmp 35), none, [], true⟩,
 ⟨(some 36), .extract (.tmp 33) 0, none, [], true⟩,
 ⟨(some 37), .extract (.tmp 33) 1, none, [], true⟩,
 ⟨(some 9), .move (.tmp 36), none, [], true⟩,
 ⟨(some 10), .move (.tmp 37), none, [], true⟩])
 (.seq (.region [
 ⟨(some 39), .fieldAddr 6 (.tmp 1), none, [], true⟩,
 ⟨(some 40), .load (some 9) (.tmp 39), none, [], true⟩,
 ⟨(some 41), .build [(.int .i64 0), (.int .i64 0), (.int .u32 0), (.int .u32 0), (.int .u32 0), (.int .u32 0), (.int .i64 0), (.int .i64 0), (.int .u32 0), (.int .u64 0), (.int .i64 0), (.int .i64 0), (.int .i64 0), (.int .i64 0), (.slice none 0 0)] [(1, 1, (.const (.int .i64 1))), (6, 9, (.tmp 40))], none, [], true⟩,
 ⟨(some 42), .call (.const (.func (.func 14) #[] #[])) [(.tmp 41)], none, [], true⟩,
 ⟨(some 38), .move (.tmp 42), none, [], true⟩,
 ⟨(some 43), .extract (.tmp 38) 0, none, [], true⟩,
 ⟨(some 44), .extract (.tmp 38) 1, none, [], true⟩,
 ⟨(some 11), .move (.tmp 43), none, [], true⟩,
 ⟨(some 12), .move (.tmp 44), none, [], true⟩])
 (.seq (.region [
 ⟨(some 45), .move (.tmp 5), none, [], true⟩,
 ⟨(some 46), .bin .eql (.tmp 45) (.const (.int .i64 0)), none, [], true⟩,
 ⟨(some 47), .move (.tmp 3), none, [], true⟩,
 ⟨(some 48), .eqBool false (.tmp 46) (.tmp 47), none, [], true⟩,
 ⟨(some 49), .move (.tmp 48), none, [], true⟩,
 ⟨(some 50), .move (.tmp 3), (some (49, true)), [], true⟩,
 ⟨(some 51), .move (.tmp 50), (some (49, true)), [], true⟩,
 ⟨(some 52), .move (.tmp 5), (some (51, false)), [], true⟩,
 ⟨(some 53), .bin .eql (.tmp 52) (.const (.int .i64 71)), (some (51, false)), [], true⟩,
 ⟨(some 54), .pick (.tmp 51) (.const (.bool true)) (.tmp 53), (some (49, true)), [], true⟩,
 ⟨(some 55), .pick (.tmp 49) (.tmp 54) (.const (.bool false)), none, [], true⟩,
 ⟨(some 56), .move (.tmp 55), none, [], true⟩,
 ⟨(some 57), .move (.tmp 6), (some (56, true)), [], true⟩,
 ⟨(some 58), .bin .eql (.tmp 57) (.const (.int .i64 0)), (some (56, true)), [], true⟩,
 ⟨(some 59), .move (.tmp 4), (some (56, true)), [], true⟩,
 ⟨(some 60), .eqBool false (.tmp 58) (.tmp 59), (some (56, true)), [], true⟩,
 ⟨(some 61), .pick (.tmp 56) (.tmp 60) (.const (.bool false)), none, [], true⟩,
 ⟨(some 62), .move (.tmp 61), none, [], true⟩,
 ⟨(some 63), .move (.tmp 4), (some (62, true)), [], true⟩,
 ⟨(some 64), .move (.tmp 63), (some (62, true)), [], true⟩,
 ⟨(some 65), .move (.tmp 6), (some (64, false)), [], true⟩,
 ⟨(some 66), .bin .eql (.tmp 65) (.const (.int .i64 71)), (some (64, false)), [], true⟩,
 ⟨(some 67), .pick (.tmp 64) (.const (.bool true)) (.tmp 66), (some (62, true)), [], true⟩,
 ⟨(some 68), .pick (.tmp 62) (.tmp 67) (.const (.bool false)), none, [], true⟩,
 ⟨(some 69), .move (.tmp 68), none, [], true⟩,
 ⟨(some 70), .move (.tmp 7), (some (69, true)), [], true⟩,
 ⟨(some 71), .bytesStr (.tmp 70), (some (69, true)), [], true⟩,
 ⟨(some 72), .move (.tmp 9), (some (69, true)), [], true⟩,
 ⟨(some 73), .bytesStr (.tmp 72), (some (69, true)), [], true⟩,
 ⟨(some 74), .bin .eql (.tmp 71) (.tmp 73), (some (69, true)), [], true⟩,
 ⟨(some 75), .pick (.tmp 69) (.tmp 74) (.const (.bool false)), none, [], true⟩,
 ⟨(some 76), .move (.tmp 75), none, [], true⟩,
 ⟨(some 77), .move (.tmp 8), (some (76, true)), [], true⟩,
 ⟨(some 78), .move (.tmp 10), (some (76, true)), [], true⟩,
 ⟨(some 79), .bin .eql (.tmp 77) (.tmp 78), (some (76, true)), [], true⟩,
 ⟨(some 80), .pick (.tmp 76) (.tmp 79) (.const (.bool false)), none, [], true⟩,
 ⟨(some 81), .move (.tmp 80), none, [], true⟩,
 ⟨(some 82), .fieldAddr 6 (.tmp 1), (some (81, true)), [], true⟩,
 ⟨(some 83), .load (some 9) (.tmp 82), (some (81, true)), [], true⟩,
 ⟨(some 84), .call (.const (.func (.func 15) #[] #[])) [(.tmp 83)], (some (81, true)), [], true⟩,
 ⟨(some 85), .move (.tmp 11), (some (81, true)), [], true⟩,
 ⟨(some 86), .lenSlice (.tmp 85), (some (81, true)), [], true⟩,
 ⟨(some 87), .bin .eql (.tmp 84) (.tmp 86), (some (81, true)), [], true⟩,
 ⟨(some 88), .pick (.tmp 81) (.tmp 87) (.const (.bool false)), none, [], true⟩,
 ⟨(some 2), .move (.tmp 88), none, [], true⟩])
 .ret)))))))))) }
theorem ir3_eq : funcC Tryd.prog 3 = some ir3 := by kernel_rfl
/-- wagonway/wagonwayref07.May -/
def ir9 : IFunc :=
{ ntmps := 33, results := [.tmp 2], body :=
 (.seq (.region [
 ⟨(some 1), .box (.tmp 0), none, [], true⟩,
 ⟨(some 2), .move (.const (.bool false)), none, [], true⟩])
 (.seq (.region [
 ⟨(some 3), .fieldAddr 0 (.tmp 1), none, [], true⟩,
 ⟨(some 4), .load none (.tmp 3), none, [], true⟩,
 ⟨(some 5), .bin .geq (.tmp 4) (.const (.int .i64 0)), none, [], true⟩,
 ⟨(some 6), .move (.tmp 5), none, [], true⟩,
 ⟨(some 7), .fieldAddr 0 (.tmp 1), (some (6, true)), [], true⟩,
 ⟨(some 8), .load none (.tmp 7), (some (6, true)), [], true⟩,
 ⟨(some 9), .bin .lss (.tmp 8) (.const (.int .i64 64)), (some (6, true)), [], true⟩,
 ⟨(some 10), .pick (.tmp 6) (.tmp 9) (.const (.bool false)), none, [], true⟩,
 ⟨(some 11), .move (.tmp 10), none, [], true⟩,
 ⟨(some 12), .fieldAddr 1 (.tmp 1), (some (11, true)), [], true⟩,
 ⟨(some 13), .load none (.tmp 12), (some (11, true)), [], true⟩,
 ⟨(some 14), .bin .geq (.tmp 13) (.const (.int .i64 0)), (some (11, true)), [], true⟩,
 ⟨(some 15), .pick (.tmp 11) (.tmp 14) (.const (.bool false)), none, [], true⟩,
 ⟨(some 16), .move (.tmp 15), none, [], true⟩,
 ⟨(some 17), .fieldAddr 1 (.tmp 1), (some (16, true)), [], true⟩,
 ⟨(some 18), .load none (.tmp 17), (some (16, true)), [], true⟩,
 ⟨(some 19), .bin .lss (.tmp 18) (.const (.int .i64 64)), (some (16, true)), [], true⟩,
 ⟨(some 20), .pick (.tmp 16) (.tmp 19) (.const (.bool false)), none, [], true⟩,
 ⟨(some 21), .move (.tmp 20), none, [], true⟩,
 ⟨(some 22), .fieldAddr 0 (.tmp 1), (some (21, true)), [], true⟩,
 ⟨(some 23), .load none (.tmp 22), (some (21, true)), [], true⟩,
 ⟨(some 24), .fieldAddr 1 (.tmp 1), (some (21, true)), [], true⟩,
 ⟨(some 25), .load none (.tmp 24), (some (21, true)), [], true⟩,
 ⟨(some 26), .bin .neq (.tmp 23) (.tmp 25), (some (21, true)), [], true⟩,
 ⟨(some 27), .pick (.tmp 21) (.tmp 26) (.const (.bool false)), none, [], true⟩,
 ⟨(some 28), .move (.tmp 27), none, [], true⟩,
 ⟨(some 29), .fieldAddr 6 (.tmp 1), (some (28, true)), [], true⟩,
 ⟨(some 30), .load (some 9) (.tmp 29), (some (28, true)), [], true⟩,
 ⟨(some 31), .call (.const (.func (.func 10) #[] #[])) [(.tmp 30)], (some (28, true)), [], true⟩,
 ⟨(some 32), .pick (.tmp 28) (.tmp 31) (.const (.bool false)), none, [], true⟩,
 ⟨(some 2), .move (.tmp 32), none, [], true⟩])
 .ret)) }
theorem ir9_eq : funcC Tryd.prog 9 = some ir9 := by kernel_rfl
/-- wagonway/wagonwayref07.MayMessage -/
def ir10 : IFunc :=
{ ntmps := 180, results := [.tmp 2], body :=
 (.seq (.region [
 ⟨(some 1), .box (.tmp 0), none, [], true⟩,
 ⟨(some 2), .move (.const (.bool false)), none, [], true⟩])
 (.seq (.seq (.region [
 ⟨(some 6), .fieldAddr 0 (.tmp 1), none, [], true⟩,
 ⟨(some 7), .load none (.tmp 6), none, [], true⟩,
 ⟨(some 8), .call (.const (.func (.func 21) #[] #[])) [(.tmp 7)], none, [], true⟩,
 ⟨(some 9), .bin .eql (.tmp 8) (.const (.string ⟨#[]⟩)), none, [], true⟩])
 (.cond (.tmp 9)
 (.seq (.region [
 ⟨(some 2), .move (.const (.bool false)), none, [], true⟩])
 .ret)
 .skip))
 (.seq (.region [
 ⟨(some 10), .fieldAddr 0 (.tmp 1), none, [], true⟩,
 ⟨(some 11), .load none (.tmp 10), none, [], true⟩,
 ⟨(some 12), .call (.const (.func (.func 25) #[] #[])) [(.tmp 11)], none, [], true⟩,
 ⟨(some 3), .move (.tmp 12), none, [], true⟩])
 (.seq (.seq (.region [
 ⟨(some 13), .fieldAddr 1 (.tmp 1), none, [], true⟩,
 ⟨(some 14), .load none (.tmp 13), none, [], true⟩,
 ⟨(some 15), .bin .lss (.tmp 14) (.const (.int .i64 0)), none, [], true⟩,
 ⟨(some 16), .move (.tmp 15), none, [], true⟩,
 ⟨(some 17), .fieldAddr 1 (.tmp 1), (some (16, false)), [], true⟩,
 ⟨(some 18), .load none (.tmp 17), (some (16, false)), [], true⟩,
 ⟨(some 19), .bin .gtr (.tmp 18) (.const (.int .i64 1023)), (some (16, false)), [], true⟩,
 ⟨(some 20), .pick (.tmp 16) (.const (.bool true)) (.tmp 19), none, [], true⟩,
 ⟨(some 21), .move (.tmp 20), none, [], true⟩,
 ⟨(some 22), .fieldAddr 4 (.tmp 1), (some (21, false)), [], true⟩,
 ⟨(some 23), .load none (.tmp 22), (some (21, false)), [], true⟩,
 ⟨(some 24), .bin .lss (.tmp 23) (.const (.int .i64 0)), (some (21, false)), [], true⟩,
 ⟨(some 25), .pick (.tmp 21) (.const (.bool true)) (.tmp 24), none, [], true⟩,
 ⟨(some 26), .move (.tmp 25), none, [], true⟩,
 ⟨(some 27), .fieldAddr 4 (.tmp 1), (some (26, false)), [], true⟩,
 ⟨(some 28), .load none (.tmp 27), (some (26, false)), [], true⟩,
 ⟨(some 29), .bin .gtr (.tmp 28) (.const (.int .i64 15)), (some (26, false)), [], true⟩,
 ⟨(some 30), .pick (.tmp 26) (.const (.bool true)) (.tmp 29), none, [], true⟩,
 ⟨(some 31), .move (.tmp 30), none, [], true⟩,
 ⟨(some 32), .fieldAddr 5 (.tmp 1), (some (31, false)), [], true⟩,
 ⟨(some 33), .load none (.tmp 32), (some (31, false)), [], true⟩,
 ⟨(some 34), .bin .lss (.tmp 33) (.const (.int .i64 0)), (some (31, false)), [], true⟩,
 ⟨(some 35), .pick (.tmp 31) (.const (.bool true)) (.tmp 34), none, [], true⟩,
 ⟨(some 36), .move (.tmp 35), none, [], true⟩,
 ⟨(some 37), .fieldAddr 5 (.tmp 1), (some (36, false)), [], true⟩,
 ⟨(some 38), .load none (.tmp 37), (some (36, false)), [], true⟩,
 ⟨(some 39), .bin .gtr (.tmp 38) (.const (.int .i64 64)), (some (36, false)), [], true⟩,
 ⟨(some 40), .pick (.tmp 36) (.const (.bool true)) (.tmp 39), none, [], true⟩,
 ⟨(some 41), .move (.tmp 40), none, [], true⟩,
 ⟨(some 42), .fieldAddr 6 (.tmp 1), (some (41, false)), [], true⟩,
 ⟨(some 43), .load none (.tmp 42), (some (41, false)), [], true⟩,
 ⟨(some 44), .bin .lss (.tmp 43) (.const (.int .i64 0)), (some (41, false)), [], true⟩,
 ⟨(some 45), .pick (.tmp 41) (.const (.bool true)) (.tmp 44), none, [], true⟩,
 ⟨(some 46), .move (.tmp 45), none, [], true⟩,
 ⟨(some 47), .fieldAddr 6 (.tmp 1), (some (46, false)), [], true⟩,
 ⟨(some 48), .load none (.tmp 47), (some (46, false)), [], true⟩,
 ⟨(some 49), .bin .gtr (.tmp 48) (.const (.int .i64 63)), (some (46, false)), [], true⟩,
 ⟨(some 50), .pick (.tmp 46) (.const (.bool true)) (.tmp 49), none, [], true⟩,
 ⟨(some 51), .move (.tmp 50), none, [], true⟩,
 ⟨(some 52), .fieldAddr 7 (.tmp 1), (some (51, false)), [], true⟩,
 ⟨(some 53), .load none (.tmp 52), (some (51, false)), [], true⟩,
 ⟨(some 54), .bin .lss (.tmp 53) (.const (.int .i64 (-1))), (some (51, false)), [], true⟩,
 ⟨(some 55), .pick (.tmp 51) (.const (.bool true)) (.tmp 54), none, [], true⟩,
 ⟨(some 56), .move (.tmp 55), none, [], true⟩,
 ⟨(some 57), .fieldAddr 7 (.tmp 1), (some (56, false)), [], true⟩,
 ⟨(some 58), .load none (.tmp 57), (some (56, false)), [], true⟩,
 ⟨(some 59), .bin .gtr (.tmp 58) (.const (.int .i64 63)), (some (56, false)), [], true⟩,
 ⟨(some 60), .pick (.tmp 56) (.const (.bool true)) (.tmp 59), none, [], true⟩,
 ⟨(some 61), .move (.tmp 60), none, [], true⟩,
 ⟨(some 62), .fieldAddr 8 (.tmp 1), (some (61, false)), [], true⟩,
 ⟨(some 63), .load none (.tmp 62), (some (61, false)), [], true⟩,
 ⟨(some 64), .lenSlice (.tmp 63), (some (61, false)), [], true⟩,
 ⟨(some 65), .bin .gtr (.tmp 64) (.const (.int .i64 16)), (some (61, false)), [], true⟩,
 ⟨(some 66), .pick (.tmp 61) (.const (.bool true)) (.tmp 65), none, [], true⟩])
 (.cond (.tmp 66)
 (.seq (.region [
 ⟨(some 2), .move (.const (.bool false)), none, [], true⟩])
 .ret)
 .skip))
 (.seq (.seq (.region [
 ⟨(some 67), .move (.tmp 3), none, [], true⟩,
 ⟨(some 68), .call (.const (.func (.func 26) #[] #[])) [(.tmp 67), (.const (.int .u8 99))], none, [], true⟩,
 ⟨(some 69), .un .not (.tmp 68), none, [], true⟩,
 ⟨(some 70), .move (.tmp 69), none, [], true⟩,
 ⟨(some 71), .fieldAddr 1 (.tmp 1), (some (70, true)), [], true⟩,
 ⟨(some 72), .load none (.tmp 71), (some (70, true)), [], true⟩,
 ⟨(some 73), .bin .neq (.tmp 72) (.const (.int .i64 0)), (some (70, true)), [], true⟩,
 ⟨(some 74), .pick (.tmp 70) (.tmp 73) (.const (.bool false)), none, [], true⟩,
 ⟨(some 75), .move (.tmp 74), none, [], true⟩,
 ⟨(some 76), .move (.tmp 3), (some (75, false)), [], true⟩,
 ⟨(some 77), .call (.const (.func (.func 26) #[] #[])) [(.tmp 76), (.const (.int .u8 103))], (some (75, false)), [], true⟩,
 ⟨(some 78), .un .not (.tmp 77), (some (75, false)), [], true⟩,
 ⟨(some 79), .move (.tmp 78), (some (75, false)), [], true⟩,
 ⟨(some 80), .fieldAddr 2 (.tmp 1), (some (79, true)), [], true⟩,
 ⟨(some 81), .load none (.tmp 80), (some (79, true)), [], true⟩,
 ⟨(some 82), .bin .neq (.tmp 81) (.const (.int .u32 0)), (some (79, true)), [], true⟩,
 ⟨(some 83), .pick (.tmp 79) (.tmp 82) (.const (.bool false)), (some (75, false)), [], true⟩,
 ⟨(some 84), .pick (.tmp 75) (.const (.bool true)) (.tmp 83), none, [], true⟩,
 ⟨(some 85), .move (.tmp 84), none, [], true⟩,
 ⟨(some 86), .move (.tmp 3), (some (85, false)), [], true⟩,
 ⟨(some 87), .call (.const (.func (.func 26) #[] #[])) [(.tmp 86), (.const (.int .u8 115))], (some (85, false)), [], true⟩,
 ⟨(some 88), .un .not (.tmp 87), (some (85, false)), [], true⟩,
 ⟨(some 89), .move (.tmp 88), (some (85, false)), [], true⟩,
 ⟨(some 90), .fieldAddr 3 (.tmp 1), (some (89, true)), [], true⟩,
 ⟨(some 91), .load none (.tmp 90), (some (89, true)), [], true⟩,
 ⟨(some 92), .bin .neq (.tmp 91) (.const (.int .u64 0)), (some (89, true)), [], true⟩,
 ⟨(some 93), .pick (.tmp 89) (.tmp 92) (.const (.bool false)), (some (85, false)), [], true⟩,
 ⟨(some 94), .pick (.tmp 85) (.const (.bool true)) (.tmp 93), none, [], true⟩,
 ⟨(some 95), .move (.tmp 94), none, [], true⟩,
 ⟨(some 96), .move (.tmp 3), (some (95, false)), [], true⟩,
 ⟨(some 97), .call (.const (.func (.func 26) #[] #[])) [(.tmp 96), (.const (.int .u8 112))], (some (95, false)), [], true⟩,
 ⟨(some 98), .un .not (.tmp 97), (some (95, false)), [], true⟩,
 ⟨(some 99), .move (.tmp 98), (some (95, false)), [], true⟩,
 ⟨(some 100), .fieldAddr 4 (.tmp 1), (some (99, true)), [], true⟩,
 ⟨(some 101), .load none (.tmp 100), (some (99, true)), [], true⟩,
 ⟨(some 102), .bin .neq (.tmp 101) (.const (.int .i64 0)), (some (99, true)), [], true⟩,
 ⟨(some 103), .pick (.tmp 99) (.tmp 102) (.const (.bool false)), (some (95, false)), [], true⟩,
 ⟨(some 104), .pick (.tmp 95) (.const (.bool true)) (.tmp 103), none, [], true⟩,
 ⟨(some 105), .move (.tmp 104), none, [], true⟩,
 ⟨(some 106), .move (.tmp 3), (some (105, false)), [], true⟩,
 ⟨(some 107), .call (.const (.func (.func 26) #[] #[])) [(.tmp 106), (.const (.int .u8 104))], (some (105, false)), [], true⟩,
 ⟨(some 108), .un .not (.tmp 107), (some (105, false)), [], true⟩,
 ⟨(some 109), .move (.tmp 108), (some (105, false)), [], true⟩,
 ⟨(some 110), .fieldAddr 5 (.tmp 1), (some (109, true)), [], true⟩,
 ⟨(some 111), .load none (.tmp 110), (some (109, true)), [], true⟩,
 ⟨(some 112), .bin .neq (.tmp 111) (.const (.int .i64 0)), (some (109, true)), [], true⟩,
 ⟨(some 113), .pick (.tmp 109) (.tmp 112) (.const (.bool false)), (some (105, false)), [], true⟩,
 ⟨(some 114), .pick (.tmp 105) (.const (.bool true)) (.tmp 113), none, [], true⟩,
 ⟨(some 115), .move (.tmp 114), none, [], true⟩,
 ⟨(some 116), .move (.tmp 3), (some (115, false)), [], true⟩,
 ⟨(some 117), .call (.const (.func (.func 26) #[] #[])) [(.tmp 116), (.const (.int .u8 111))], (some (115, false)), [], true⟩,
 ⟨(some 118), .un .not (.tmp 117), (some (115, false)), [], true⟩,
 ⟨(some 119), .move (.tmp 118), (some (115, false)), [], true⟩,
 ⟨(some 120), .fieldAddr 6 (.tmp 1), (some (119, true)), [], true⟩,
 ⟨(some 121), .load none (.tmp 120), (some (119, true)), [], true⟩,
 ⟨(some 122), .bin .neq (.tmp 121) (.const (.int .i64 0)), (some (119, true)), [], true⟩,
 ⟨(some 123), .pick (.tmp 119) (.tmp 122) (.const (.bool false)), (some (115, false)), [], true⟩,
 ⟨(some 124), .pick (.tmp 115) (.const (.bool true)) (.tmp 123), none, [], true⟩,
 ⟨(some 125), .move (.tmp 124), none, [], true⟩,
 ⟨(some 126), .move (.tmp 3), (some (125, false)), [], true⟩,
 ⟨(some 127), .call (.const (.func (.func 26) #[] #[])) [(.tmp 126), (.const (.int .u8 119))], (some (125, false)), [], true⟩,
 ⟨(some 128), .un .not (.tmp 127), (some (125, false)), [], true⟩,
 ⟨(some 129), .move (.tmp 128), (some (125, false)), [], true⟩,
 ⟨(some 130), .fieldAddr 7 (.tmp 1), (some (129, true)), [], true⟩,
 ⟨(some 131), .load none (.tmp 130), (some (129, true)), [], true⟩,
 ⟨(some 132), .bin .neq (.tmp 131) (.const (.int .i64 0)), (some (129, true)), [], true⟩,
 ⟨(some 133), .pick (.tmp 129) (.tmp 132) (.const (.bool false)), (some (125, false)), [], true⟩,
 ⟨(some 134), .pick (.tmp 125) (.const (.bool true)) (.tmp 133), none, [], true⟩,
 ⟨(some 135), .move (.tmp 134), none, [], true⟩,
 ⟨(some 136), .move (.tmp 3), (some (135, false)), [], true⟩,
 ⟨(some 137), .call (.const (.func (.func 26) #[] #[])) [(.tmp 136), (.const (.int .u8 108))], (some (135, false)), [], true⟩,
 ⟨(some 138), .un .not (.tmp 137), (some (135, false)), [], true⟩,
 ⟨(some 139), .move (.tmp 138), (some (135, false)), [], true⟩,
 ⟨(some 140), .fieldAddr 8 (.tmp 1), (some (139, true)), [], true⟩,
 ⟨(some 141), .load none (.tmp 140), (some (139, true)), [], true⟩,
 ⟨(some 142), .lenSlice (.tmp 141), (some (139, true)), [], true⟩,
 ⟨(some 143), .bin .gtr (.tmp 142) (.const (.int .i64 0)), (some (139, true)), [], true⟩,
 ⟨(some 144), .pick (.tmp 139) (.tmp 143) (.const (.bool false)), (some (135, false)), [], true⟩,
 ⟨(some 145), .pick (.tmp 135) (.const (.bool true)) (.tmp 144), none, [], true⟩])
 (.cond (.tmp 145)
 (.seq (.region [
 ⟨(some 2), .move (.const (.bool false)), none, [], true⟩])
 .ret)
 .skip))
 (.seq (.seq (.region [
 ⟨(some 4), .move (.const (.int .i64 0)), none, [], true⟩])
 (.block 0 (.loop (.seq (.seq (.region [
 ⟨(some 146), .move (.tmp 4), none, [], true⟩,
 ⟨(some 147), .fieldAddr 8 (.tmp 1), none, [], true⟩,
 ⟨(some 148), .load none (.tmp 147), none, [], true⟩,
 ⟨(some 149), .lenSlice (.tmp 148), none, [], true⟩,
 ⟨(some 150), .bin .lss (.tmp 146) (.tmp 149), none, [], true⟩])
 (.cond (.tmp 150)
 .skip
 (.exit 0)))
 (.seq (.block 1 (.seq (.region [
 ⟨(some 153), .fieldAddr 8 (.tmp 1), none, [], true⟩,
 ⟨(some 154), .load none (.tmp 153), none, [], true⟩,
 ⟨(some 155), .move (.tmp 4), none, [], true⟩,
 ⟨(some 156), .indexAddr 2 (.tmp 154) (.tmp 155), none, [], true⟩,
 ⟨(some 157), .fieldAddr 0 (.tmp 156), none, [], true⟩,
 ⟨(some 158), .load none (.tmp 157), none, [], true⟩,
 ⟨(some 5), .move (.tmp 158), none, [], true⟩])
 (.seq (.region [
 ⟨(some 159), .move (.tmp 5), none, [], true⟩,
 ⟨(some 160), .bin .lss (.tmp 159) (.const (.int .i64 0)), none, [], true⟩,
 ⟨(some 161), .move (.tmp 160), none, [], true⟩,
 ⟨(some 162), .move (.tmp 5), (some (161, false)), [], true⟩,
 ⟨(some 163), .bin .gtr (.tmp 162) (.const (.int .i64 1023)), (some (161, false)), [], true⟩,
 ⟨(some 164), .pick (.tmp 161) (.const (.bool true)) (.tmp 163), none, [], true⟩,
 ⟨(some 165), .move (.tmp 164), none, [], true⟩,
 ⟨(some 166), .move (.tmp 4), (some (165, false)), [], true⟩,
 ⟨(some 167), .bin .gtr (.tmp 166) (.const (.int .i64 0)), (some (165, false)), [], true⟩,
 ⟨(some 168), .move (.tmp 167), (some (165, false)), [], true⟩,
 ⟨(some 169), .fieldAddr 8 (.tmp 1), (some (168, true)), [], true⟩,
 ⟨(some 170), .load none (.tmp 169), (some (168, true)), [], true⟩,
 ⟨(some 171), .move (.tmp 4), (some (168, true)), [], true⟩,
 ⟨(some 172), .bin .sub (.tmp 171) (.const (.int .i64 1)), (some (168, true)), [], true⟩,
 ⟨(some 173), .indexAddr 2 (.tmp 170) (.tmp 172), (some (168, true)), [], true⟩,
 ⟨(some 174), .fieldAddr 0 (.tmp 173), (some (168, true)), [], true⟩,
 ⟨(some 175), .load none (.tmp 174), (some (168, true)), [], true⟩,
 ⟨(some 176), .move (.tmp 5), (some (168, true)), [], true⟩,
 ⟨(some 177), .bin .geq (.tmp 175) (.tmp 176), (some (168, true)), [], true⟩,
 ⟨(some 178), .pick (.tmp 168) (.tmp 177) (.const (.bool false)), (some (165, false)), [], true⟩,
 ⟨(some 179), .pick (.tmp 165) (.const (.bool true)) (.tmp 178), none, [], true⟩])
 (.cond (.tmp 179)
 (.seq (.region [
 ⟨(some 2), .move (.const (.bool false)), none, [], true⟩])
 .ret)
 .skip))))
 (.region [
 ⟨(some 151), .move (.tmp 4), none, [], true⟩,
 ⟨(some 152), .bin .add (.tmp 151) (.const (.int .i64 1)), none, [], true⟩,
 ⟨(some 4), .move (.tmp 152), none, [], true⟩]))))))
 (.seq (.region [
 ⟨(some 2), .move (.const (.bool true)), none, [], true⟩])
 .ret))))))) }
theorem ir10_eq : funcC Tryd.prog 10 = some ir10 := by kernel_rfl
/-- wagonway/wire.Check -/
def ir11 : IFunc :=
{ ntmps := 23, results := [.tmp 2], body :=
 (.seq (.region [
 ⟨(some 1), .box (.tmp 0), none, [], true⟩,
 ⟨(some 2), .move (.const (.int .i64 0)), none, [], true⟩])
 (.seq (.seq (.region [
 ⟨(some 3), .fieldAddr 0 (.tmp 1), none, [], true⟩,
 ⟨(some 4), .load none (.tmp 3), none, [], true⟩,
 ⟨(some 5), .call (.const (.func (.func 27) #[] #[])) [(.tmp 4), (.const (.int .i64 0)), (.const (.int .i64 63))], none, [], true⟩,
 ⟨(some 6), .un .not (.tmp 5), none, [], true⟩,
 ⟨(some 7), .move (.tmp 6), none, [], true⟩,
 ⟨(some 8), .fieldAddr 1 (.tmp 1), (some (7, false)), [], true⟩,
 ⟨(some 9), .load none (.tmp 8), (some (7, false)), [], true⟩,
 ⟨(some 10), .call (.const (.func (.func 27) #[] #[])) [(.tmp 9), (.const (.int .i64 0)), (.const (.int .i64 63))], (some (7, false)), [], true⟩,
 ⟨(some 11), .un .not (.tmp 10), (some (7, false)), [], true⟩,
 ⟨(some 12), .pick (.tmp 7) (.const (.bool true)) (.tmp 11), none, [], true⟩,
 ⟨(some 13), .move (.tmp 12), none, [], true⟩,
 ⟨(some 14), .fieldAddr 0 (.tmp 1), (some (13, false)), [], true⟩,
 ⟨(some 15), .load none (.tmp 14), (some (13, false)), [], true⟩,
 ⟨(some 16), .fieldAddr 1 (.tmp 1), (some (13, false)), [], true⟩,
 ⟨(some 17), .load none (.tmp 16), (some (13, false)), [], true⟩,
 ⟨(some 18), .bin .eql (.tmp 15) (.tmp 17), (some (13, false)), [], true⟩,
 ⟨(some 19), .pick (.tmp 13) (.const (.bool true)) (.tmp 18), none, [], true⟩])
 (.cond (.tmp 19)
 (.seq (.region [
 ⟨(some 2), .move (.const (.int .i64 71)), none, [], true⟩])
 .ret)
 .skip))
 (.seq (.region [
 ⟨(some 20), .fieldAddr 6 (.tmp 1), none, [], true⟩,
 ⟨(some 21), .load (some 9) (.tmp 20), none, [], true⟩,
 ⟨(some 22), .call (.const (.func (.func 12) #[] #[])) [(.tmp 21)], none, [], true⟩,
 ⟨(some 2), .move (.tmp 22), none, [], true⟩])
 .ret))) }
theorem ir11_eq : funcC Tryd.prog 11 = some ir11 := by kernel_rfl
/-- wagonway/wire.CheckMessage -/
def ir12 : IFunc :=
{ ntmps := 79, results := [.tmp 2], body :=
 (.seq (.region [
 ⟨(some 1), .box (.tmp 0), none, [], true⟩,
 ⟨(some 2), .move (.const (.int .i64 0)), none, [], true⟩])
 (.seq (.seq (.drawn [
 ⟨(some 6), .fieldAddr 0 (.tmp 1), none, [], true⟩,
 ⟨(some 7), .load none (.tmp 6), none, [0], true⟩,
 ⟨(some 8), .call (.const (.func (.func 27) #[] #[])) [(.tmp 7), (.const (.int .i64 1)), (.const (.int .i64 11))], none, [1, 0], true⟩,
 ⟨(some 9), .un .not (.tmp 8), none, [2, 1, 0], true⟩,
 ⟨(some 10), .move (.tmp 9), none, [3, 2, 1, 0], true⟩,
 ⟨(some 11), .load (some 9) (.tmp 1), (some (10, false)), [4, 3, 2, 1, 0], false⟩,
 ⟨(some 12), .load (some 9) (.tmp 1), (some (10, false)), [4, 3, 2, 1, 0], false⟩,
 ⟨(some 13), .call (.const (.func (.func 28) #[] #[])) [(.tmp 12)], (some (10, false)), [6, 4, 3, 2, 1, 0], false⟩,
 ⟨(some 14), .call (.const (.func (.func 22) #[] #[])) [(.tmp 11), (.tmp 13)], (some (10, false)), [5, 7, 4, 3, 2, 1, 0, 6], true⟩,
 ⟨(some 15), .un .not (.tmp 14), (some (10, false)), [8, 4, 5, 7, 3, 2, 1, 0, 6], true⟩,
 ⟨(some 16), .pick (.tmp 10) (.const (.bool true)) (.tmp 15), none, [4, 9, 3, 2, 1, 0, 8, 5, 7, 6], true⟩])
 (.cond (.tmp 16)
 (.seq (.region [
 ⟨(some 2), .move (.const (.int .i64 71)), none, [], true⟩])
 .ret)
 .skip))
 (.seq (.region [
 ⟨(some 17), .fieldAddr 1 (.tmp 1), none, [], true⟩,
 ⟨(some 18), .load none (.tmp 17), none, [], true⟩,
 ⟨(some 19), .call (.const (.func (.func 27) #[] #[])) [(.tmp 18), (.const (.int .i64 0)), (.const (.int .i64 1023))], none, [], true⟩,
 ⟨(some 20), .move (.tmp 19), none, [], true⟩,
 ⟨(some 21), .fieldAddr 4 (.tmp 1), (some (20, true)), [], true⟩,
 ⟨(some 22), .load none (.tmp 21), (some (20, true)), [], true⟩,
 ⟨(some 23), .call (.const (.func (.func 27) #[] #[])) [(.tmp 22), (.const (.int .i64 0)), (.const (.int .i64 15))], (some (20, true)), [], true⟩,
 ⟨(some 24), .pick (.tmp 20) (.tmp 23) (.const (.bool false)), none, [], true⟩,
 ⟨(some 25), .move (.tmp 24), none, [], true⟩,
 ⟨(some 26), .fieldAddr 5 (.tmp 1), (some (25, true)), [], true⟩,
 ⟨(some 27), .load none (.tmp 26), (some (25, true)), [], true⟩,
 ⟨(some 28), .call (.const (.func (.func 27) #[] #[])) [(.tmp 27), (.const (.int .i64 0)), (.const (.int .i64 64))], (some (25, true)), [], true⟩,
 ⟨(some 29), .pick (.tmp 25) (.tmp 28) (.const (.bool false)), none, [], true⟩,
 ⟨(some 30), .move (.tmp 29), none, [], true⟩,
 ⟨(some 31), .fieldAddr 6 (.tmp 1), (some (30, true)), [], true⟩,
 ⟨(some 32), .load none (.tmp 31), (some (30, true)), [], true⟩,
 ⟨(some 33), .call (.const (.func (.func 27) #[] #[])) [(.tmp 32), (.const (.int .i64 0)), (.const (.int .i64 63))], (some (30, true)), [], true⟩,
 ⟨(some 34), .pick (.tmp 30) (.tmp 33) (.const (.bool false)), none, [], true⟩,
 ⟨(some 35), .move (.tmp 34), none, [], true⟩,
 ⟨(some 36), .fieldAddr 7 (.tmp 1), (some (35, true)), [], true⟩,
 ⟨(some 37), .load none (.tmp 36), (some (35, true)), [], true⟩,
 ⟨(some 38), .call (.const (.func (.func 27) #[] #[])) [(.tmp 37), (.const (.int .i64 (-1))), (.const (.int .i64 63))], (some (35, true)), [], true⟩,
 ⟨(some 39), .pick (.tmp 35) (.tmp 38) (.const (.bool false)), none, [], true⟩,
 ⟨(some 40), .move (.tmp 39), none, [], true⟩,
 ⟨(some 41), .fieldAddr 8 (.tmp 1), (some (40, true)), [], true⟩,
 ⟨(some 42), .load none (.tmp 41), (some (40, true)), [], true⟩,
 ⟨(some 43), .lenSlice (.tmp 42), (some (40, true)), [], true⟩,
 ⟨(some 44), .bin .leq (.tmp 43) (.const (.int .i64 16)), (some (40, true)), [], true⟩,
 ⟨(some 45), .pick (.tmp 40) (.tmp 44) (.const (.bool false)), none, [], true⟩,
 ⟨(some 3), .move (.tmp 45), none, [], true⟩])
 (.seq (.seq (.region [
 ⟨(some 46), .fieldAddr 8 (.tmp 1), none, [], true⟩,
 ⟨(some 47), .load none (.tmp 46), none, [], true⟩,
 ⟨(some 48), .lenSlice (.tmp 47), none, [], true⟩,
 ⟨(some 49), .move (.const (.int .i64 0)), none, [], true⟩])
 (.block 0 (.loop (.seq (.region [
 ⟨(some 50), .bin .lss (.tmp 49) (.tmp 48), none, [], true⟩])
 (.seq (.cond (.tmp 50)
 .skip
 (.exit 0))
 (.seq (.block 1 (.seq (.region [
 ⟨(some 51), .move (.tmp 49), none, [], true⟩,
 ⟨(some 52), .indexAddr 2 (.tmp 47) (.tmp 49), none, [], true⟩,
 ⟨(some 53), .load (some 2) (.tmp 52), none, [], true⟩,
 ⟨(some 5), .box (.const (.agg #[(.int .i64 0), (.int .u32 0)])), none, [], true⟩,
 ⟨(some 4), .move (.tmp 51), none, [], true⟩,
 ⟨none, .store 2 (.tmp 5) (.tmp 53), none, [], true⟩])
 (.drawn [
 ⟨(some 54), .move (.tmp 3), none, [], true⟩,
 ⟨(some 55), .move (.tmp 54), none, [0], true⟩,
 ⟨(some 56), .fieldAddr 0 (.tmp 5), (some (55, true)), [1, 0], true⟩,
 ⟨(some 57), .load none (.tmp 56), (some (55, true)), [2, 1, 0], true⟩,
 ⟨(some 58), .call (.const (.func (.func 27) #[] #[])) [(.tmp 57), (.const (.int .i64 0)), (.const (.int .i64 1023))], (some (55, true)), [3, 1, 2, 0], true⟩,
 ⟨(some 59), .pick (.tmp 55) (.tmp 58) (.const (.bool false)), none, [1, 4, 0, 3, 2], true⟩,
 ⟨(some 60), .move (.tmp 59), none, [5, 4, 1, 0, 3, 2], true⟩,
 ⟨(some 61), .move (.tmp 4), (some (60, true)), [6, 5, 4, 1, 0, 3, 2], true⟩,
 ⟨(some 62), .bin .eql (.tmp 61) (.const (.int .i64 0)), (some (60, true)), [7, 6, 5, 4, 1, 0, 3, 2], true⟩,
 ⟨(some 63), .move (.tmp 62), (some (60, true)), [8, 6, 7, 5, 4, 1, 0, 3, 2], true⟩,
 ⟨(some 64), .fieldAddr 0 (.tmp 5), (some (63, false)), [9, 8, 6, 7, 5, 4, 1, 0, 3, 2], false⟩,
 ⟨(some 65), .load none (.tmp 64), (some (63, false)), [10, 9, 8, 6, 7, 5, 4, 1, 0, 3, 2], false⟩,
 ⟨(some 66), .fieldAddr 8 (.tmp 1), (some (63, false)), [9, 8, 6, 7, 5, 4, 1, 0, 3, 2], false⟩,
 ⟨(some 67), .load none (.tmp 66), (some (63, false)), [12, 9, 8, 6, 7, 5, 4, 1, 0, 3, 2], false⟩,
 ⟨(some 68), .move (.tmp 4), (some (63, false)), [9, 8, 6, 7, 5, 4, 1, 0, 3, 2], false⟩,
 ⟨(some 69), .bin .sub (.tmp 68) (.const (.int .i64 1)), (some (63, false)), [14, 9, 8, 6, 7, 5, 4, 1, 0, 3, 2], false⟩,
 ⟨(some 70), .indexAddr 2 (.tmp 67) (.tmp 69), (some (63, false)), [13, 15, 9, 12, 8, 6, 7, 5, 4, 1, 0, 3, 2, 14], false⟩,
 ⟨(some 71), .fieldAddr 0 (.tmp 70), (some (63, false)), [16, 9, 13, 15, 12, 8, 6, 7, 5, 4, 1, 0, 3, 2, 14], false⟩,
 ⟨(some 72), .load none (.tmp 71), (some (63, false)), [17, 9, 16, 13, 15, 12, 8, 6, 7, 5, 4, 1, 0, 3, 2, 14], false⟩,
 ⟨(some 73), .bin .gtr (.tmp 65) (.tmp 72), (some (63, false)), [11, 18, 9, 10, 8, 6, 7, 5, 4, 1, 0, 3, 2, 17, 16, 13, 15, 12, 14], true⟩,
 ⟨(some 74), .pick (.tmp 63) (.const (.bool true)) (.tmp 73), (some (60, true)), [9, 19, 6, 8, 7, 5, 4, 1, 0, 3, 2, 11, 18, 10, 17, 16, 13, 15, 12, 14], true⟩,
 ⟨(some 75), .pick (.tmp 60) (.tmp 74) (.const (.bool false)), none, [6, 20, 5, 4, 1, 0, 3, 2, 9, 19, 8, 7, 11, 18, 10, 17, 16, 13, 15, 12, 14], true⟩,
 ⟨(some 3), .move (.tmp 75), none, [21, 9, 0, 1, 2, 3, 4, 5, 6, 7, 8, 10, 11, 12, 13, 14, 15, 16, 17, 18, 19, 20], true⟩])))
 (.region [
 ⟨(some 76), .bin .add (.tmp 49) (.const (.int .i64 1)), none, [], true⟩,
 ⟨(some 49), .move (.tmp 76), none, [], true⟩])))))))
 (.seq (.seq (.region [
 ⟨(some 77), .move (.tmp 3), none, [], true⟩,
 ⟨(some 78), .un .not (.tmp 77), none, [], true⟩])
 (.cond (.tmp 78)
 (.seq (.region [
 ⟨(some 2), .move (.const (.int .i64 71)), none, [], true⟩])
 .ret)
 .skip))
 (.seq (.region [
 ⟨(some 2), .move (.const (.int .i64 0)), none, [], true⟩])
 .ret)))))) }
theorem ir12_eq : funcC Tryd.prog 12 = some ir12 := by kernel_rfl
/-- wagonway/wire.Bytes -/
def ir13 : IFunc :=
{ ntmps := 59, results := [.tmp 2, .tmp 3], body :=
 (.seq (.region [
 ⟨(some 1), .box (.tmp 0), none, [], true⟩,
 ⟨(some 2), .move (.const (.slice none 0 0)), none, [], true⟩,
 ⟨(some 3), .move (.const (.int .i64 0)), none, [], true⟩])
 (.seq (.seq (.region [
 ⟨(some 11), .load (some 15) (.tmp 1), none, [], true⟩,
 ⟨(some 12), .call (.const (.func (.func 11) #[] #[])) [(.tmp 11)], none, [], true⟩,
 ⟨(some 4), .move (.tmp 12), none, [], true⟩])
 (.seq (.region [
 ⟨(some 13), .move (.tmp 4), none, [], true⟩,
 ⟨(some 14), .bin .neq (.tmp 13) (.const (.int .i64 0)), none, [], true⟩])
 (.cond (.tmp 14)
 (.seq (.region [
 ⟨(some 15), .move (.tmp 4), none, [], true⟩,
 ⟨(some 2), .move (.const (.slice none 0 0)), none, [], true⟩,
 ⟨(some 3), .move (.tmp 15), none, [], true⟩])
 .ret)
 .skip)))
 (.seq (.region [
 ⟨(some 16), .fieldAddr 0 (.tmp 1), none, [], true⟩,
 ⟨(some 17), .load none (.tmp 16), none, [], true⟩,
 ⟨(some 18), .conv .u8 (.tmp 17), none, [], true⟩,
 ⟨(some 19), .fieldAddr 1 (.tmp 1), none, [], true⟩,
 ⟨(some 20), .load none (.tmp 19), none, [], true⟩,
 ⟨(some 21), .conv .u8 (.tmp 20), none, [], true⟩,
 ⟨(some 22), .buildSlice 1 2 [(.int .u8 0)] [(0, (.tmp 18)), (1, (.tmp 21))], none, [], true⟩,
 ⟨(some 5), .move (.tmp 22), none, [], true⟩])
 (.seq (.seq (.region [
 ⟨(some 23), .fieldAddr 2 (.tmp 1), none, [], true⟩,
 ⟨(some 24), .load none (.tmp 23), none, [], true⟩,
 ⟨(some 25), .fieldAddr 3 (.tmp 1), none, [], true⟩,
 ⟨(some 26), .load none (.tmp 25), none, [], true⟩,
 ⟨(some 27), .fieldAddr 4 (.tmp 1), none, [], true⟩,
 ⟨(some 28), .load none (.tmp 27), none, [], true⟩,
 ⟨(some 29), .fieldAddr 5 (.tmp 1), none, [], true⟩,
 ⟨(some 30), .load none (.tmp 29), none, [], true⟩,
 ⟨(some 31), .buildSlice 1 4 [(.int .u32 0)] [(0, (.tmp 24)), (1, (.tmp 26)), (2, (.tmp 28)), (3, (.tmp 30))], none, [], true⟩,
 ⟨(some 32), .lenSlice (.tmp 31), none, [], true⟩,
 ⟨(some 33), .move (.const (.int .i64 0)), none, [], true⟩])
 (.block 0 (.loop (.seq (.region [
 ⟨(some 34), .bin .lss (.tmp 33) (.tmp 32), none, [], true⟩])
 (.seq (.cond (.tmp 34)
 .skip
 (.exit 0))
 (.seq (.block 1 (.seq (.region [
 ⟨(some 35), .indexAddr 1 (.tmp 31) (.tmp 33), none, [], true⟩,
 ⟨(some 36), .load none (.tmp 35), none, [], true⟩,
 ⟨(some 7), .move (.tmp 36), none, [], true⟩])
 (.region [
 ⟨(some 37), .move (.tmp 5), none, [], true⟩,
 ⟨(some 38), .move (.tmp 7), none, [], true⟩,
 ⟨(some 39), .conv .u64 (.tmp 38), none, [], true⟩,
 ⟨(some 40), .call (.const (.func (.func 29) #[] #[])) [(.tmp 37), (.tmp 39), (.const (.int .i64 4))], none, [], true⟩,
 ⟨(some 5), .move (.tmp 40), none, [], true⟩])))
 (.region [
 ⟨(some 41), .bin .add (.tmp 33) (.const (.int .i64 1)), none, [], true⟩,
 ⟨(some 33), .move (.tmp 41), none, [], true⟩])))))))
 (.seq (.region [
 ⟨(some 8), .move (.const (.slice none 0 0)), none, [], true⟩])
 (.seq (.seq (.region [
 ⟨(some 42), .move (.tmp 5), none, [], true⟩,
 ⟨(some 43), .fieldAddr 6 (.tmp 1), none, [], true⟩,
 ⟨(some 44), .load (some 9) (.tmp 43), none, [], true⟩,
 ⟨(some 45), .call (.const (.func (.func 30) #[] #[])) [(.tmp 42), (.tmp 44)], none, [], true⟩,
 ⟨(some 46), .lenSlice (.tmp 45), none, [], true⟩,
 ⟨(some 47), .move (.const (.int .i64 0)), none, [], true⟩])
 (.block 2 (.loop (.seq (.region [
 ⟨(some 48), .bin .lss (.tmp 47) (.tmp 46), none, [], true⟩])
 (.seq (.cond (.tmp 48)
 .skip
 (.exit 2))
 (.seq (.block 3 (.seq (.region [
 ⟨(some 49), .indexAddr 1 (.tmp 45) (.tmp 47), none, [], true⟩,
 ⟨(some 50), .load none (.tmp 49), none, [], true⟩,
 ⟨(some 10), .move (.tmp 50), none, [], true⟩])
 (.region [
 ⟨(some 51), .move (.tmp 8), none, [], true⟩,
 ⟨(some 52), .move (.tmp 10), none, [], true⟩,
 ⟨(some 53), .move (.tmp 10), none, [], true⟩,
 ⟨(some 54), .un .xor (.tmp 53), none, [], true⟩,
 ⟨(some 55), .buildSlice 1 2 [(.int .u8 0)] [(0, (.tmp 52)), (1, (.tmp 54))], none, [], true⟩,
 ⟨(some 56), .append 1 1 (.tmp 51) (.tmp 55), none, [], true⟩,
 ⟨(some 8), .move (.tmp 56), none, [], true⟩])))
 (.region [
 ⟨(some 57), .bin .add (.tmp 47) (.const (.int .i64 1)), none, [], true⟩,
 ⟨(some 47), .move (.tmp 57), none, [], true⟩])))))))
 (.seq (.region [
 ⟨(some 58), .move (.tmp 8), none, [], true⟩,
 ⟨(some 2), .move (.tmp 58), none, [], true⟩,
 ⟨(some 3), .move (.const (.int .i64 0)), none, [], true⟩])
 .ret))))))) }
theorem ir13_eq : funcC Tryd.prog 13 = some ir13 := by kernel_rfl
/-- wagonway/wagonwayref07.Bytes -/
def ir14 : IFunc :=
{ ntmps := 179, results := [.tmp 2, .tmp 3], body :=
 (.seq (.region [
 ⟨(some 1), .box (.tmp 0), none, [], true⟩,
 ⟨(some 2), .move (.const (.slice none 0 0)), none, [], true⟩,
 ⟨(some 3), .move (.const (.int .i64 0)), none, [], true⟩])
 (.seq (.region [
 ⟨(some 12), .load (some 15) (.tmp 1), none, [], true⟩,
 ⟨(some 13), .call (.const (.func (.func 9) #[] #[])) [(.tmp 12)], none, [], true⟩,
 ⟨(some 4), .move (.tmp 13), none, [], true⟩])
 (.seq (.seq (.region [
 ⟨(some 14), .move (.tmp 4), none, [], true⟩,
 ⟨(some 15), .un .not (.tmp 14), none, [], true⟩])
 (.cond (.tmp 15)
 (.seq (.region [
 ⟨(some 2), .move (.const (.slice none 0 0)), none, [], true⟩,
 ⟨(some 3), .move (.const (.int .i64 71)), none, [], true⟩])
 .ret)
 .skip))
 (.seq (.region [
 ⟨(some 16), .fieldAddr 0 (.tmp 1), none, [], true⟩,
 ⟨(some 17), .load none (.tmp 16), none, [], true⟩,
 ⟨(some 18), .conv .u8 (.tmp 17), none, [], true⟩,
 ⟨(some 19), .fieldAddr 1 (.tmp 1), none, [], true⟩,
 ⟨(some 20), .load none (.tmp 19), none, [], true⟩,
 ⟨(some 21), .conv .u8 (.tmp 20), none, [], true⟩,
 ⟨(some 22), .buildSlice 1 2 [(.int .u8 0)] [(0, (.tmp 18)), (1, (.tmp 21))], none, [], true⟩,
 ⟨(some 5), .move (.tmp 22), none, [], true⟩])
 (.seq (.region [
 ⟨(some 23), .move (.tmp 5), none, [], true⟩,
 ⟨(some 24), .fieldAddr 2 (.tmp 1), none, [], true⟩,
 ⟨(some 25), .load none (.tmp 24), none, [], true⟩,
 ⟨(some 26), .conv .u64 (.tmp 25), none, [], true⟩,
 ⟨(some 27), .call (.const (.func (.func 31) #[] #[])) [(.tmp 26), (.const (.int .i64 4))], none, [], true⟩,
 ⟨(some 28), .append 1 1 (.tmp 23) (.tmp 27), none, [], true⟩,
 ⟨(some 5), .move (.tmp 28), none, [], true⟩])
 (.seq (.region [
 ⟨(some 29), .move (.tmp 5), none, [], true⟩,
 ⟨(some 30), .fieldAddr 3 (.tmp 1), none, [], true⟩,
 ⟨(some 31), .load none (.tmp 30), none, [], true⟩,
 ⟨(some 32), .conv .u64 (.tmp 31), none, [], true⟩,
 ⟨(some 33), .call (.const (.func (.func 31) #[] #[])) [(.tmp 32), (.const (.int .i64 4))], none, [], true⟩,
 ⟨(some 34), .append 1 1 (.tmp 29) (.tmp 33), none, [], true⟩,
 ⟨(some 5), .move (.tmp 34), none, [], true⟩])
 (.seq (.region [
 ⟨(some 35), .move (.tmp 5), none, [], true⟩,
 ⟨(some 36), .fieldAddr 4 (.tmp 1), none, [], true⟩,
 ⟨(some 37), .load none (.tmp 36), none, [], true⟩,
 ⟨(some 38), .conv .u64 (.tmp 37), none, [], true⟩,
 ⟨(some 39), .call (.const (.func (.func 31) #[] #[])) [(.tmp 38), (.const (.int .i64 4))], none, [], true⟩,
 ⟨(some 40), .append 1 1 (.tmp 35) (.tmp 39), none, [], true⟩,
 ⟨(some 5), .move (.tmp 40), none, [], true⟩])
 (.seq (.region [
 ⟨(some 41), .move (.tmp 5), none, [], true⟩,
 ⟨(some 42), .fieldAddr 5 (.tmp 1), none, [], true⟩,
 ⟨(some 43), .load none (.tmp 42), none, [], true⟩,
 ⟨(some 44), .conv .u64 (.tmp 43), none, [], true⟩,
 ⟨(some 45), .call (.const (.func (.func 31) #[] #[])) [(.tmp 44), (.const (.int .i64 4))], none, [], true⟩,
 ⟨(some 46), .append 1 1 (.tmp 41) (.tmp 45), none, [], true⟩,
 ⟨(some 5), .move (.tmp 46), none, [], true⟩])
 (.seq (.region [
 ⟨(some 47), .fieldAddr 6 (.tmp 1), none, [], true⟩,
 ⟨(some 48), .load (some 9) (.tmp 47), none, [], true⟩,
 ⟨(some 6), .box (.const (.agg #[(.int .i64 0), (.int .i64 0), (.int .u32 0), (.int .u64 0), (.int .i64 0), (.int .i64 0), (.int .i64 0), (.int .i64 0), (.slice none 0 0)])), none, [], true⟩,
 ⟨none, .store 9 (.tmp 6) (.tmp 48), none, [], true⟩])
 (.seq (.region [
 ⟨(some 49), .move (.tmp 5), none, [], true⟩,
 ⟨(some 50), .fieldAddr 0 (.tmp 6), none, [], true⟩,
 ⟨(some 51), .load none (.tmp 50), none, [], true⟩,
 ⟨(some 52), .conv .u8 (.tmp 51), none, [], true⟩,
 ⟨(some 53), .buildSlice 1 1 [(.int .u8 0)] [(0, (.tmp 52))], none, [], true⟩,
 ⟨(some 54), .append 1 1 (.tmp 49) (.tmp 53), none, [], true⟩,
 ⟨(some 5), .move (.tmp 54), none, [], true⟩])
 (.seq (.region [
 ⟨(some 55), .fieldAddr 0 (.tmp 6), none, [], true⟩,
 ⟨(some 56), .load none (.tmp 55), none, [], true⟩,
 ⟨(some 57), .call (.const (.func (.func 25) #[] #[])) [(.tmp 56)], none, [], true⟩,
 ⟨(some 7), .move (.tmp 57), none, [], true⟩])
 (.seq (.seq (.region [
 ⟨(some 8), .move (.const (.int .i64 0)), none, [], true⟩])
 (.block 0 (.loop (.seq (.seq (.region [
 ⟨(some 58), .move (.tmp 8), none, [], true⟩,
 ⟨(some 59), .move (.tmp 7), none, [], true⟩,
 ⟨(some 60), .lenStr (.tmp 59), none, [], true⟩,
 ⟨(some 61), .bin .lss (.tmp 58) (.tmp 60), none, [], true⟩])
 (.cond (.tmp 61)
 .skip
 (.exit 0)))
 (.seq (.block 1 (.seq (.region [
 ⟨(some 64), .move (.tmp 7), none, [], true⟩,
 ⟨(some 65), .move (.tmp 8), none, [], true⟩,
 ⟨(some 66), .indexStr (.tmp 64) (.tmp 65), none, [], true⟩])
 (.block 2 (.seq (.region [
 ⟨(some 68), .bin .eql (.tmp 66) (.const (.int .u8 99)), none, [], true⟩,
 ⟨(some 67), .move (.tmp 68), none, [], true⟩])
 (.cond (.tmp 67)
 (.region [
 ⟨(some 69), .move (.tmp 5), none, [], true⟩,
 ⟨(some 70), .fieldAddr 1 (.tmp 6), none, [], true⟩,
 ⟨(some 71), .load none (.tmp 70), none, [], true⟩,
 ⟨(some 72), .conv .u64 (.tmp 71), none, [], true⟩,
 ⟨(some 73), .call (.const (.func (.func 31) #[] #[])) [(.tmp 72), (.const (.int .i64 2))], none, [], true⟩,
 ⟨(some 74), .append 1 1 (.tmp 69) (.tmp 73), none, [], true⟩,
 ⟨(some 5), .move (.tmp 74), none, [], true⟩])
 (.seq (.region [
 ⟨(some 76), .bin .eql (.tmp 66) (.const (.int .u8 103)), none, [], true⟩,
 ⟨(some 75), .move (.tmp 76), none, [], true⟩])
 (.cond (.tmp 75)
 (.region [
 ⟨(some 77), .move (.tmp 5), none, [], true⟩,
 ⟨(some 78), .fieldAddr 2 (.tmp 6), none, [], true⟩,
 ⟨(some 79), .load none (.tmp 78), none, [], true⟩,
 ⟨(some 80), .conv .u64 (.tmp 79), none, [], true⟩,
 ⟨(some 81), .call (.const (.func (.func 31) #[] #[])) [(.tmp 80), (.const (.int .i64 4))], none, [], true⟩,
 ⟨(some 82), .append 1 1 (.tmp 77) (.tmp 81), none, [], true⟩,
 ⟨(some 5), .move (.tmp 82), none, [], true⟩])
 (.seq (.region [
 ⟨(some 84), .bin .eql (.tmp 66) (.const (.int .u8 115)), none, [], true⟩,
 ⟨(some 83), .move (.tmp 84), none, [], true⟩])
 (.cond (.tmp 83)
 (.region [
 ⟨(some 85), .move (.tmp 5), none, [], true⟩,
 ⟨(some 86), .fieldAddr 3 (.tmp 6), none, [], true⟩,
 ⟨(some 87), .load none (.tmp 86), none, [], true⟩,
 ⟨(some 88), .call (.const (.func (.func 31) #[] #[])) [(.tmp 87), (.const (.int .i64 8))], none, [], true⟩,
 ⟨(some 89), .append 1 1 (.tmp 85) (.tmp 88), none, [], true⟩,
 ⟨(some 5), .move (.tmp 89), none, [], true⟩])
 (.seq (.region [
 ⟨(some 91), .bin .eql (.tmp 66) (.const (.int .u8 112)), none, [], true⟩,
 ⟨(some 90), .move (.tmp 91), none, [], true⟩])
 (.cond (.tmp 90)
 (.region [
 ⟨(some 92), .move (.tmp 5), none, [], true⟩,
 ⟨(some 93), .fieldAddr 4 (.tmp 6), none, [], true⟩,
 ⟨(some 94), .load none (.tmp 93), none, [], true⟩,
 ⟨(some 95), .conv .u8 (.tmp 94), none, [], true⟩,
 ⟨(some 96), .buildSlice 1 1 [(.int .u8 0)] [(0, (.tmp 95))], none, [], true⟩,
 ⟨(some 97), .append 1 1 (.tmp 92) (.tmp 96), none, [], true⟩,
 ⟨(some 5), .move (.tmp 97), none, [], true⟩])
 (.seq (.region [
 ⟨(some 99), .bin .eql (.tmp 66) (.const (.int .u8 104)), none, [], true⟩,
 ⟨(some 98), .move (.tmp 99), none, [], true⟩])
 (.cond (.tmp 98)
 (.region [
 ⟨(some 100), .move (.tmp 5), none, [], true⟩,
 ⟨(some 101), .fieldAddr 5 (.tmp 6), none, [], true⟩,
 ⟨(some 102), .load none (.tmp 101), none, [], true⟩,
 ⟨(some 103), .conv .u8 (.tmp 102), none, [], true⟩,
 ⟨(some 104), .buildSlice 1 1 [(.int .u8 0)] [(0, (.tmp 103))], none, [], true⟩,
 ⟨(some 105), .append 1 1 (.tmp 100) (.tmp 104), none, [], true⟩,
 ⟨(some 5), .move (.tmp 105), none, [], true⟩])
 (.seq (.region [
 ⟨(some 107), .bin .eql (.tmp 66) (.const (.int .u8 111)), none, [], true⟩,
 ⟨(some 106), .move (.tmp 107), none, [], true⟩])
 (.cond (.tmp 106)
 (.region [
 ⟨(some 108), .move (.tmp 5), none, [], true⟩,
 ⟨(some 109), .fieldAddr 6 (.tmp 6), none, [], true⟩,
 ⟨(some 110), .load none (.tmp 109), none, [], true⟩,
 ⟨(some 111), .conv .u8 (.tmp 110), none, [], true⟩,
 ⟨(some 112), .buildSlice 1 1 [(.int .u8 0)] [(0, (.tmp 111))], none, [], true⟩,
 ⟨(some 113), .append 1 1 (.tmp 108) (.tmp 112), none, [], true⟩,
 ⟨(some 5), .move (.tmp 113), none, [], true⟩])
 (.seq (.region [
 ⟨(some 115), .bin .eql (.tmp 66) (.const (.int .u8 119)), none, [], true⟩,
 ⟨(some 114), .move (.tmp 115), none, [], true⟩])
 (.cond (.tmp 114)
 (.region [
 ⟨(some 116), .move (.tmp 5), none, [], true⟩,
 ⟨(some 117), .fieldAddr 7 (.tmp 6), none, [], true⟩,
 ⟨(some 118), .load none (.tmp 117), none, [], true⟩,
 ⟨(some 119), .bin .add (.tmp 118) (.const (.int .i64 256)), none, [], true⟩,
 ⟨(some 120), .bin .rem (.tmp 119) (.const (.int .i64 256)), none, [], true⟩,
 ⟨(some 121), .conv .u8 (.tmp 120), none, [], true⟩,
 ⟨(some 122), .buildSlice 1 1 [(.int .u8 0)] [(0, (.tmp 121))], none, [], true⟩,
 ⟨(some 123), .append 1 1 (.tmp 116) (.tmp 122), none, [], true⟩,
 ⟨(some 5), .move (.tmp 123), none, [], true⟩])
 (.seq (.region [
 ⟨(some 125), .bin .eql (.tmp 66) (.const (.int .u8 108)), none, [], true⟩,
 ⟨(some 124), .move (.tmp 125), none, [], true⟩])
 (.cond (.tmp 124)
 (.seq (.region [
 ⟨(some 126), .move (.tmp 5), none, [], true⟩,
 ⟨(some 127), .fieldAddr 8 (.tmp 6), none, [], true⟩,
 ⟨(some 128), .load none (.tmp 127), none, [], true⟩,
 ⟨(some 129), .lenSlice (.tmp 128), none, [], true⟩,
 ⟨(some 130), .conv .u8 (.tmp 129), none, [], true⟩,
 ⟨(some 131), .buildSlice 1 1 [(.int .u8 0)] [(0, (.tmp 130))], none, [], true⟩,
 ⟨(some 132), .append 1 1 (.tmp 126) (.tmp 131), none, [], true⟩,
 ⟨(some 5), .move (.tmp 132), none, [], true⟩])
 (.seq (.region [
 ⟨(some 9), .move (.const (.int .i64 0)), none, [], true⟩])
 (.block 3 (.loop (.seq (.seq (.region [
 ⟨(some 133), .move (.tmp 9), none, [], true⟩,
 ⟨(some 134), .fieldAddr 8 (.tmp 6), none, [], true⟩,
 ⟨(some 135), .load none (.tmp 134), none, [], true⟩,
 ⟨(some 136), .lenSlice (.tmp 135), none, [], true⟩,
 ⟨(some 137), .bin .lss (.tmp 133) (.tmp 136), none, [], true⟩])
 (.cond (.tmp 137)
 .skip
 (.exit 3)))
 (.seq (.block 4 (.seq (.region [
 ⟨(some 140), .move (.tmp 5), none, [], true⟩,
 ⟨(some 141), .fieldAddr 8 (.tmp 6), none, [], true⟩,
 ⟨(some 142), .load none (.tmp 141), none, [], true⟩,
 ⟨(some 143), .move (.tmp 9), none, [], true⟩,
 ⟨(some 144), .indexAddr 2 (.tmp 142) (.tmp 143), none, [], true⟩,
 ⟨(some 145), .fieldAddr 0 (.tmp 144), none, [], true⟩,
 ⟨(some 146), .load none (.tmp 145), none, [], true⟩,
 ⟨(some 147), .conv .u64 (.tmp 146), none, [], true⟩,
 ⟨(some 148), .call (.const (.func (.func 31) #[] #[])) [(.tmp 147), (.const (.int .i64 2))], none, [], true⟩,
 ⟨(some 149), .append 1 1 (.tmp 140) (.tmp 148), none, [], true⟩,
 ⟨(some 5), .move (.tmp 149), none, [], true⟩])
 (.region [
 ⟨(some 150), .move (.tmp 5), none, [], true⟩,
 ⟨(some 151), .fieldAddr 8 (.tmp 6), none, [], true⟩,
 ⟨(some 152), .load none (.tmp 151), none, [], true⟩,
 ⟨(some 153), .move (.tmp 9), none, [], true⟩,
 ⟨(some 154), .indexAddr 2 (.tmp 152) (.tmp 153), none, [], true⟩,
 ⟨(some 155), .fieldAddr 1 (.tmp 154), none, [], true⟩,
 ⟨(some 156), .load none (.tmp 155), none, [], true⟩,
 ⟨(some 157), .conv .u64 (.tmp 156), none, [], true⟩,
 ⟨(some 158), .call (.const (.func (.func 31) #[] #[])) [(.tmp 157), (.const (.int .i64 4))], none, [], true⟩,
 ⟨(some 159), .append 1 1 (.tmp 150) (.tmp 158), none, [], true⟩,
 ⟨(some 5), .move (.tmp 159), none, [], true⟩])))
 (.region [
 ⟨(some 138), .move (.tmp 9), none, [], true⟩,
 ⟨(some 139), .bin .add (.tmp 138) (.const (.int .i64 1)), none, [], true⟩,
 ⟨(some 9), .move (.tmp 139), none, [], true⟩])))))))
 .skip)))))))))))))))))))
 (.region [
 ⟨(some 62), .move (.tmp 8), none, [], true⟩,
 ⟨(some 63), .bin .add (.tmp 62) (.const (.int .i64 1)), none, [], true⟩,
 ⟨(some 8), .move (.tmp 63), none, [], true⟩]))))))
 (.seq (.region [
 ⟨(some 10), .move (.const (.slice none 0 0)), none, [], true⟩])
 (.seq (.seq (.region [
 ⟨(some 11), .move (.const (.int .i64 0)), none, [], true⟩])
 (.block 5 (.loop (.seq (.seq (.region [
 ⟨(some 160), .move (.tmp 11), none, [], true⟩,
 ⟨(some 161), .move (.tmp 5), none, [], true⟩,
 ⟨(some 162), .lenSlice (.tmp 161), none, [], true⟩,
 ⟨(some 163), .bin .lss (.tmp 160) (.tmp 162), none, [], true⟩])
 (.cond (.tmp 163)
 .skip
 (.exit 5)))
 (.seq (.block 6 (.drawn [
 ⟨(some 166), .move (.tmp 10), none, [], false⟩,
 ⟨(some 167), .move (.tmp 5), none, [], false⟩,
 ⟨(some 168), .move (.tmp 11), none, [], false⟩,
 ⟨(some 169), .indexAddr 1 (.tmp 167) (.tmp 168), none, [1, 2], false⟩,
 ⟨(some 170), .load none (.tmp 169), none, [3, 1, 2], false⟩,
 ⟨(some 171), .move (.tmp 5), none, [], false⟩,
 ⟨(some 172), .move (.tmp 11), none, [], false⟩,
 ⟨(some 173), .indexAddr 1 (.tmp 171) (.tmp 172), none, [5, 6], false⟩,
 ⟨(some 174), .load none (.tmp 173), none, [7, 5, 6], false⟩,
 ⟨(some 175), .bin .sub (.const (.int .u8 255)) (.tmp 174), none, [8, 7, 5, 6], false⟩,
 ⟨(some 176), .buildSlice 1 2 [(.int .u8 0)] [(0, (.tmp 170)), (1, (.tmp 175))], none, [4, 9, 3, 1, 2, 8, 7, 5, 6], true⟩,
 ⟨(some 177), .append 1 1 (.tmp 166) (.tmp 176), none, [0, 10, 4, 9, 3, 1, 2, 8, 7, 5, 6], true⟩,
 ⟨(some 10), .move (.tmp 177), none, [11, 0, 1, 2, 3, 4, 5, 6, 7, 8, 9, 10], true⟩]))
 (.region [
 ⟨(some 164), .move (.tmp 11), none, [], true⟩,
 ⟨(some 165), .bin .add (.tmp 164) (.const (.int .i64 1)), none, [], true⟩,
 ⟨(some 11), .move (.tmp 165), none, [], true⟩]))))))
 (.seq (.region [
 ⟨(some 178), .move (.tmp 10), none, [], true⟩,
 ⟨(some 2), .move (.tmp 178), none, [], true⟩,
 ⟨(some 3), .move (.const (.int .i64 0)), none, [], true⟩])
 .ret))))))))))))))) }
theorem ir14_eq : funcC Tryd.prog 14 = some ir14 := by kernel_rfl
/-- wagonway/wire.Size -/
def ir15 : IFunc :=
{ ntmps := 11, results := [.tmp 2], body :=
 (.seq (.region [
 ⟨(some 1), .box (.tmp 0), none, [], true⟩,
 ⟨(some 2), .move (.const (.int .i64 0)), none, [], true⟩])
 (.seq (.seq (.region [
 ⟨(some 3), .load (some 9) (.tmp 1), none, [], true⟩,
 ⟨(some 4), .call (.const (.func (.func 12) #[] #[])) [(.tmp 3)], none, [], true⟩,
 ⟨(some 5), .bin .neq (.tmp 4) (.const (.int .i64 0)), none, [], true⟩])
 (.cond (.tmp 5)
 (.seq (.region [
 ⟨(some 2), .move (.const (.int .i64 0)), none, [], true⟩])
 .ret)
 .skip))
 (.seq (.drawn [
 ⟨(some 6), .makeSlice 1 1 [(.int .u8 0)] (.const (.int .i64 18)) (.const (.int .i64 18)), none, [], false⟩,
 ⟨(some 7), .load (some 9) (.tmp 1), none, [], false⟩,
 ⟨(some 8), .call (.const (.func (.func 30) #[] #[])) [(.tmp 6), (.tmp 7)], none, [0, 1], true⟩,
 ⟨(some 9), .lenSlice (.tmp 8), none, [2, 0, 1], true⟩,
 ⟨(some 10), .bin .mul (.const (.int .i64 2)) (.tmp 9), none, [3, 2, 0, 1], true⟩,
 ⟨(some 2), .move (.tmp 10), none, [4, 2, 0, 1, 3], true⟩])
 .ret))) }
theorem ir15_eq : funcC Tryd.prog 15 = some ir15 := by kernel_rfl
/-- wagonway/wagonwaylaw07.alive -/
def ir16 : IFunc :=
{ ntmps := 51, results := [.tmp 0], body :=
 (.seq (.region [
 ⟨(some 0), .move (.const (.bool false)), none, [], true⟩])
 (.seq (.region [
 ⟨(some 4), .call (.const (.func (.func 24) #[] #[])) [], none, [], true⟩,
 ⟨(some 5), .call (.const (.func (.func 13) #[] #[])) [(.tmp 4)], none, [], true⟩,
 ⟨(some 3), .move (.tmp 5), none, [], true⟩,
 ⟨(some 6), .extract (.tmp 3) 0, none, [], true⟩,
 ⟨(some 7), .extract (.tmp 3) 1, none, [], true⟩,
 ⟨(some 1), .move (.tmp 6), none, [], true⟩,
 ⟨(some 2), .move (.tmp 7), none, [], true⟩])
 (.seq (.region [
 ⟨(some 8), .move (.tmp 2), none, [], true⟩,
 ⟨(some 9), .bin .eql (.tmp 8) (.const (.int .i64 0)), none, [], true⟩,
 ⟨(some 10), .move (.tmp 9), none, [], true⟩,
 ⟨(some 11), .move (.tmp 1), (some (10, true)), [], true⟩,
 ⟨(some 12), .lenSlice (.tmp 11), (some (10, true)), [], true⟩,
 ⟨(some 13), .bin .eql (.tmp 12) (.const (.int .i64 38)), (some (10, true)), [], true⟩,
 ⟨(some 14), .pick (.tmp 10) (.tmp 13) (.const (.bool false)), none, [], true⟩,
 ⟨(some 15), .move (.tmp 14), none, [], true⟩,
 ⟨(some 16), .move (.tmp 1), (some (15, true)), [], true⟩,
 ⟨(some 17), .indexAddr 1 (.tmp 16) (.const (.int .i64 0)), (some (15, true)), [], true⟩,
 ⟨(some 18), .load none (.tmp 17), (some (15, true)), [], true⟩,
 ⟨(some 19), .bin .eql (.tmp 18) (.const (.int .u8 1)), (some (15, true)), [], true⟩,
 ⟨(some 20), .pick (.tmp 15) (.tmp 19) (.const (.bool false)), none, [], true⟩,
 ⟨(some 21), .move (.tmp 20), none, [], true⟩,
 ⟨(some 22), .move (.tmp 1), (some (21, true)), [], true⟩,
 ⟨(some 23), .indexAddr 1 (.tmp 22) (.const (.int .i64 1)), (some (21, true)), [], true⟩,
 ⟨(some 24), .load none (.tmp 23), (some (21, true)), [], true⟩,
 ⟨(some 25), .bin .eql (.tmp 24) (.const (.int .u8 254)), (some (21, true)), [], true⟩,
 ⟨(some 26), .pick (.tmp 21) (.tmp 25) (.const (.bool false)), none, [], true⟩,
 ⟨(some 27), .move (.tmp 26), none, [], true⟩,
 ⟨(some 28), .move (.tmp 1), (some (27, true)), [], true⟩,
 ⟨(some 29), .indexAddr 1 (.tmp 28) (.const (.int .i64 2)), (some (27, true)), [], true⟩,
 ⟨(some 30), .load none (.tmp 29), (some (27, true)), [], true⟩,
 ⟨(some 31), .bin .eql (.tmp 30) (.const (.int .u8 2)), (some (27, true)), [], true⟩,
 ⟨(some 32), .pick (.tmp 27) (.tmp 31) (.const (.bool false)), none, [], true⟩,
 ⟨(some 33), .move (.tmp 32), none, [], true⟩,
 ⟨(some 34), .move (.tmp 1), (some (33, true)), [], true⟩,
 ⟨(some 35), .indexAddr 1 (.tmp 34) (.const (.int .i64 3)), (some (33, true)), [], true⟩,
 ⟨(some 36), .load none (.tmp 35), (some (33, true)), [], true⟩,
 ⟨(some 37), .bin .eql (.tmp 36) (.const (.int .u8 253)), (some (33, true)), [], true⟩,
 ⟨(some 38), .pick (.tmp 33) (.tmp 37) (.const (.bool false)), none, [], true⟩,
 ⟨(some 39), .move (.tmp 38), none, [], true⟩,
 ⟨(some 40), .move (.tmp 1), (some (39, true)), [], true⟩,
 ⟨(some 41), .indexAddr 1 (.tmp 40) (.const (.int .i64 36)), (some (39, true)), [], true⟩,
 ⟨(some 42), .load none (.tmp 41), (some (39, true)), [], true⟩,
 ⟨(some 43), .bin .eql (.tmp 42) (.const (.int .u8 9)), (some (39, true)), [], true⟩,
 ⟨(some 44), .pick (.tmp 39) (.tmp 43) (.const (.bool false)), none, [], true⟩,
 ⟨(some 45), .move (.tmp 44), none, [], true⟩,
 ⟨(some 46), .move (.tmp 1), (some (45, true)), [], true⟩,
 ⟨(some 47), .indexAddr 1 (.tmp 46) (.const (.int .i64 37)), (some (45, true)), [], true⟩,
 ⟨(some 48), .load none (.tmp 47), (some (45, true)), [], true⟩,
 ⟨(some 49), .bin .eql (.tmp 48) (.const (.int .u8 246)), (some (45, true)), [], true⟩,
 ⟨(some 50), .pick (.tmp 45) (.tmp 49) (.const (.bool false)), none, [], true⟩,
 ⟨(some 0), .move (.tmp 50), none, [], true⟩])
 .ret))) }
theorem ir16_eq : funcC Tryd.prog 16 = some ir16 := by kernel_rfl
/-- wagonway/wagonwayref07.Name -/
def ir21 : IFunc :=
{ ntmps := 26, results := [.tmp 2], body :=
 (.seq (.region [
 ⟨(some 2), .move (.const (.string ⟨#[]⟩)), none, [], true⟩])
 (.seq (.seq (.region [
 ⟨(some 3), .move (.tmp 0), none, [], true⟩])
 (.block 0 (.seq (.region [
 ⟨(some 5), .bin .eql (.tmp 3) (.const (.int .i64 1)), none, [], true⟩,
 ⟨(some 4), .move (.tmp 5), none, [], true⟩])
 (.cond (.tmp 4)
 (.seq (.region [
 ⟨(some 2), .move (.const (.string ⟨#[114, 101, 113, 117, 101, 115, 116]⟩)), none, [], true⟩])
 .ret)
 (.seq (.region [
 ⟨(some 7), .bin .eql (.tmp 3) (.const (.int .i64 2)), none, [], true⟩,
 ⟨(some 6), .move (.tmp 7), none, [], true⟩])
 (.cond (.tmp 6)
 (.seq (.region [
 ⟨(some 2), .move (.const (.string ⟨#[103, 114, 97, 110, 116]⟩)), none, [], true⟩])
 .ret)
 (.seq (.region [
 ⟨(some 9), .bin .eql (.tmp 3) (.const (.int .i64 3)), none, [], true⟩,
 ⟨(some 8), .move (.tmp 9), none, [], true⟩])
 (.cond (.tmp 8)
 (.seq (.region [
 ⟨(some 2), .move (.const (.string ⟨#[114, 101, 108, 101, 97, 115, 101]⟩)), none, [], true⟩])
 .ret)
 (.seq (.region [
 ⟨(some 11), .bin .eql (.tmp 3) (.const (.int .i64 4)), none, [], true⟩,
 ⟨(some 10), .move (.tmp 11), none, [], true⟩])
 (.cond (.tmp 10)
 (.seq (.region [
 ⟨(some 2), .move (.const (.string ⟨#[97, 99, 107]⟩)), none, [], true⟩])
 .ret)
 (.seq (.region [
 ⟨(some 13), .bin .eql (.tmp 3) (.const (.int .i64 5)), none, [], true⟩,
 ⟨(some 12), .move (.tmp 13), none, [], true⟩])
 (.cond (.tmp 12)
 (.seq (.region [
 ⟨(some 2), .move (.const (.string ⟨#[100, 101, 110, 121]⟩)), none, [], true⟩])
 .ret)
 (.seq (.region [
 ⟨(some 15), .bin .eql (.tmp 3) (.const (.int .i64 6)), none, [], true⟩,
 ⟨(some 14), .move (.tmp 15), none, [], true⟩])
 (.cond (.tmp 14)
 (.seq (.region [
 ⟨(some 2), .move (.const (.string ⟨#[112, 114, 111, 98, 101]⟩)), none, [], true⟩])
 .ret)
 (.seq (.region [
 ⟨(some 17), .bin .eql (.tmp 3) (.const (.int .i64 7)), none, [], true⟩,
 ⟨(some 16), .move (.tmp 17), none, [], true⟩])
 (.cond (.tmp 16)
 (.seq (.region [
 ⟨(some 2), .move (.const (.string ⟨#[97, 98, 111, 114, 116]⟩)), none, [], true⟩])
 .ret)
 (.seq (.region [
 ⟨(some 19), .bin .eql (.tmp 3) (.const (.int .i64 8)), none, [], true⟩,
 ⟨(some 18), .move (.tmp 19), none, [], true⟩])
 (.cond (.tmp 18)
 (.seq (.region [
 ⟨(some 2), .move (.const (.string ⟨#[105, 110, 104, 101, 114, 105, 116]⟩)), none, [], true⟩])
 .ret)
 (.seq (.region [
 ⟨(some 21), .bin .eql (.tmp 3) (.const (.int .i64 9)), none, [], true⟩,
 ⟨(some 20), .move (.tmp 21), none, [], true⟩])
 (.cond (.tmp 20)
 (.seq (.region [
 ⟨(some 2), .move (.const (.string ⟨#[104, 101, 108, 108, 111]⟩)), none, [], true⟩])
 .ret)
 (.seq (.region [
 ⟨(some 23), .bin .eql (.tmp 3) (.const (.int .i64 10)), none, [], true⟩,
 ⟨(some 22), .move (.tmp 23), none, [], true⟩])
 (.cond (.tmp 22)
 (.seq (.region [
 ⟨(some 2), .move (.const (.string ⟨#[114, 101, 99, 97, 108, 108]⟩)), none, [], true⟩])
 .ret)
 (.seq (.region [
 ⟨(some 25), .bin .eql (.tmp 3) (.const (.int .i64 11)), none, [], true⟩,
 ⟨(some 24), .move (.tmp 25), none, [], true⟩])
 (.cond (.tmp 24)
 (.seq (.region [
 ⟨(some 2), .move (.const (.string ⟨#[115, 116, 97, 116, 117, 115]⟩)), none, [], true⟩])
 .ret)
 .skip))))))))))))))))))))))))
 (.seq (.region [
 ⟨(some 2), .move (.const (.string ⟨#[]⟩)), none, [], true⟩])
 .ret))) }
theorem ir21_eq : funcC Tryd.prog 21 = some ir21 := by kernel_rfl
/-- wagonway/wire.Same -/
def ir22 : IFunc :=
{ ntmps := 57, results := [.tmp 4], body :=
 (.seq (.region [
 ⟨(some 2), .box (.tmp 0), none, [], true⟩,
 ⟨(some 3), .box (.tmp 1), none, [], true⟩,
 ⟨(some 4), .move (.const (.bool false)), none, [], true⟩])
 (.seq (.region [
 ⟨(some 7), .fieldAddr 0 (.tmp 2), none, [], true⟩,
 ⟨(some 8), .load none (.tmp 7), none, [], true⟩,
 ⟨(some 9), .fieldAddr 1 (.tmp 2), none, [], true⟩,
 ⟨(some 10), .load none (.tmp 9), none, [], true⟩,
 ⟨(some 11), .fieldAddr 4 (.tmp 2), none, [], true⟩,
 ⟨(some 12), .load none (.tmp 11), none, [], true⟩,
 ⟨(some 13), .fieldAddr 5 (.tmp 2), none, [], true⟩,
 ⟨(some 14), .load none (.tmp 13), none, [], true⟩,
 ⟨(some 15), .fieldAddr 6 (.tmp 2), none, [], true⟩,
 ⟨(some 16), .load none (.tmp 15), none, [], true⟩,
 ⟨(some 17), .fieldAddr 7 (.tmp 2), none, [], true⟩,
 ⟨(some 18), .load none (.tmp 17), none, [], true⟩,
 ⟨(some 19), .buildSlice 1 6 [(.int .i64 0)] [(0, (.tmp 8)), (1, (.tmp 10)), (2, (.tmp 12)), (3, (.tmp 14)), (4, (.tmp 16)), (5, (.tmp 18))], none, [], true⟩,
 ⟨(some 5), .move (.tmp 19), none, [], true⟩])
 (.seq (.region [
 ⟨(some 20), .fieldAddr 0 (.tmp 3), none, [], true⟩,
 ⟨(some 21), .load none (.tmp 20), none, [], true⟩,
 ⟨(some 22), .fieldAddr 1 (.tmp 3), none, [], true⟩,
 ⟨(some 23), .load none (.tmp 22), none, [], true⟩,
 ⟨(some 24), .fieldAddr 4 (.tmp 3), none, [], true⟩,
 ⟨(some 25), .load none (.tmp 24), none, [], true⟩,
 ⟨(some 26), .fieldAddr 5 (.tmp 3), none, [], true⟩,
 ⟨(some 27), .load none (.tmp 26), none, [], true⟩,
 ⟨(some 28), .fieldAddr 6 (.tmp 3), none, [], true⟩,
 ⟨(some 29), .load none (.tmp 28), none, [], true⟩,
 ⟨(some 30), .fieldAddr 7 (.tmp 3), none, [], true⟩,
 ⟨(some 31), .load none (.tmp 30), none, [], true⟩,
 ⟨(some 32), .buildSlice 1 6 [(.int .i64 0)] [(0, (.tmp 21)), (1, (.tmp 23)), (2, (.tmp 25)), (3, (.tmp 27)), (4, (.tmp 29)), (5, (.tmp 31))], none, [], true⟩,
 ⟨(some 6), .move (.tmp 32), none, [], true⟩])
 (.seq (.region [
 ⟨(some 33), .move (.tmp 5), none, [], true⟩,
 ⟨(some 34), .move (.tmp 6), none, [], true⟩,
 ⟨(some 35), .call (.const (.func (.func 36) #[] #[])) [(.tmp 33), (.tmp 34)], none, [], true⟩,
 ⟨(some 36), .move (.tmp 35), none, [], true⟩,
 ⟨(some 37), .fieldAddr 2 (.tmp 2), (some (36, true)), [], true⟩,
 ⟨(some 38), .load none (.tmp 37), (some (36, true)), [], true⟩,
 ⟨(some 39), .fieldAddr 2 (.tmp 3), (some (36, true)), [], true⟩,
 ⟨(some 40), .load none (.tmp 39), (some (36, true)), [], true⟩,
 ⟨(some 41), .bin .eql (.tmp 38) (.tmp 40), (some (36, true)), [], true⟩,
 ⟨(some 42), .pick (.tmp 36) (.tmp 41) (.const (.bool false)), none, [], true⟩,
 ⟨(some 43), .move (.tmp 42), none, [], true⟩,
 ⟨(some 44), .fieldAddr 3 (.tmp 2), (some (43, true)), [], true⟩,
 ⟨(some 45), .load none (.tmp 44), (some (43, true)), [], true⟩,
 ⟨(some 46), .fieldAddr 3 (.tmp 3), (some (43, true)), [], true⟩,
 ⟨(some 47), .load none (.tmp 46), (some (43, true)), [], true⟩,
 ⟨(some 48), .bin .eql (.tmp 45) (.tmp 47), (some (43, true)), [], true⟩,
 ⟨(some 49), .pick (.tmp 43) (.tmp 48) (.const (.bool false)), none, [], true⟩,
 ⟨(some 50), .move (.tmp 49), none, [], true⟩,
 ⟨(some 51), .fieldAddr 8 (.tmp 2), (some (50, true)), [], true⟩,
 ⟨(some 52), .load none (.tmp 51), (some (50, true)), [], true⟩,
 ⟨(some 53), .fieldAddr 8 (.tmp 3), (some (50, true)), [], true⟩,
 ⟨(some 54), .load none (.tmp 53), (some (50, true)), [], true⟩,
 ⟨(some 55), .call (.const (.func (.func 37) #[] #[])) [(.tmp 52), (.tmp 54)], (some (50, true)), [], true⟩,
 ⟨(some 56), .pick (.tmp 50) (.tmp 55) (.const (.bool false)), none, [], true⟩,
 ⟨(some 4), .move (.tmp 56), none, [], true⟩])
 .ret)))) }
theorem ir22_eq : funcC Tryd.prog 22 = some ir22 := by kernel_rfl
/-- wagonway/wagonwaylaw07.hello -/
def ir24 : IFunc :=
{ ntmps := 3, results := [.cell 0 (some 15)], body :=
 (.seq (.region [
 ⟨(some 0), .box (.const (.agg #[(.int .i64 0), (.int .i64 0), (.int .u32 0), (.int .u32 0), (.int .u32 0), (.int .u32 0), (.int .i64 0), (.int .i64 0), (.int .u32 0), (.int .u64 0), (.int .i64 0), (.int .i64 0), (.int .i64 0), (.int .i64 0), (.slice none 0 0)])), none, [], true⟩])
 (.seq (.region [
 ⟨(some 1), .build [(.int .i64 0), (.int .i64 0), (.int .u32 0), (.int .u64 0), (.int .i64 0), (.int .i64 0), (.int .i64 0), (.int .i64 0), (.slice none 0 0)] [(0, 1, (.const (.int .i64 9)))], none, [], true⟩,
 ⟨(some 2), .build [(.int .i64 0), (.int .i64 0), (.int .u32 0), (.int .u32 0), (.int .u32 0), (.int .u32 0), (.int .i64 0), (.int .i64 0), (.int .u32 0), (.int .u64 0), (.int .i64 0), (.int .i64 0), (.int .i64 0), (.int .i64 0), (.slice none 0 0)] [(0, 1, (.const (.int .i64 1))), (1, 1, (.const (.int .i64 2))), (2, 1, (.const (.int .u32 1))), (6, 9, (.tmp 1))], none, [], true⟩,
 ⟨none, .store 15 (.tmp 0) (.tmp 2), none, [], true⟩])
 .ret)) }
theorem ir24_eq : funcC Tryd.prog 24 = some ir24 := by kernel_rfl
/-- wagonway/wagonwayref07.names -/
def ir25 : IFunc :=
{ ntmps := 21, results := [.tmp 2], body :=
 (.seq (.region [
 ⟨(some 2), .move (.const (.string ⟨#[]⟩)), none, [], true⟩])
 (.seq (.seq (.region [
 ⟨(some 3), .move (.tmp 0), none, [], true⟩])
 (.block 0 (.seq (.region [
 ⟨(some 5), .bin .eql (.tmp 3) (.const (.int .i64 1)), none, [], true⟩,
 ⟨(some 4), .move (.tmp 5), none, [], true⟩])
 (.cond (.tmp 4)
 (.seq (.region [
 ⟨(some 2), .move (.const (.string ⟨#[99, 115, 112]⟩)), none, [], true⟩])
 .ret)
 (.seq (.region [
 ⟨(some 7), .bin .eql (.tmp 3) (.const (.int .i64 2)), none, [], true⟩,
 ⟨(some 6), .move (.tmp 7), none, [], true⟩])
 (.cond (.tmp 6)
 (.seq (.region [
 ⟨(some 2), .move (.const (.string ⟨#[99, 103, 115]⟩)), none, [], true⟩])
 .ret)
 (.seq (.seq (.region [
 ⟨(some 9), .bin .eql (.tmp 3) (.const (.int .i64 3)), none, [], true⟩,
 ⟨(some 8), .move (.tmp 9), none, [], true⟩])
 (.cond (.tmp 8)
 .skip
 (.region [
 ⟨(some 10), .bin .eql (.tmp 3) (.const (.int .i64 10)), none, [], true⟩,
 ⟨(some 8), .move (.tmp 10), none, [], true⟩])))
 (.cond (.tmp 8)
 (.seq (.region [
 ⟨(some 2), .move (.const (.string ⟨#[99, 103]⟩)), none, [], true⟩])
 .ret)
 (.seq (.region [
 ⟨(some 12), .bin .eql (.tmp 3) (.const (.int .i64 5)), none, [], true⟩,
 ⟨(some 11), .move (.tmp 12), none, [], true⟩])
 (.cond (.tmp 11)
 (.seq (.region [
 ⟨(some 2), .move (.const (.string ⟨#[99, 115, 119]⟩)), none, [], true⟩])
 .ret)
 (.seq (.region [
 ⟨(some 14), .bin .eql (.tmp 3) (.const (.int .i64 6)), none, [], true⟩,
 ⟨(some 13), .move (.tmp 14), none, [], true⟩])
 (.cond (.tmp 13)
 (.seq (.region [
 ⟨(some 2), .move (.const (.string ⟨#[99, 111, 119, 112, 104]⟩)), none, [], true⟩])
 .ret)
 (.seq (.region [
 ⟨(some 16), .bin .eql (.tmp 3) (.const (.int .i64 7)), none, [], true⟩,
 ⟨(some 15), .move (.tmp 16), none, [], true⟩])
 (.cond (.tmp 15)
 (.seq (.region [
 ⟨(some 2), .move (.const (.string ⟨#[111, 119]⟩)), none, [], true⟩])
 .ret)
 (.seq (.region [
 ⟨(some 18), .bin .eql (.tmp 3) (.const (.int .i64 8)), none, [], true⟩,
 ⟨(some 17), .move (.tmp 18), none, [], true⟩])
 (.cond (.tmp 17)
 (.seq (.region [
 ⟨(some 2), .move (.const (.string ⟨#[99, 112]⟩)), none, [], true⟩])
 .ret)
 (.seq (.region [
 ⟨(some 20), .bin .eql (.tmp 3) (.const (.int .i64 11)), none, [], true⟩,
 ⟨(some 19), .move (.tmp 20), none, [], true⟩])
 (.cond (.tmp 19)
 (.seq (.region [
 ⟨(some 2), .move (.const (.string ⟨#[108]⟩)), none, [], true⟩])
 .ret)
 .skip))))))))))))))))))
 (.seq (.region [
 ⟨(some 2), .move (.const (.string ⟨#[]⟩)), none, [], true⟩])
 .ret))) }
theorem ir25_eq : funcC Tryd.prog 25 = some ir25 := by kernel_rfl
/-- wagonway/wagonwayref07.has -/
def ir26 : IFunc :=
{ ntmps := 17, results := [.tmp 4], body :=
 (.seq (.region [
 ⟨(some 4), .move (.const (.bool false)), none, [], true⟩])
 (.seq (.seq (.region [
 ⟨(some 5), .move (.const (.int .i64 0)), none, [], true⟩])
 (.block 0 (.loop (.seq (.seq (.region [
 ⟨(some 6), .move (.tmp 5), none, [], true⟩,
 ⟨(some 7), .move (.tmp 0), none, [], true⟩,
 ⟨(some 8), .lenStr (.tmp 7), none, [], true⟩,
 ⟨(some 9), .bin .lss (.tmp 6) (.tmp 8), none, [], true⟩])
 (.cond (.tmp 9)
 .skip
 (.exit 0)))
 (.seq (.block 1 (.seq (.region [
 ⟨(some 12), .move (.tmp 0), none, [], true⟩,
 ⟨(some 13), .move (.tmp 5), none, [], true⟩,
 ⟨(some 14), .indexStr (.tmp 12) (.tmp 13), none, [], true⟩,
 ⟨(some 15), .move (.tmp 1), none, [], true⟩,
 ⟨(some 16), .bin .eql (.tmp 14) (.tmp 15), none, [], true⟩])
 (.cond (.tmp 16)
 (.seq (.region [
 ⟨(some 4), .move (.const (.bool true)), none, [], true⟩])
 .ret)
 .skip)))
 (.region [
 ⟨(some 10), .move (.tmp 5), none, [], true⟩,
 ⟨(some 11), .bin .add (.tmp 10) (.const (.int .i64 1)), none, [], true⟩,
 ⟨(some 5), .move (.tmp 11), none, [], true⟩]))))))
 (.seq (.region [
 ⟨(some 4), .move (.const (.bool false)), none, [], true⟩])
 .ret))) }
theorem ir26_eq : funcC Tryd.prog 26 = some ir26 := by kernel_rfl
/-- wagonway/wire.in -/
def ir27 : IFunc :=
{ ntmps := 15, results := [.tmp 6], body :=
 (.seq (.region [
 ⟨(some 6), .move (.const (.bool false)), none, [], true⟩])
 (.seq (.region [
 ⟨(some 7), .move (.tmp 0), none, [], true⟩,
 ⟨(some 8), .move (.tmp 1), none, [], true⟩,
 ⟨(some 9), .bin .geq (.tmp 7) (.tmp 8), none, [], true⟩,
 ⟨(some 10), .move (.tmp 9), none, [], true⟩,
 ⟨(some 11), .move (.tmp 0), (some (10, true)), [], true⟩,
 ⟨(some 12), .move (.tmp 2), (some (10, true)), [], true⟩,
 ⟨(some 13), .bin .leq (.tmp 11) (.tmp 12), (some (10, true)), [], true⟩,
 ⟨(some 14), .pick (.tmp 10) (.tmp 13) (.const (.bool false)), none, [], true⟩,
 ⟨(some 6), .move (.tmp 14), none, [], true⟩])
 .ret)) }
theorem ir27_eq : funcC Tryd.prog 27 = some ir27 := by kernel_rfl
/-- wagonway/wire.only -/
def ir28 : IFunc :=
{ ntmps := 54, results := [.cell 2 (some 9)], body :=
 (.seq (.region [
 ⟨(some 1), .box (.tmp 0), none, [], true⟩,
 ⟨(some 2), .box (.const (.agg #[(.int .i64 0), (.int .i64 0), (.int .u32 0), (.int .u64 0), (.int .i64 0), (.int .i64 0), (.int .i64 0), (.int .i64 0), (.slice none 0 0)])), none, [], true⟩])
 (.seq (.region [
 ⟨(some 5), .fieldAddr 0 (.tmp 1), none, [], true⟩,
 ⟨(some 6), .load none (.tmp 5), none, [], true⟩,
 ⟨(some 7), .build [(.int .i64 0), (.int .i64 0), (.int .u32 0), (.int .u64 0), (.int .i64 0), (.int .i64 0), (.int .i64 0), (.int .i64 0), (.slice none 0 0)] [(0, 1, (.tmp 6))], none, [], true⟩,
 ⟨(some 3), .box (.const (.agg #[(.int .i64 0), (.int .i64 0), (.int .u32 0), (.int .u64 0), (.int .i64 0), (.int .i64 0), (.int .i64 0), (.int .i64 0), (.slice none 0 0)])), none, [], true⟩,
 ⟨none, .store 9 (.tmp 3) (.tmp 7), none, [], true⟩])
 (.seq (.seq (.region [
 ⟨(some 8), .fieldAddr 0 (.tmp 1), none, [], true⟩,
 ⟨(some 9), .load none (.tmp 8), none, [], true⟩,
 ⟨(some 10), .call (.const (.func (.func 38) #[] #[])) [(.tmp 9)], none, [], true⟩])
 (.block 0 (.rangeFunc (.tmp 10) [11]
 (.region [
 ⟨(some 4), .move (.tmp 11), none, [], true⟩])
 (.block 1 (.seq (.region [
 ⟨(some 12), .move (.tmp 4), none, [], true⟩])
 (.block 2 (.seq (.region [
 ⟨(some 14), .bin .eql (.tmp 12) (.const (.int .i64 1)), none, [], true⟩,
 ⟨(some 13), .move (.tmp 14), none, [], true⟩])
 (.cond (.tmp 13)
 (.region [
 ⟨(some 15), .fieldAddr 1 (.tmp 1), none, [], true⟩,
 ⟨(some 16), .load none (.tmp 15), none, [], true⟩,
 ⟨(some 17), .fieldAddr 1 (.tmp 3), none, [], true⟩,
 ⟨none, .store 1 (.tmp 17) (.tmp 16), none, [], true⟩])
 (.seq (.region [
 ⟨(some 19), .bin .eql (.tmp 12) (.const (.int .i64 2)), none, [], true⟩,
 ⟨(some 18), .move (.tmp 19), none, [], true⟩])
 (.cond (.tmp 18)
 (.region [
 ⟨(some 20), .fieldAddr 2 (.tmp 1), none, [], true⟩,
 ⟨(some 21), .load none (.tmp 20), none, [], true⟩,
 ⟨(some 22), .fieldAddr 2 (.tmp 3), none, [], true⟩,
 ⟨none, .store 1 (.tmp 22) (.tmp 21), none, [], true⟩])
 (.seq (.region [
 ⟨(some 24), .bin .eql (.tmp 12) (.const (.int .i64 3)), none, [], true⟩,
 ⟨(some 23), .move (.tmp 24), none, [], true⟩])
 (.cond (.tmp 23)
 (.region [
 ⟨(some 25), .fieldAddr 3 (.tmp 1), none, [], true⟩,
 ⟨(some 26), .load none (.tmp 25), none, [], true⟩,
 ⟨(some 27), .fieldAddr 3 (.tmp 3), none, [], true⟩,
 ⟨none, .store 1 (.tmp 27) (.tmp 26), none, [], true⟩])
 (.seq (.region [
 ⟨(some 29), .bin .eql (.tmp 12) (.const (.int .i64 4)), none, [], true⟩,
 ⟨(some 28), .move (.tmp 29), none, [], true⟩])
 (.cond (.tmp 28)
 (.region [
 ⟨(some 30), .fieldAddr 4 (.tmp 1), none, [], true⟩,
 ⟨(some 31), .load none (.tmp 30), none, [], true⟩,
 ⟨(some 32), .fieldAddr 4 (.tmp 3), none, [], true⟩,
 ⟨none, .store 1 (.tmp 32) (.tmp 31), none, [], true⟩])
 (.seq (.region [
 ⟨(some 34), .bin .eql (.tmp 12) (.const (.int .i64 5)), none, [], true⟩,
 ⟨(some 33), .move (.tmp 34), none, [], true⟩])
 (.cond (.tmp 33)
 (.region [
 ⟨(some 35), .fieldAddr 5 (.tmp 1), none, [], true⟩,
 ⟨(some 36), .load none (.tmp 35), none, [], true⟩,
 ⟨(some 37), .fieldAddr 5 (.tmp 3), none, [], true⟩,
 ⟨none, .store 1 (.tmp 37) (.tmp 36), none, [], true⟩])
 (.seq (.region [
 ⟨(some 39), .bin .eql (.tmp 12) (.const (.int .i64 6)), none, [], true⟩,
 ⟨(some 38), .move (.tmp 39), none, [], true⟩])
 (.cond (.tmp 38)
 (.region [
 ⟨(some 40), .fieldAddr 6 (.tmp 1), none, [], true⟩,
 ⟨(some 41), .load none (.tmp 40), none, [], true⟩,
 ⟨(some 42), .fieldAddr 6 (.tmp 3), none, [], true⟩,
 ⟨none, .store 1 (.tmp 42) (.tmp 41), none, [], true⟩])
 (.seq (.region [
 ⟨(some 44), .bin .eql (.tmp 12) (.const (.int .i64 7)), none, [], true⟩,
 ⟨(some 43), .move (.tmp 44), none, [], true⟩])
 (.cond (.tmp 43)
 (.region [
 ⟨(some 45), .fieldAddr 7 (.tmp 1), none, [], true⟩,
 ⟨(some 46), .load none (.tmp 45), none, [], true⟩,
 ⟨(some 47), .fieldAddr 7 (.tmp 3), none, [], true⟩,
 ⟨none, .store 1 (.tmp 47) (.tmp 46), none, [], true⟩])
 (.seq (.region [
 ⟨(some 49), .bin .eql (.tmp 12) (.const (.int .i64 8)), none, [], true⟩,
 ⟨(some 48), .move (.tmp 49), none, [], true⟩])
 (.cond (.tmp 48)
 (.region [
 ⟨(some 50), .fieldAddr 8 (.tmp 1), none, [], true⟩,
 ⟨(some 51), .load none (.tmp 50), none, [], true⟩,
 ⟨(some 52), .fieldAddr 8 (.tmp 3), none, [], true⟩,
 ⟨none, .store 1 (.tmp 52) (.tmp 51), none, [], true⟩])
 .skip))))))))))))))))))))))
 (.seq (.region [
 ⟨(some 53), .load (some 9) (.tmp 3), none, [], true⟩,
 ⟨none, .store 9 (.tmp 2) (.tmp 53), none, [], true⟩])
 .ret)))) }
theorem ir28_eq : funcC Tryd.prog 28 = some ir28 := by kernel_rfl
/-- wagonway/wire.put -/
def ir29 : IFunc :=
{ ntmps := 23, results := [.tmp 6], body :=
 (.seq (.region [
 ⟨(some 6), .move (.const (.slice none 0 0)), none, [], true⟩])
 (.seq (.seq (.region [
 ⟨(some 8), .move (.tmp 2), none, [], true⟩,
 ⟨(some 9), .bin .sub (.tmp 8) (.const (.int .i64 1)), none, [], true⟩,
 ⟨(some 7), .move (.tmp 9), none, [], true⟩])
 (.block 0 (.loop (.seq (.seq (.region [
 ⟨(some 10), .move (.tmp 7), none, [], true⟩,
 ⟨(some 11), .bin .geq (.tmp 10) (.const (.int .i64 0)), none, [], true⟩])
 (.cond (.tmp 11)
 .skip
 (.exit 0)))
 (.seq (.block 1 (.region [
 ⟨(some 14), .move (.tmp 0), none, [], true⟩,
 ⟨(some 15), .move (.tmp 1), none, [], true⟩,
 ⟨(some 16), .move (.tmp 7), none, [], true⟩,
 ⟨(some 17), .bin .mul (.const (.int .i64 8)) (.tmp 16), none, [], true⟩,
 ⟨(some 18), .bin .shr (.tmp 15) (.tmp 17), none, [], true⟩,
 ⟨(some 19), .conv .u8 (.tmp 18), none, [], true⟩,
 ⟨(some 20), .buildSlice 1 1 [(.int .u8 0)] [(0, (.tmp 19))], none, [], true⟩,
 ⟨(some 21), .append 1 1 (.tmp 14) (.tmp 20), none, [], true⟩,
 ⟨(some 0), .move (.tmp 21), none, [], true⟩]))
 (.region [
 ⟨(some 12), .move (.tmp 7), none, [], true⟩,
 ⟨(some 13), .bin .sub (.tmp 12) (.const (.int .i64 1)), none, [], true⟩,
 ⟨(some 7), .move (.tmp 13), none, [], true⟩]))))))
 (.seq (.region [
 ⟨(some 22), .move (.tmp 0), none, [], true⟩,
 ⟨(some 6), .move (.tmp 22), none, [], true⟩])
 .ret))) }
theorem ir29_eq : funcC Tryd.prog 29 = some ir29 := by kernel_rfl
/-- wagonway/wire.plain -/
def ir30 : IFunc :=
{ ntmps := 98, results := [.tmp 4], body :=
 (.seq (.region [
 ⟨(some 2), .box (.tmp 0), none, [], true⟩,
 ⟨(some 3), .box (.tmp 1), none, [], true⟩,
 ⟨(some 4), .move (.const (.slice none 0 0)), none, [], true⟩])
 (.seq (.region [
 ⟨(some 8), .load none (.tmp 2), none, [], true⟩,
 ⟨(some 9), .fieldAddr 0 (.tmp 3), none, [], true⟩,
 ⟨(some 10), .load none (.tmp 9), none, [], true⟩,
 ⟨(some 11), .conv .u8 (.tmp 10), none, [], true⟩,
 ⟨(some 12), .buildSlice 1 1 [(.int .u8 0)] [(0, (.tmp 11))], none, [], true⟩,
 ⟨(some 13), .append 1 1 (.tmp 8) (.tmp 12), none, [], true⟩,
 ⟨none, .store 1 (.tmp 2) (.tmp 13), none, [], true⟩])
 (.seq (.seq (.region [
 ⟨(some 14), .fieldAddr 0 (.tmp 3), none, [], true⟩,
 ⟨(some 15), .load none (.tmp 14), none, [], true⟩,
 ⟨(some 16), .call (.const (.func (.func 38) #[] #[])) [(.tmp 15)], none, [], true⟩])
 (.block 0 (.rangeFunc (.tmp 16) [17]
 (.region [
 ⟨(some 5), .move (.tmp 17), none, [], true⟩])
 (.block 1 (.seq (.region [
 ⟨(some 18), .move (.tmp 5), none, [], true⟩])
 (.block 2 (.seq (.region [
 ⟨(some 20), .bin .eql (.tmp 18) (.const (.int .i64 1)), none, [], true⟩,
 ⟨(some 19), .move (.tmp 20), none, [], true⟩])
 (.cond (.tmp 19)
 (.region [
 ⟨(some 21), .load none (.tmp 2), none, [], true⟩,
 ⟨(some 22), .fieldAddr 1 (.tmp 3), none, [], true⟩,
 ⟨(some 23), .load none (.tmp 22), none, [], true⟩,
 ⟨(some 24), .conv .u64 (.tmp 23), none, [], true⟩,
 ⟨(some 25), .call (.const (.func (.func 29) #[] #[])) [(.tmp 21), (.tmp 24), (.const (.int .i64 2))], none, [], true⟩,
 ⟨none, .store 1 (.tmp 2) (.tmp 25), none, [], true⟩])
 (.seq (.region [
 ⟨(some 27), .bin .eql (.tmp 18) (.const (.int .i64 2)), none, [], true⟩,
 ⟨(some 26), .move (.tmp 27), none, [], true⟩])
 (.cond (.tmp 26)
 (.region [
 ⟨(some 28), .load none (.tmp 2), none, [], true⟩,
 ⟨(some 29), .fieldAddr 2 (.tmp 3), none, [], true⟩,
 ⟨(some 30), .load none (.tmp 29), none, [], true⟩,
 ⟨(some 31), .conv .u64 (.tmp 30), none, [], true⟩,
 ⟨(some 32), .call (.const (.func (.func 29) #[] #[])) [(.tmp 28), (.tmp 31), (.const (.int .i64 4))], none, [], true⟩,
 ⟨none, .store 1 (.tmp 2) (.tmp 32), none, [], true⟩])
 (.seq (.region [
 ⟨(some 34), .bin .eql (.tmp 18) (.const (.int .i64 3)), none, [], true⟩,
 ⟨(some 33), .move (.tmp 34), none, [], true⟩])
 (.cond (.tmp 33)
 (.region [
 ⟨(some 35), .load none (.tmp 2), none, [], true⟩,
 ⟨(some 36), .fieldAddr 3 (.tmp 3), none, [], true⟩,
 ⟨(some 37), .load none (.tmp 36), none, [], true⟩,
 ⟨(some 38), .call (.const (.func (.func 29) #[] #[])) [(.tmp 35), (.tmp 37), (.const (.int .i64 8))], none, [], true⟩,
 ⟨none, .store 1 (.tmp 2) (.tmp 38), none, [], true⟩])
 (.seq (.region [
 ⟨(some 40), .bin .eql (.tmp 18) (.const (.int .i64 4)), none, [], true⟩,
 ⟨(some 39), .move (.tmp 40), none, [], true⟩])
 (.cond (.tmp 39)
 (.region [
 ⟨(some 41), .load none (.tmp 2), none, [], true⟩,
 ⟨(some 42), .fieldAddr 4 (.tmp 3), none, [], true⟩,
 ⟨(some 43), .load none (.tmp 42), none, [], true⟩,
 ⟨(some 44), .conv .u8 (.tmp 43), none, [], true⟩,
 ⟨(some 45), .buildSlice 1 1 [(.int .u8 0)] [(0, (.tmp 44))], none, [], true⟩,
 ⟨(some 46), .append 1 1 (.tmp 41) (.tmp 45), none, [], true⟩,
 ⟨none, .store 1 (.tmp 2) (.tmp 46), none, [], true⟩])
 (.seq (.region [
 ⟨(some 48), .bin .eql (.tmp 18) (.const (.int .i64 5)), none, [], true⟩,
 ⟨(some 47), .move (.tmp 48), none, [], true⟩])
 (.cond (.tmp 47)
 (.region [
 ⟨(some 49), .load none (.tmp 2), none, [], true⟩,
 ⟨(some 50), .fieldAddr 5 (.tmp 3), none, [], true⟩,
 ⟨(some 51), .load none (.tmp 50), none, [], true⟩,
 ⟨(some 52), .conv .u8 (.tmp 51), none, [], true⟩,
 ⟨(some 53), .buildSlice 1 1 [(.int .u8 0)] [(0, (.tmp 52))], none, [], true⟩,
 ⟨(some 54), .append 1 1 (.tmp 49) (.tmp 53), none, [], true⟩,
 ⟨none, .store 1 (.tmp 2) (.tmp 54), none, [], true⟩])
 (.seq (.region [
 ⟨(some 56), .bin .eql (.tmp 18) (.const (.int .i64 6)), none, [], true⟩,
 ⟨(some 55), .move (.tmp 56), none, [], true⟩])
 (.cond (.tmp 55)
 (.region [
 ⟨(some 57), .load none (.tmp 2), none, [], true⟩,
 ⟨(some 58), .fieldAddr 6 (.tmp 3), none, [], true⟩,
 ⟨(some 59), .load none (.tmp 58), none, [], true⟩,
 ⟨(some 60), .conv .u8 (.tmp 59), none, [], true⟩,
 ⟨(some 61), .buildSlice 1 1 [(.int .u8 0)] [(0, (.tmp 60))], none, [], true⟩,
 ⟨(some 62), .append 1 1 (.tmp 57) (.tmp 61), none, [], true⟩,
 ⟨none, .store 1 (.tmp 2) (.tmp 62), none, [], true⟩])
 (.seq (.region [
 ⟨(some 64), .bin .eql (.tmp 18) (.const (.int .i64 7)), none, [], true⟩,
 ⟨(some 63), .move (.tmp 64), none, [], true⟩])
 (.cond (.tmp 63)
 (.region [
 ⟨(some 65), .load none (.tmp 2), none, [], true⟩,
 ⟨(some 66), .fieldAddr 7 (.tmp 3), none, [], true⟩,
 ⟨(some 67), .load none (.tmp 66), none, [], true⟩,
 ⟨(some 68), .conv .u8 (.tmp 67), none, [], true⟩,
 ⟨(some 69), .buildSlice 1 1 [(.int .u8 0)] [(0, (.tmp 68))], none, [], true⟩,
 ⟨(some 70), .append 1 1 (.tmp 65) (.tmp 69), none, [], true⟩,
 ⟨none, .store 1 (.tmp 2) (.tmp 70), none, [], true⟩])
 (.seq (.region [
 ⟨(some 72), .bin .eql (.tmp 18) (.const (.int .i64 8)), none, [], true⟩,
 ⟨(some 71), .move (.tmp 72), none, [], true⟩])
 (.cond (.tmp 71)
 (.seq (.region [
 ⟨(some 73), .load none (.tmp 2), none, [], true⟩,
 ⟨(some 74), .fieldAddr 8 (.tmp 3), none, [], true⟩,
 ⟨(some 75), .load none (.tmp 74), none, [], true⟩,
 ⟨(some 76), .lenSlice (.tmp 75), none, [], true⟩,
 ⟨(some 77), .conv .u8 (.tmp 76), none, [], true⟩,
 ⟨(some 78), .buildSlice 1 1 [(.int .u8 0)] [(0, (.tmp 77))], none, [], true⟩,
 ⟨(some 79), .append 1 1 (.tmp 73) (.tmp 78), none, [], true⟩,
 ⟨none, .store 1 (.tmp 2) (.tmp 79), none, [], true⟩])
 (.seq (.region [
 ⟨(some 80), .fieldAddr 8 (.tmp 3), none, [], true⟩,
 ⟨(some 81), .load none (.tmp 80), none, [], true⟩,
 ⟨(some 82), .lenSlice (.tmp 81), none, [], true⟩,
 ⟨(some 83), .move (.const (.int .i64 0)), none, [], true⟩])
 (.block 3 (.loop (.seq (.region [
 ⟨(some 84), .bin .lss (.tmp 83) (.tmp 82), none, [], true⟩])
 (.seq (.cond (.tmp 84)
 .skip
 (.exit 3))
 (.seq (.block 4 (.seq (.region [
 ⟨(some 85), .indexAddr 2 (.tmp 81) (.tmp 83), none, [], true⟩,
 ⟨(some 86), .load (some 2) (.tmp 85), none, [], true⟩,
 ⟨(some 7), .box (.const (.agg #[(.int .i64 0), (.int .u32 0)])), none, [], true⟩,
 ⟨none, .store 2 (.tmp 7) (.tmp 86), none, [], true⟩])
 (.drawn [
 ⟨(some 87), .load none (.tmp 2), none, [], false⟩,
 ⟨(some 88), .fieldAddr 0 (.tmp 7), none, [], false⟩,
 ⟨(some 89), .load none (.tmp 88), none, [1], false⟩,
 ⟨(some 90), .conv .u64 (.tmp 89), none, [2, 1], false⟩,
 ⟨(some 91), .call (.const (.func (.func 29) #[] #[])) [(.tmp 87), (.tmp 90), (.const (.int .i64 2))], none, [0, 3, 2, 1], false⟩,
 ⟨(some 92), .fieldAddr 1 (.tmp 7), none, [], false⟩,
 ⟨(some 93), .load none (.tmp 92), none, [5], false⟩,
 ⟨(some 94), .conv .u64 (.tmp 93), none, [6, 5], false⟩,
 ⟨(some 95), .call (.const (.func (.func 29) #[] #[])) [(.tmp 91), (.tmp 94), (.const (.int .i64 4))], none, [4, 7, 0, 3, 2, 1, 6, 5], true⟩,
 ⟨none, .store 1 (.tmp 2) (.tmp 95), none, [8, 0, 1, 2, 3, 4, 5, 6, 7], true⟩])))
 (.region [
 ⟨(some 96), .bin .add (.tmp 83) (.const (.int .i64 1)), none, [], true⟩,
 ⟨(some 83), .move (.tmp 96), none, [], true⟩]))))))))
 .skip))))))))))))))))))))))
 (.seq (.region [
 ⟨(some 97), .load none (.tmp 2), none, [], true⟩,
 ⟨(some 4), .move (.tmp 97), none, [], true⟩])
 .ret)))) }
theorem ir30_eq : funcC Tryd.prog 30 = some ir30 := by kernel_rfl
/-- wagonway/wagonwayref07.number -/
def ir31 : IFunc :=
{ ntmps := 24, results := [.tmp 4], body :=
 (.seq (.region [
 ⟨(some 4), .move (.const (.slice none 0 0)), none, [], true⟩])
 (.seq (.region [
 ⟨(some 7), .move (.tmp 1), none, [], true⟩,
 ⟨(some 8), .makeSlice 1 1 [(.int .u8 0)] (.tmp 7) (.tmp 7), none, [], true⟩,
 ⟨(some 5), .move (.tmp 8), none, [], true⟩])
 (.seq (.seq (.region [
 ⟨(some 9), .move (.tmp 1), none, [], true⟩,
 ⟨(some 10), .bin .sub (.tmp 9) (.const (.int .i64 1)), none, [], true⟩,
 ⟨(some 6), .move (.tmp 10), none, [], true⟩])
 (.block 0 (.loop (.seq (.seq (.region [
 ⟨(some 11), .move (.tmp 6), none, [], true⟩,
 ⟨(some 12), .bin .geq (.tmp 11) (.const (.int .i64 0)), none, [], true⟩])
 (.cond (.tmp 12)
 .skip
 (.exit 0)))
 (.seq (.block 1 (.seq (.region [
 ⟨(some 15), .move (.tmp 5), none, [], true⟩,
 ⟨(some 16), .move (.tmp 6), none, [], true⟩,
 ⟨(some 17), .move (.tmp 0), none, [], true⟩,
 ⟨(some 18), .bin .rem (.tmp 17) (.const (.int .u64 256)), none, [], true⟩,
 ⟨(some 19), .conv .u8 (.tmp 18), none, [], true⟩,
 ⟨(some 20), .indexAddr 1 (.tmp 15) (.tmp 16), none, [], true⟩,
 ⟨none, .store 1 (.tmp 20) (.tmp 19), none, [], true⟩])
 (.region [
 ⟨(some 21), .move (.tmp 0), none, [], true⟩,
 ⟨(some 22), .bin .quo (.tmp 21) (.const (.int .u64 256)), none, [], true⟩,
 ⟨(some 0), .move (.tmp 22), none, [], true⟩])))
 (.region [
 ⟨(some 13), .move (.tmp 6), none, [], true⟩,
 ⟨(some 14), .bin .sub (.tmp 13) (.const (.int .i64 1)), none, [], true⟩,
 ⟨(some 6), .move (.tmp 14), none, [], true⟩]))))))
 (.seq (.region [
 ⟨(some 23), .move (.tmp 5), none, [], true⟩,
 ⟨(some 4), .move (.tmp 23), none, [], true⟩])
 .ret)))) }
theorem ir31_eq : funcC Tryd.prog 31 = some ir31 := by kernel_rfl
/-- slices.Equal[[]int,int] -/
def ir36 : IFunc :=
{ ntmps := 26, results := [.tmp 4], body :=
 (.seq (.region [
 ⟨(some 4), .move (.const (.bool false)), none, [], true⟩])
 (.seq (.seq (.region [
 ⟨(some 6), .move (.tmp 0), none, [], true⟩,
 ⟨(some 7), .lenSlice (.tmp 6), none, [], true⟩,
 ⟨(some 8), .move (.tmp 1), none, [], true⟩,
 ⟨(some 9), .lenSlice (.tmp 8), none, [], true⟩,
 ⟨(some 10), .bin .neq (.tmp 7) (.tmp 9), none, [], true⟩])
 (.cond (.tmp 10)
 (.seq (.region [
 ⟨(some 4), .move (.const (.bool false)), none, [], true⟩])
 .ret)
 .skip))
 (.seq (.seq (.region [
 ⟨(some 11), .move (.tmp 0), none, [], true⟩,
 ⟨(some 12), .lenSlice (.tmp 11), none, [], true⟩,
 ⟨(some 13), .move (.const (.int .i64 0)), none, [], true⟩])
 (.block 0 (.loop (.seq (.region [
 ⟨(some 14), .bin .lss (.tmp 13) (.tmp 12), none, [], true⟩])
 (.seq (.cond (.tmp 14)
 .skip
 (.exit 0))
 (.seq (.block 1 (.seq (.region [
 ⟨(some 15), .move (.tmp 13), none, [], true⟩,
 ⟨(some 5), .move (.tmp 15), none, [], true⟩])
 (.seq (.drawn [
 ⟨(some 16), .move (.tmp 0), none, [], false⟩,
 ⟨(some 17), .move (.tmp 5), none, [], false⟩,
 ⟨(some 18), .indexAddr 1 (.tmp 16) (.tmp 17), none, [0, 1], false⟩,
 ⟨(some 19), .load none (.tmp 18), none, [2, 0, 1], false⟩,
 ⟨(some 20), .move (.tmp 1), none, [], false⟩,
 ⟨(some 21), .move (.tmp 5), none, [], false⟩,
 ⟨(some 22), .indexAddr 1 (.tmp 20) (.tmp 21), none, [4, 5], false⟩,
 ⟨(some 23), .load none (.tmp 22), none, [6, 4, 5], false⟩,
 ⟨(some 24), .bin .neq (.tmp 19) (.tmp 23), none, [3, 7, 2, 0, 1, 6, 4, 5], true⟩])
 (.cond (.tmp 24)
 (.seq (.region [
 ⟨(some 4), .move (.const (.bool false)), none, [], true⟩])
 .ret)
 .skip))))
 (.region [
 ⟨(some 25), .bin .add (.tmp 13) (.const (.int .i64 1)), none, [], true⟩,
 ⟨(some 13), .move (.tmp 25), none, [], true⟩])))))))
 (.seq (.region [
 ⟨(some 4), .move (.const (.bool true)), none, [], true⟩])
 .ret)))) }
theorem ir36_eq : funcC Tryd.prog 36 = some ir36 := by kernel_rfl
/-- slices.Equal[[]wagonway/api.Claim,wagonway/api.Claim] -/
def ir37 : IFunc :=
{ ntmps := 26, results := [.tmp 4], body :=
 (.seq (.region [
 ⟨(some 4), .move (.const (.bool false)), none, [], true⟩])
 (.seq (.seq (.region [
 ⟨(some 6), .move (.tmp 0), none, [], true⟩,
 ⟨(some 7), .lenSlice (.tmp 6), none, [], true⟩,
 ⟨(some 8), .move (.tmp 1), none, [], true⟩,
 ⟨(some 9), .lenSlice (.tmp 8), none, [], true⟩,
 ⟨(some 10), .bin .neq (.tmp 7) (.tmp 9), none, [], true⟩])
 (.cond (.tmp 10)
 (.seq (.region [
 ⟨(some 4), .move (.const (.bool false)), none, [], true⟩])
 .ret)
 .skip))
 (.seq (.seq (.region [
 ⟨(some 11), .move (.tmp 0), none, [], true⟩,
 ⟨(some 12), .lenSlice (.tmp 11), none, [], true⟩,
 ⟨(some 13), .move (.const (.int .i64 0)), none, [], true⟩])
 (.block 0 (.loop (.seq (.region [
 ⟨(some 14), .bin .lss (.tmp 13) (.tmp 12), none, [], true⟩])
 (.seq (.cond (.tmp 14)
 .skip
 (.exit 0))
 (.seq (.block 1 (.seq (.region [
 ⟨(some 15), .move (.tmp 13), none, [], true⟩,
 ⟨(some 5), .move (.tmp 15), none, [], true⟩])
 (.seq (.drawn [
 ⟨(some 16), .move (.tmp 0), none, [], false⟩,
 ⟨(some 17), .move (.tmp 5), none, [], false⟩,
 ⟨(some 18), .indexAddr 2 (.tmp 16) (.tmp 17), none, [0, 1], false⟩,
 ⟨(some 19), .load (some 2) (.tmp 18), none, [2, 0, 1], false⟩,
 ⟨(some 20), .move (.tmp 1), none, [], false⟩,
 ⟨(some 21), .move (.tmp 5), none, [], false⟩,
 ⟨(some 22), .indexAddr 2 (.tmp 20) (.tmp 21), none, [4, 5], false⟩,
 ⟨(some 23), .load (some 2) (.tmp 22), none, [6, 4, 5], false⟩,
 ⟨(some 24), .eqAgg true [.int, .int] (.tmp 19) (.tmp 23), none, [3, 7, 2, 0, 1, 6, 4, 5], true⟩])
 (.cond (.tmp 24)
 (.seq (.region [
 ⟨(some 4), .move (.const (.bool false)), none, [], true⟩])
 .ret)
 .skip))))
 (.region [
 ⟨(some 25), .bin .add (.tmp 13) (.const (.int .i64 1)), none, [], true⟩,
 ⟨(some 13), .move (.tmp 25), none, [], true⟩])))))))
 (.seq (.region [
 ⟨(some 4), .move (.const (.bool true)), none, [], true⟩])
 .ret)))) }
theorem ir37_eq : funcC Tryd.prog 37 = some ir37 := by kernel_rfl
/-- wagonway/wire.fields -/
def ir38 : IFunc :=
{ ntmps := 4, results := [.tmp 2], body :=
 (.seq (.region [
 ⟨(some 1), .box (.tmp 0), none, [], true⟩,
 ⟨(some 2), .move (.const .nilFunc), none, [], true⟩])
 (.seq (.region [
 ⟨(some 3), .func (.func 41) [] [(.tmp 1)], none, [], true⟩,
 ⟨(some 2), .move (.tmp 3), none, [], true⟩])
 .ret)) }
theorem ir38_eq : funcC Tryd.prog 38 = some ir38 := by kernel_rfl
/-- wagonway/wire.fields$1 -/
def ir41 : IFunc :=
{ ntmps := 22, results := [], body :=
 (.seq .skip
 (.seq (.region [
 ⟨(some 5), .load none (.tmp 1), none, [], true⟩,
 ⟨(some 6), .bin .sub (.tmp 5) (.const (.int .i64 1)), none, [], true⟩,
 ⟨(some 7), .indexAddrArr 11 6 (.const (.pointer (some ⟨1, 0, none⟩))) (.tmp 6), none, [], true⟩,
 ⟨(some 8), .fieldAddr 1 (.tmp 7), none, [], true⟩,
 ⟨(some 9), .load (some 5) (.tmp 8), none, [], true⟩,
 ⟨(some 10), .move (.const (.int .i64 0)), none, [], true⟩])
 (.block 0 (.loop (.seq (.region [
 ⟨(some 11), .bin .lss (.tmp 10) (.const (.int .i64 5)), none, [], true⟩])
 (.seq (.cond (.tmp 11)
 .skip
 (.exit 0))
 (.seq (.block 1 (.seq (.region [
 ⟨(some 12), .indexAgg 5 1 none (.tmp 9) (.tmp 10), none, [], true⟩,
 ⟨(some 4), .move (.tmp 12), none, [], true⟩])
 (.seq (.region [
 ⟨(some 13), .move (.tmp 4), none, [], true⟩,
 ⟨(some 14), .bin .eql (.tmp 13) (.const (.int .i64 0)), none, [], true⟩,
 ⟨(some 15), .move (.tmp 14), none, [], true⟩,
 ⟨(some 16), .move (.tmp 0), (some (15, false)), [], true⟩,
 ⟨(some 17), .move (.tmp 4), (some (15, false)), [], true⟩,
 ⟨(some 18), .call (.tmp 16) [(.tmp 17)], (some (15, false)), [], true⟩,
 ⟨(some 19), .un .not (.tmp 18), (some (15, false)), [], true⟩,
 ⟨(some 20), .pick (.tmp 15) (.const (.bool true)) (.tmp 19), none, [], true⟩])
 (.cond (.tmp 20)
 (.exit 0)
 .skip))))
 (.region [
 ⟨(some 21), .bin .add (.tmp 10) (.const (.int .i64 1)), none, [], true⟩,
 ⟨(some 10), .move (.tmp 21), none, [], true⟩])))))))) }
theorem ir41_eq : funcC Tryd.prog 41 = some ir41 := by kernel_rfl
def table : List (Option IFunc) :=
  [none, none, none, some ir3, none, none, none, none, none, some ir9, some ir10, some ir11, some ir12, some ir13, some ir14, some ir15, some ir16, none, none, none, none, some ir21, some ir22, none, some ir24, some ir25, some ir26, some ir27, some ir28, some ir29, some ir30, some ir31, none, none, none, none, some ir36, some ir37, some ir38, none, none, some ir41, none]
def env : Env := fun g => (table[g]?).join
theorem env_ok : ∀ g F, env g = some F → funcC Tryd.prog g = some F := by
  intro g F h
  match g with
  | 0 => cases h
  | 1 => cases h
  | 2 => cases h
  | 3 => cases h; exact ir3_eq
  | 4 => cases h
  | 5 => cases h
  | 6 => cases h
  | 7 => cases h
  | 8 => cases h
  | 9 => cases h; exact ir9_eq
  | 10 => cases h; exact ir10_eq
  | 11 => cases h; exact ir11_eq
  | 12 => cases h; exact ir12_eq
  | 13 => cases h; exact ir13_eq
  | 14 => cases h; exact ir14_eq
  | 15 => cases h; exact ir15_eq
  | 16 => cases h; exact ir16_eq
  | 17 => cases h
  | 18 => cases h
  | 19 => cases h
  | 20 => cases h
  | 21 => cases h; exact ir21_eq
  | 22 => cases h; exact ir22_eq
  | 23 => cases h
  | 24 => cases h; exact ir24_eq
  | 25 => cases h; exact ir25_eq
  | 26 => cases h; exact ir26_eq
  | 27 => cases h; exact ir27_eq
  | 28 => cases h; exact ir28_eq
  | 29 => cases h; exact ir29_eq
  | 30 => cases h; exact ir30_eq
  | 31 => cases h; exact ir31_eq
  | 32 => cases h
  | 33 => cases h
  | 34 => cases h
  | 35 => cases h
  | 36 => cases h; exact ir36_eq
  | 37 => cases h; exact ir37_eq
  | 38 => cases h; exact ir38_eq
  | 39 => cases h
  | 40 => cases h
  | 41 => cases h; exact ir41_eq
  | 42 => cases h
  | g + 43 => simp [env, table] at h
end Go.Proofs.YtpodmgbnldmlcaaDoor
