import Derived.Test.YtmpnldmdchchjaaChecked
import Derived.Test.YtmpnldmdchchjaaFa
import Derived.KernelRfl
namespace Go.Proofs.Ytmpnldmdchchjaa
open Go Go.Ideal
def ir3 : IFunc :=
{ ntmps := 236, results := [.tmp 4], body :=
(.seq (.region [
⟨some 2, .box (.tmp 0), none, [], true⟩,
⟨some 4, .move (.const (.bool false)), none, [], true⟩])
(.seq (.region [
⟨some 22, .call (.const (.func (.func 9) #[] #[])) [], none, [], true⟩,
⟨some 5, .move (.tmp 22), none, [], true⟩])
(.seq (.seq (.region [
⟨some 23, .move (.tmp 1), none, [], true⟩,
⟨some 24, .call (.const (.func (.func 10) #[] #[])) [(.tmp 23)], none, [], true⟩,
⟨some 25, .bin .gtr (.tmp 24) (.const (.int .i64 0)), none, [], true⟩,
⟨some 26, .move (.tmp 25), none, [], true⟩,
⟨some 27, .move (.tmp 5), (some (26, false)), [], true⟩,
⟨some 28, .un .not (.tmp 27), (some (26, false)), [], true⟩,
⟨some 29, .pick (.tmp 26) (.const (.bool true)) (.tmp 28), none, [], true⟩])
(.cond (.tmp 29)
(.seq (.region [
⟨some 30, .move (.tmp 5), none, [], true⟩,
⟨some 4, .move (.tmp 30), none, [], true⟩])
.ret)
.skip))
(.seq (.region [
⟨some 32, .fieldAddr 0 (.tmp 2), none, [], true⟩,
⟨some 33, .load none (.tmp 32), none, [], true⟩,
⟨some 34, .fieldAddr 1 (.tmp 2), none, [], true⟩,
⟨some 35, .load none (.tmp 34), none, [], true⟩,
⟨some 36, .fieldAddr 2 (.tmp 2), none, [], true⟩,
⟨some 37, .load none (.tmp 36), none, [], true⟩,
⟨some 38, .call (.const (.func (.func 11) #[] #[])) [(.tmp 33), (.tmp 35), (.tmp 37)], none, [], true⟩,
⟨some 31, .move (.tmp 38), none, [], true⟩,
⟨some 39, .extract (.tmp 31) 0, none, [], true⟩,
⟨some 40, .extract (.tmp 31) 1, none, [], true⟩,
⟨some 6, .move (.tmp 39), none, [], true⟩,
⟨some 7, .move (.tmp 40), none, [], true⟩])
(.seq (.seq (.region [
⟨some 41, .move (.tmp 7), none, [], true⟩,
⟨some 42, .bin .neq (.tmp 41) (.const (.int .i64 0)), none, [], true⟩])
(.cond (.tmp 42)
(.seq (.region [
⟨some 43, .move (.tmp 5), none, [], true⟩,
⟨some 44, .move (.tmp 43), none, [], true⟩,
⟨some 45, .move (.tmp 6), (some (44, true)), [], true⟩,
⟨some 46, .eqPtr false (.tmp 45) (.const (.pointer none)), (some (44, true)), [], true⟩,
⟨some 47, .pick (.tmp 44) (.tmp 46) (.const (.bool false)), none, [], true⟩,
⟨some 4, .move (.tmp 47), none, [], true⟩])
.ret)
.skip))
(.seq (.region [
⟨some 48, .fieldAddr 2 (.tmp 2), none, [], true⟩,
⟨some 49, .load none (.tmp 48), none, [], true⟩,
⟨some 50, .makeSlice 1 16 [(.string ⟨#[]⟩)] (.tmp 49) (.tmp 49), none, [], true⟩,
⟨some 8, .move (.tmp 50), none, [], true⟩])
(.seq (.seq (.region [
⟨some 9, .move (.const (.int .i64 0)), none, [], true⟩])
(.block 0 (.loop (.seq (.seq (.region [
⟨some 51, .move (.tmp 9), none, [], true⟩,
⟨some 52, .move (.tmp 1), none, [], true⟩,
⟨some 53, .lenSlice (.tmp 52), none, [], true⟩,
⟨some 54, .bin .lss (.tmp 51) (.tmp 53), none, [], true⟩])
(.cond (.tmp 54)
.skip
(.exit 0)))
(.seq (.block 1 (.seq (.region [
⟨some 10, .box (.const (.agg #[(.slice none 0 0), (.slice none 0 0), (.slice none 0 0)])), none, [], true⟩])
(.seq (.region [
⟨some 57, .move (.tmp 1), none, [], true⟩,
⟨some 58, .move (.tmp 9), none, [], true⟩,
⟨some 59, .indexAddr 7 (.tmp 57) (.tmp 58), none, [], true⟩,
⟨some 60, .load (some 7) (.tmp 59), none, [], true⟩,
⟨some 11, .box (.const (.agg #[(.int .i64 0), (.int .i64 0), (.int .i64 0), (.int .u32 0), (.int .u64 0), (.int .i64 0), (.slice none 0 0)])), none, [], true⟩,
⟨none, .store 7 (.tmp 11) (.tmp 60), none, [], true⟩])
(.seq (.seq (.region [
⟨some 61, .fieldAddr 0 (.tmp 11), none, [], true⟩,
⟨some 62, .load none (.tmp 61), none, [], true⟩])
(.block 2 (.seq (.region [
⟨some 64, .bin .eql (.tmp 62) (.const (.int .i64 0)), none, [], true⟩,
⟨some 63, .move (.tmp 64), none, [], true⟩])
(.cond (.tmp 63)
(.seq (.region [
⟨some 66, .move (.tmp 6), none, [], true⟩,
⟨some 67, .fieldAddr 2 (.tmp 11), none, [], true⟩,
⟨some 68, .load none (.tmp 67), none, [], true⟩,
⟨some 69, .fieldAddr 1 (.tmp 11), none, [], true⟩,
⟨some 70, .load none (.tmp 69), none, [], true⟩,
⟨some 71, .call (.const (.func (.func 12) #[] #[])) [(.tmp 66), (.tmp 68), (.tmp 70)], none, [], true⟩,
⟨some 65, .move (.tmp 71), none, [], true⟩,
⟨some 72, .extract (.tmp 65) 0, none, [], true⟩,
⟨some 73, .extract (.tmp 65) 1, none, [], true⟩,
⟨some 12, .box (.const (.agg #[(.int .i64 0), (.int .i64 0), (.slice none 0 0)])), none, [], true⟩,
⟨none, .store 3 (.tmp 12) (.tmp 72), none, [], true⟩,
⟨some 13, .move (.tmp 73), none, [], true⟩])
(.seq (.region [
⟨some 74, .move (.tmp 13), none, [], true⟩,
⟨some 75, .bin .eql (.tmp 74) (.const (.int .i64 0)), none, [], true⟩])
(.cond (.tmp 75)
(.region [
⟨some 76, .load (some 3) (.tmp 12), none, [], true⟩,
⟨some 77, .buildSlice 3 1 [(.int .i64 0), (.int .i64 0), (.slice none 0 0)] [(0, (.tmp 76))], none, [], true⟩,
⟨some 78, .fieldAddr 0 (.tmp 10), none, [], true⟩,
⟨none, .store 1 (.tmp 78) (.tmp 77), none, [], true⟩])
.skip)))
(.seq (.region [
⟨some 80, .bin .eql (.tmp 62) (.const (.int .i64 1)), none, [], true⟩,
⟨some 79, .move (.tmp 80), none, [], true⟩])
(.cond (.tmp 79)
(.region [
⟨some 81, .move (.tmp 6), none, [], true⟩,
⟨some 82, .fieldAddr 1 (.tmp 11), none, [], true⟩,
⟨some 83, .load none (.tmp 82), none, [], true⟩,
⟨some 84, .call (.const (.func (.func 13) #[] #[])) [(.tmp 81), (.tmp 83)], none, [], true⟩])
(.seq (.region [
⟨some 86, .bin .eql (.tmp 62) (.const (.int .i64 2)), none, [], true⟩,
⟨some 85, .move (.tmp 86), none, [], true⟩])
(.cond (.tmp 85)
(.region [
⟨some 88, .move (.tmp 6), none, [], true⟩,
⟨some 89, .fieldAddr 1 (.tmp 11), none, [], true⟩,
⟨some 90, .load none (.tmp 89), none, [], true⟩,
⟨some 91, .fieldAddr 6 (.tmp 11), none, [], true⟩,
⟨some 92, .load none (.tmp 91), none, [], true⟩,
⟨some 93, .call (.const (.func (.func 14) #[] #[])) [(.tmp 88), (.tmp 90), (.tmp 92)], none, [], true⟩,
⟨some 87, .move (.tmp 93), none, [], true⟩,
⟨some 94, .extract (.tmp 87) 0, none, [], true⟩,
⟨some 95, .extract (.tmp 87) 1, none, [], true⟩,
⟨none, .store 3 (.tmp 10) (.tmp 94), none, [], true⟩])
(.seq (.region [
⟨some 97, .bin .eql (.tmp 62) (.const (.int .i64 3)), none, [], true⟩,
⟨some 96, .move (.tmp 97), none, [], true⟩])
(.cond (.tmp 96)
(.region [
⟨some 99, .move (.tmp 6), none, [], true⟩,
⟨some 100, .fieldAddr 1 (.tmp 11), none, [], true⟩,
⟨some 101, .load none (.tmp 100), none, [], true⟩,
⟨some 102, .fieldAddr 2 (.tmp 11), none, [], true⟩,
⟨some 103, .load none (.tmp 102), none, [], true⟩,
⟨some 104, .fieldAddr 4 (.tmp 11), none, [], true⟩,
⟨some 105, .load none (.tmp 104), none, [], true⟩,
⟨some 106, .fieldAddr 5 (.tmp 11), none, [], true⟩,
⟨some 107, .load none (.tmp 106), none, [], true⟩,
⟨some 108, .call (.const (.func (.func 15) #[] #[])) [(.tmp 99), (.tmp 101), (.tmp 103), (.tmp 105), (.tmp 107)], none, [], true⟩,
⟨some 98, .move (.tmp 108), none, [], true⟩,
⟨some 109, .extract (.tmp 98) 0, none, [], true⟩,
⟨some 110, .extract (.tmp 98) 1, none, [], true⟩,
⟨none, .store 3 (.tmp 10) (.tmp 109), none, [], true⟩])
(.seq (.region [
⟨some 112, .bin .eql (.tmp 62) (.const (.int .i64 4)), none, [], true⟩,
⟨some 111, .move (.tmp 112), none, [], true⟩])
(.cond (.tmp 111)
(.region [
⟨some 114, .move (.tmp 6), none, [], true⟩,
⟨some 115, .fieldAddr 1 (.tmp 11), none, [], true⟩,
⟨some 116, .load none (.tmp 115), none, [], true⟩,
⟨some 117, .fieldAddr 2 (.tmp 11), none, [], true⟩,
⟨some 118, .load none (.tmp 117), none, [], true⟩,
⟨some 119, .fieldAddr 3 (.tmp 11), none, [], true⟩,
⟨some 120, .load none (.tmp 119), none, [], true⟩,
⟨some 121, .call (.const (.func (.func 16) #[] #[])) [(.tmp 114), (.tmp 116), (.tmp 118), (.tmp 120)], none, [], true⟩,
⟨some 113, .move (.tmp 121), none, [], true⟩,
⟨some 122, .extract (.tmp 113) 0, none, [], true⟩,
⟨some 123, .extract (.tmp 113) 1, none, [], true⟩,
⟨none, .store 3 (.tmp 10) (.tmp 122), none, [], true⟩])
.skip))))))))))))
(.seq (.region [
⟨some 14, .move (.const (.int .i64 0)), none, [], true⟩])
(.block 3 (.loop (.seq (.seq (.region [
⟨some 124, .move (.tmp 14), none, [], true⟩,
⟨some 125, .fieldAddr 0 (.tmp 10), none, [], true⟩,
⟨some 126, .load none (.tmp 125), none, [], true⟩,
⟨some 127, .lenSlice (.tmp 126), none, [], true⟩,
⟨some 128, .bin .lss (.tmp 124) (.tmp 127), none, [], true⟩])
(.cond (.tmp 128)
.skip
(.exit 3)))
(.seq (.block 4 (.seq (.region [
⟨some 131, .fieldAddr 0 (.tmp 10), none, [], true⟩,
⟨some 132, .load none (.tmp 131), none, [], true⟩,
⟨some 133, .move (.tmp 14), none, [], true⟩,
⟨some 134, .indexAddr 3 (.tmp 132) (.tmp 133), none, [], true⟩,
⟨some 135, .fieldAddr 1 (.tmp 134), none, [], true⟩,
⟨some 136, .load none (.tmp 135), none, [], true⟩,
⟨some 15, .move (.tmp 136), none, [], true⟩])
(.seq (.seq (.region [
⟨some 137, .move (.tmp 15), none, [], true⟩,
⟨some 138, .bin .lss (.tmp 137) (.const (.int .i64 0)), none, [], true⟩,
⟨some 139, .move (.tmp 138), none, [], true⟩,
⟨some 140, .move (.tmp 15), (some (139, false)), [], true⟩,
⟨some 141, .fieldAddr 2 (.tmp 2), (some (139, false)), [], true⟩,
⟨some 142, .load none (.tmp 141), (some (139, false)), [], true⟩,
⟨some 143, .bin .geq (.tmp 140) (.tmp 142), (some (139, false)), [], true⟩,
⟨some 144, .pick (.tmp 139) (.const (.bool true)) (.tmp 143), none, [], true⟩])
(.cond (.tmp 144)
(.seq (.region [
⟨some 4, .move (.const (.bool false)), none, [], true⟩])
.ret)
.skip))
(.region [
⟨some 145, .move (.tmp 8), none, [], true⟩,
⟨some 146, .move (.tmp 15), none, [], true⟩,
⟨some 147, .fieldAddr 0 (.tmp 10), none, [], true⟩,
⟨some 148, .load none (.tmp 147), none, [], true⟩,
⟨some 149, .move (.tmp 14), none, [], true⟩,
⟨some 150, .indexAddr 3 (.tmp 148) (.tmp 149), none, [], true⟩,
⟨some 151, .fieldAddr 2 (.tmp 150), none, [], true⟩,
⟨some 152, .load none (.tmp 151), none, [], true⟩,
⟨some 153, .bytesStr (.tmp 152), none, [], true⟩,
⟨some 154, .indexAddr 1 (.tmp 145) (.tmp 146), none, [], true⟩,
⟨none, .store 1 (.tmp 154) (.tmp 153), none, [], true⟩]))))
(.region [
⟨some 129, .move (.tmp 14), none, [], true⟩,
⟨some 130, .bin .add (.tmp 129) (.const (.int .i64 1)), none, [], true⟩,
⟨some 14, .move (.tmp 130), none, [], true⟩]))))))))))
(.region [
⟨some 55, .move (.tmp 9), none, [], true⟩,
⟨some 56, .bin .add (.tmp 55) (.const (.int .i64 1)), none, [], true⟩,
⟨some 9, .move (.tmp 56), none, [], true⟩]))))))
(.seq (.region [
⟨some 155, .move (.tmp 6), none, [], true⟩,
⟨some 156, .call (.const (.func (.func 17) #[] #[])) [(.tmp 155)], none, [], true⟩,
⟨some 16, .move (.tmp 156), none, [], true⟩])
(.seq (.region [
⟨some 158, .fieldAddr 0 (.tmp 2), none, [], true⟩,
⟨some 159, .load none (.tmp 158), none, [], true⟩,
⟨some 160, .fieldAddr 1 (.tmp 2), none, [], true⟩,
⟨some 161, .load none (.tmp 160), none, [], true⟩,
⟨some 162, .fieldAddr 2 (.tmp 2), none, [], true⟩,
⟨some 163, .load none (.tmp 162), none, [], true⟩,
⟨some 164, .move (.tmp 16), none, [], true⟩,
⟨some 165, .call (.const (.func (.func 18) #[] #[])) [(.tmp 159), (.tmp 161), (.tmp 163), (.tmp 164)], none, [], true⟩,
⟨some 157, .move (.tmp 165), none, [], true⟩,
⟨some 166, .extract (.tmp 157) 0, none, [], true⟩,
⟨some 167, .extract (.tmp 157) 1, none, [], true⟩,
⟨some 17, .move (.tmp 166), none, [], true⟩,
⟨some 18, .move (.tmp 167), none, [], true⟩])
(.seq (.seq (.region [
⟨some 168, .move (.tmp 18), none, [], true⟩,
⟨some 169, .bin .neq (.tmp 168) (.const (.int .i64 0)), none, [], true⟩,
⟨some 170, .move (.tmp 169), none, [], true⟩,
⟨some 171, .move (.tmp 17), (some (170, false)), [], true⟩,
⟨some 172, .call (.const (.func (.func 17) #[] #[])) [(.tmp 171)], (some (170, false)), [], true⟩,
⟨some 173, .move (.tmp 16), (some (170, false)), [], true⟩,
⟨some 174, .call (.const (.func (.func 19) #[] #[])) [(.tmp 172), (.tmp 173)], (some (170, false)), [], true⟩,
⟨some 175, .un .not (.tmp 174), (some (170, false)), [], true⟩,
⟨some 176, .pick (.tmp 170) (.const (.bool true)) (.tmp 175), none, [], true⟩])
(.cond (.tmp 176)
(.seq (.region [
⟨some 4, .move (.const (.bool false)), none, [], true⟩])
.ret)
.skip))
(.seq (.region [
⟨some 19, .move (.const (.int .i64 0)), none, [], true⟩])
(.seq (.seq (.region [
⟨some 20, .move (.const (.int .i64 0)), none, [], true⟩])
(.block 5 (.loop (.seq (.seq (.region [
⟨some 177, .move (.tmp 20), none, [], true⟩,
⟨some 178, .move (.tmp 16), none, [], true⟩,
⟨some 179, .lenSlice (.tmp 178), none, [], true⟩,
⟨some 180, .bin .lss (.tmp 177) (.tmp 179), none, [], true⟩])
(.cond (.tmp 180)
.skip
(.exit 5)))
(.seq (.block 6 (.seq (.drawn [
⟨some 183, .move (.tmp 16), none, [], true⟩,
⟨some 184, .move (.tmp 20), none, [], true⟩,
⟨some 185, .indexAddr 3 (.tmp 183) (.tmp 184), none, [0, 1], true⟩,
⟨some 186, .fieldAddr 1 (.tmp 185), none, [2, 0, 1], true⟩,
⟨some 187, .load none (.tmp 186), none, [3, 2, 0, 1], true⟩,
⟨some 188, .bin .lss (.tmp 187) (.const (.int .i64 0)), none, [4, 3, 2, 0, 1], true⟩,
⟨some 189, .move (.tmp 188), none, [5, 4, 3, 2, 0, 1], true⟩,
⟨some 190, .move (.tmp 16), (some (189, false)), [6, 5, 4, 3, 2, 0, 1], false⟩,
⟨some 191, .move (.tmp 20), (some (189, false)), [6, 5, 4, 3, 2, 0, 1], false⟩,
⟨some 192, .indexAddr 3 (.tmp 190) (.tmp 191), (some (189, false)), [7, 8, 6, 5, 4, 3, 2, 0, 1], false⟩,
⟨some 193, .fieldAddr 1 (.tmp 192), (some (189, false)), [9, 6, 7, 8, 5, 4, 3, 2, 0, 1], false⟩,
⟨some 194, .load none (.tmp 193), (some (189, false)), [10, 6, 9, 7, 8, 5, 4, 3, 2, 0, 1], false⟩,
⟨some 195, .fieldAddr 2 (.tmp 2), (some (189, false)), [6, 5, 4, 3, 2, 0, 1], false⟩,
⟨some 196, .load none (.tmp 195), (some (189, false)), [12, 6, 5, 4, 3, 2, 0, 1], false⟩,
⟨some 197, .bin .geq (.tmp 194) (.tmp 196), (some (189, false)), [11, 13, 6, 10, 9, 7, 8, 5, 4, 3, 2, 0, 1, 12], true⟩,
⟨some 198, .pick (.tmp 189) (.const (.bool true)) (.tmp 197), none, [6, 14, 5, 4, 3, 2, 0, 1, 11, 13, 10, 9, 7, 8, 12], true⟩,
⟨some 199, .move (.tmp 198), none, [15, 6, 14, 5, 4, 3, 2, 0, 1, 11, 13, 10, 9, 7, 8, 12], true⟩,
⟨some 200, .move (.tmp 8), (some (199, false)), [16, 15, 6, 14, 5, 4, 3, 2, 0, 1, 11, 13, 10, 9, 7, 8, 12], false⟩,
⟨some 201, .move (.tmp 16), (some (199, false)), [16, 15, 6, 14, 5, 4, 3, 2, 0, 1, 11, 13, 10, 9, 7, 8, 12], false⟩,
⟨some 202, .move (.tmp 20), (some (199, false)), [16, 15, 6, 14, 5, 4, 3, 2, 0, 1, 11, 13, 10, 9, 7, 8, 12], false⟩,
⟨some 203, .indexAddr 3 (.tmp 201) (.tmp 202), (some (199, false)), [18, 19, 16, 15, 6, 14, 5, 4, 3, 2, 0, 1, 11, 13, 10, 9, 7, 8, 12], false⟩,
⟨some 204, .fieldAddr 1 (.tmp 203), (some (199, false)), [20, 16, 18, 19, 15, 6, 14, 5, 4, 3, 2, 0, 1, 11, 13, 10, 9, 7, 8, 12], false⟩,
⟨some 205, .load none (.tmp 204), (some (199, false)), [21, 16, 20, 18, 19, 15, 6, 14, 5, 4, 3, 2, 0, 1, 11, 13, 10, 9, 7, 8, 12], false⟩,
⟨some 206, .indexAddr 1 (.tmp 200) (.tmp 205), (some (199, false)), [17, 22, 16, 15, 6, 14, 5, 4, 3, 2, 0, 1, 11, 13, 10, 9, 7, 8, 12, 21, 20, 18, 19], false⟩,
⟨some 207, .load none (.tmp 206), (some (199, false)), [23, 16, 17, 22, 15, 6, 14, 5, 4, 3, 2, 0, 1, 11, 13, 10, 9, 7, 8, 12, 21, 20, 18, 19], false⟩,
⟨some 208, .move (.tmp 16), (some (199, false)), [16, 15, 6, 14, 5, 4, 3, 2, 0, 1, 11, 13, 10, 9, 7, 8, 12], false⟩,
⟨some 209, .move (.tmp 20), (some (199, false)), [16, 15, 6, 14, 5, 4, 3, 2, 0, 1, 11, 13, 10, 9, 7, 8, 12], false⟩,
⟨some 210, .indexAddr 3 (.tmp 208) (.tmp 209), (some (199, false)), [25, 26, 16, 15, 6, 14, 5, 4, 3, 2, 0, 1, 11, 13, 10, 9, 7, 8, 12], false⟩,
⟨some 211, .fieldAddr 2 (.tmp 210), (some (199, false)), [27, 16, 25, 26, 15, 6, 14, 5, 4, 3, 2, 0, 1, 11, 13, 10, 9, 7, 8, 12], false⟩,
⟨some 212, .load none (.tmp 211), (some (199, false)), [28, 16, 27, 25, 26, 15, 6, 14, 5, 4, 3, 2, 0, 1, 11, 13, 10, 9, 7, 8, 12], false⟩,
⟨some 213, .bytesStr (.tmp 212), (some (199, false)), [29, 16, 28, 27, 25, 26, 15, 6, 14, 5, 4, 3, 2, 0, 1, 11, 13, 10, 9, 7, 8, 12], false⟩,
⟨some 214, .bin .neq (.tmp 207) (.tmp 213), (some (199, false)), [24, 30, 16, 23, 17, 22, 15, 6, 14, 5, 4, 3, 2, 0, 1, 11, 13, 10, 9, 7, 8, 12, 21, 20, 18, 19, 29, 28, 27, 25, 26], true⟩,
⟨some 215, .pick (.tmp 199) (.const (.bool true)) (.tmp 214), none, [16, 31, 15, 6, 14, 5, 4, 3, 2, 0, 1, 11, 13, 10, 9, 7, 8, 12, 24, 30, 23, 17, 22, 21, 20, 18, 19, 29, 28, 27, 25, 26], true⟩])
(.cond (.tmp 215)
(.seq (.region [
⟨some 4, .move (.const (.bool false)), none, [], true⟩])
.ret)
.skip)))
(.region [
⟨some 181, .move (.tmp 20), none, [], true⟩,
⟨some 182, .bin .add (.tmp 181) (.const (.int .i64 1)), none, [], true⟩,
⟨some 20, .move (.tmp 182), none, [], true⟩]))))))
(.seq (.seq (.region [
⟨some 21, .move (.const (.int .i64 0)), none, [], true⟩])
(.block 7 (.loop (.seq (.seq (.region [
⟨some 216, .move (.tmp 21), none, [], true⟩,
⟨some 217, .fieldAddr 2 (.tmp 2), none, [], true⟩,
⟨some 218, .load none (.tmp 217), none, [], true⟩,
⟨some 219, .bin .lss (.tmp 216) (.tmp 218), none, [], true⟩])
(.cond (.tmp 219)
.skip
(.exit 7)))
(.seq (.block 8 (.seq (.region [
⟨some 222, .move (.tmp 8), none, [], true⟩,
⟨some 223, .move (.tmp 21), none, [], true⟩,
⟨some 224, .indexAddr 1 (.tmp 222) (.tmp 223), none, [], true⟩,
⟨some 225, .load none (.tmp 224), none, [], true⟩,
⟨some 226, .bin .neq (.tmp 225) (.const (.string ⟨#[]⟩)), none, [], true⟩])
(.cond (.tmp 226)
(.region [
⟨some 227, .move (.tmp 19), none, [], true⟩,
⟨some 228, .bin .add (.tmp 227) (.const (.int .i64 1)), none, [], true⟩,
⟨some 19, .move (.tmp 228), none, [], true⟩])
.skip)))
(.region [
⟨some 220, .move (.tmp 21), none, [], true⟩,
⟨some 221, .bin .add (.tmp 220) (.const (.int .i64 1)), none, [], true⟩,
⟨some 21, .move (.tmp 221), none, [], true⟩]))))))
(.seq (.region [
⟨some 229, .move (.tmp 5), none, [], true⟩,
⟨some 230, .move (.tmp 229), none, [], true⟩,
⟨some 231, .move (.tmp 19), (some (230, true)), [], true⟩,
⟨some 232, .move (.tmp 16), (some (230, true)), [], true⟩,
⟨some 233, .lenSlice (.tmp 232), (some (230, true)), [], true⟩,
⟨some 234, .bin .eql (.tmp 231) (.tmp 233), (some (230, true)), [], true⟩,
⟨some 235, .pick (.tmp 230) (.tmp 234) (.const (.bool false)), none, [], true⟩,
⟨some 4, .move (.tmp 235), none, [], true⟩])
.ret)))))))))))))) }
theorem ir3_eq : funcC Try.prog 3 = some ir3 := by kernel_rfl
def ir9 : IFunc :=
{ ntmps := 170, results := [.tmp 0], body :=
(.seq (.region [
⟨some 0, .move (.const (.bool false)), none, [], true⟩])
(.seq (.region [
⟨some 8, .call (.const (.func (.func 27) #[] #[])) [], none, [], true⟩,
⟨some 1, .move (.tmp 8), none, [], true⟩])
(.seq (.region [
⟨some 10, .move (.tmp 1), none, [], true⟩,
⟨some 11, .call (.const (.func (.func 15) #[] #[])) [(.tmp 10), (.const (.int .i64 1)), (.const (.int .i64 2)), (.const (.int .u64 7)), (.const (.int .i64 3))], none, [], true⟩,
⟨some 9, .move (.tmp 11), none, [], true⟩,
⟨some 12, .extract (.tmp 9) 0, none, [], true⟩,
⟨some 13, .extract (.tmp 9) 1, none, [], true⟩,
⟨some 2, .box (.const (.agg #[(.slice none 0 0), (.slice none 0 0), (.slice none 0 0)])), none, [], true⟩,
⟨none, .store 3 (.tmp 2) (.tmp 12), none, [], true⟩,
⟨some 3, .move (.tmp 13), none, [], true⟩])
(.seq (.region [
⟨some 15, .move (.tmp 1), none, [], true⟩,
⟨some 16, .call (.const (.func (.func 15) #[] #[])) [(.tmp 15), (.const (.int .i64 0)), (.const (.int .i64 2)), (.const (.int .u64 9)), (.const (.int .i64 5))], none, [], true⟩,
⟨some 14, .move (.tmp 16), none, [], true⟩,
⟨some 17, .extract (.tmp 14) 0, none, [], true⟩,
⟨some 18, .extract (.tmp 14) 1, none, [], true⟩,
⟨some 4, .box (.const (.agg #[(.slice none 0 0), (.slice none 0 0), (.slice none 0 0)])), none, [], true⟩,
⟨none, .store 3 (.tmp 4) (.tmp 17), none, [], true⟩,
⟨some 5, .move (.tmp 18), none, [], true⟩])
(.seq (.region [
⟨some 20, .move (.tmp 1), none, [], true⟩,
⟨some 21, .call (.const (.func (.func 16) #[] #[])) [(.tmp 20), (.const (.int .i64 1)), (.const (.int .i64 2)), (.const (.int .u32 1))], none, [], true⟩,
⟨some 19, .move (.tmp 21), none, [], true⟩,
⟨some 22, .extract (.tmp 19) 0, none, [], true⟩,
⟨some 23, .extract (.tmp 19) 1, none, [], true⟩,
⟨some 6, .box (.const (.agg #[(.slice none 0 0), (.slice none 0 0), (.slice none 0 0)])), none, [], true⟩,
⟨none, .store 3 (.tmp 6) (.tmp 22), none, [], true⟩,
⟨some 7, .move (.tmp 23), none, [], true⟩])
(.seq (.seq (.region [
⟨some 24, .move (.tmp 3), none, [], true⟩,
⟨some 25, .bin .neq (.tmp 24) (.const (.int .i64 0)), none, [], true⟩,
⟨some 26, .move (.tmp 25), none, [], true⟩,
⟨some 27, .move (.tmp 5), (some (26, false)), [], true⟩,
⟨some 28, .bin .neq (.tmp 27) (.const (.int .i64 0)), (some (26, false)), [], true⟩,
⟨some 29, .pick (.tmp 26) (.const (.bool true)) (.tmp 28), none, [], true⟩,
⟨some 30, .move (.tmp 29), none, [], true⟩,
⟨some 31, .move (.tmp 7), (some (30, false)), [], true⟩,
⟨some 32, .bin .neq (.tmp 31) (.const (.int .i64 0)), (some (30, false)), [], true⟩,
⟨some 33, .pick (.tmp 30) (.const (.bool true)) (.tmp 32), none, [], true⟩,
⟨some 34, .move (.tmp 33), none, [], true⟩,
⟨some 35, .fieldAddr 0 (.tmp 2), (some (34, false)), [], true⟩,
⟨some 36, .load none (.tmp 35), (some (34, false)), [], true⟩,
⟨some 37, .lenSlice (.tmp 36), (some (34, false)), [], true⟩,
⟨some 38, .bin .neq (.tmp 37) (.const (.int .i64 1)), (some (34, false)), [], true⟩,
⟨some 39, .pick (.tmp 34) (.const (.bool true)) (.tmp 38), none, [], true⟩,
⟨some 40, .move (.tmp 39), none, [], true⟩,
⟨some 41, .fieldAddr 1 (.tmp 2), (some (40, false)), [], true⟩,
⟨some 42, .load none (.tmp 41), (some (40, false)), [], true⟩,
⟨some 43, .lenSlice (.tmp 42), (some (40, false)), [], true⟩,
⟨some 44, .bin .neq (.tmp 43) (.const (.int .i64 1)), (some (40, false)), [], true⟩,
⟨some 45, .pick (.tmp 40) (.const (.bool true)) (.tmp 44), none, [], true⟩,
⟨some 46, .move (.tmp 45), none, [], true⟩,
⟨some 47, .fieldAddr 1 (.tmp 4), (some (46, false)), [], true⟩,
⟨some 48, .load none (.tmp 47), (some (46, false)), [], true⟩,
⟨some 49, .lenSlice (.tmp 48), (some (46, false)), [], true⟩,
⟨some 50, .bin .neq (.tmp 49) (.const (.int .i64 3)), (some (46, false)), [], true⟩,
⟨some 51, .pick (.tmp 46) (.const (.bool true)) (.tmp 50), none, [], true⟩,
⟨some 52, .move (.tmp 51), none, [], true⟩,
⟨some 53, .fieldAddr 0 (.tmp 6), (some (52, false)), [], true⟩,
⟨some 54, .load none (.tmp 53), (some (52, false)), [], true⟩,
⟨some 55, .lenSlice (.tmp 54), (some (52, false)), [], true⟩,
⟨some 56, .bin .neq (.tmp 55) (.const (.int .i64 2)), (some (52, false)), [], true⟩,
⟨some 57, .pick (.tmp 52) (.const (.bool true)) (.tmp 56), none, [], true⟩,
⟨some 58, .move (.tmp 57), none, [], true⟩,
⟨some 59, .fieldAddr 1 (.tmp 6), (some (58, false)), [], true⟩,
⟨some 60, .load none (.tmp 59), (some (58, false)), [], true⟩,
⟨some 61, .lenSlice (.tmp 60), (some (58, false)), [], true⟩,
⟨some 62, .bin .neq (.tmp 61) (.const (.int .i64 1)), (some (58, false)), [], true⟩,
⟨some 63, .pick (.tmp 58) (.const (.bool true)) (.tmp 62), none, [], true⟩,
⟨some 64, .move (.tmp 63), none, [], true⟩,
⟨some 65, .fieldAddr 2 (.tmp 6), (some (64, false)), [], true⟩,
⟨some 66, .load none (.tmp 65), (some (64, false)), [], true⟩,
⟨some 67, .lenSlice (.tmp 66), (some (64, false)), [], true⟩,
⟨some 68, .bin .neq (.tmp 67) (.const (.int .i64 1)), (some (64, false)), [], true⟩,
⟨some 69, .pick (.tmp 64) (.const (.bool true)) (.tmp 68), none, [], true⟩])
(.cond (.tmp 69)
(.seq (.region [
⟨some 0, .move (.const (.bool false)), none, [], true⟩])
.ret)
.skip))
(.seq (.region [
⟨some 70, .fieldAddr 1 (.tmp 2), none, [], true⟩,
⟨some 71, .load none (.tmp 70), none, [], true⟩,
⟨some 72, .indexAddr 10 (.tmp 71) (.const (.int .i64 0)), none, [], true⟩,
⟨some 73, .fieldAddr 0 (.tmp 72), none, [], true⟩,
⟨some 74, .load none (.tmp 73), none, [], true⟩,
⟨some 75, .bin .eql (.tmp 74) (.const (.int .i64 1)), none, [], true⟩,
⟨some 76, .move (.tmp 75), none, [], true⟩,
⟨some 77, .fieldAddr 1 (.tmp 2), (some (76, true)), [], true⟩,
⟨some 78, .load none (.tmp 77), (some (76, true)), [], true⟩,
⟨some 79, .indexAddr 10 (.tmp 78) (.const (.int .i64 0)), (some (76, true)), [], true⟩,
⟨some 80, .fieldAddr 1 (.tmp 79), (some (76, true)), [], true⟩,
⟨some 81, .load (some 9) (.tmp 80), (some (76, true)), [], true⟩,
⟨some 82, .build [(.int .i64 0), (.int .i64 0), (.int .u32 0), (.int .u64 0), (.int .i64 0), (.int .i64 0), (.int .i64 0), (.int .i64 0), (.slice none 0 0)] [(0, 1, (.const (.int .i64 2))), (1, 1, (.const (.int .i64 2))), (2, 1, (.const (.int .u32 1))), (3, 1, (.const (.int .u64 7)))], (some (76, true)), [], true⟩,
⟨some 83, .call (.const (.func (.func 29) #[] #[])) [(.tmp 81), (.tmp 82)], (some (76, true)), [], true⟩,
⟨some 84, .pick (.tmp 76) (.tmp 83) (.const (.bool false)), none, [], true⟩,
⟨some 85, .move (.tmp 84), none, [], true⟩,
⟨some 86, .fieldAddr 0 (.tmp 2), (some (85, true)), [], true⟩,
⟨some 87, .load none (.tmp 86), (some (85, true)), [], true⟩,
⟨some 88, .indexAddr 3 (.tmp 87) (.const (.int .i64 0)), (some (85, true)), [], true⟩,
⟨some 89, .fieldAddr 2 (.tmp 88), (some (85, true)), [], true⟩,
⟨some 90, .load none (.tmp 89), (some (85, true)), [], true⟩,
⟨some 91, .bytesStr (.tmp 90), (some (85, true)), [], true⟩,
⟨some 92, .bin .eql (.tmp 91) (.const (.string ⟨#[1, 0, 0, 0, 1]⟩)), (some (85, true)), [], true⟩,
⟨some 93, .pick (.tmp 85) (.tmp 92) (.const (.bool false)), none, [], true⟩,
⟨some 94, .move (.tmp 93), none, [], true⟩,
⟨some 95, .fieldAddr 1 (.tmp 4), (some (94, true)), [], true⟩,
⟨some 96, .load none (.tmp 95), (some (94, true)), [], true⟩,
⟨some 97, .indexAddr 10 (.tmp 96) (.const (.int .i64 0)), (some (94, true)), [], true⟩,
⟨some 98, .fieldAddr 0 (.tmp 97), (some (94, true)), [], true⟩,
⟨some 99, .load none (.tmp 98), (some (94, true)), [], true⟩,
⟨some 100, .bin .eql (.tmp 99) (.const (.int .i64 0)), (some (94, true)), [], true⟩,
⟨some 101, .pick (.tmp 94) (.tmp 100) (.const (.bool false)), none, [], true⟩,
⟨some 102, .move (.tmp 101), none, [], true⟩,
⟨some 103, .fieldAddr 1 (.tmp 4), (some (102, true)), [], true⟩,
⟨some 104, .load none (.tmp 103), (some (102, true)), [], true⟩,
⟨some 105, .indexAddr 10 (.tmp 104) (.const (.int .i64 0)), (some (102, true)), [], true⟩,
⟨some 106, .fieldAddr 1 (.tmp 105), (some (102, true)), [], true⟩,
⟨some 107, .fieldAddr 7 (.tmp 106), (some (102, true)), [], true⟩,
⟨some 108, .load none (.tmp 107), (some (102, true)), [], true⟩,
⟨some 109, .bin .eql (.tmp 108) (.const (.int .i64 1)), (some (102, true)), [], true⟩,
⟨some 110, .pick (.tmp 102) (.tmp 109) (.const (.bool false)), none, [], true⟩,
⟨some 111, .move (.tmp 110), none, [], true⟩,
⟨some 112, .fieldAddr 1 (.tmp 4), (some (111, true)), [], true⟩,
⟨some 113, .load none (.tmp 112), (some (111, true)), [], true⟩,
⟨some 114, .indexAddr 10 (.tmp 113) (.const (.int .i64 1)), (some (111, true)), [], true⟩,
⟨some 115, .fieldAddr 0 (.tmp 114), (some (111, true)), [], true⟩,
⟨some 116, .load none (.tmp 115), (some (111, true)), [], true⟩,
⟨some 117, .bin .eql (.tmp 116) (.const (.int .i64 1)), (some (111, true)), [], true⟩,
⟨some 118, .pick (.tmp 111) (.tmp 117) (.const (.bool false)), none, [], true⟩,
⟨some 119, .move (.tmp 118), none, [], true⟩,
⟨some 120, .fieldAddr 1 (.tmp 4), (some (119, true)), [], true⟩,
⟨some 121, .load none (.tmp 120), (some (119, true)), [], true⟩,
⟨some 122, .indexAddr 10 (.tmp 121) (.const (.int .i64 1)), (some (119, true)), [], true⟩,
⟨some 123, .fieldAddr 1 (.tmp 122), (some (119, true)), [], true⟩,
⟨some 124, .fieldAddr 4 (.tmp 123), (some (119, true)), [], true⟩,
⟨some 125, .load none (.tmp 124), (some (119, true)), [], true⟩,
⟨some 126, .bin .eql (.tmp 125) (.const (.int .i64 5)), (some (119, true)), [], true⟩,
⟨some 127, .pick (.tmp 119) (.tmp 126) (.const (.bool false)), none, [], true⟩,
⟨some 128, .move (.tmp 127), none, [], true⟩,
⟨some 129, .fieldAddr 1 (.tmp 4), (some (128, true)), [], true⟩,
⟨some 130, .load none (.tmp 129), (some (128, true)), [], true⟩,
⟨some 131, .indexAddr 10 (.tmp 130) (.const (.int .i64 2)), (some (128, true)), [], true⟩,
⟨some 132, .fieldAddr 1 (.tmp 131), (some (128, true)), [], true⟩,
⟨some 133, .fieldAddr 0 (.tmp 132), (some (128, true)), [], true⟩,
⟨some 134, .load none (.tmp 133), (some (128, true)), [], true⟩,
⟨some 135, .bin .eql (.tmp 134) (.const (.int .i64 10)), (some (128, true)), [], true⟩,
⟨some 136, .pick (.tmp 128) (.tmp 135) (.const (.bool false)), none, [], true⟩,
⟨some 137, .move (.tmp 136), none, [], true⟩,
⟨some 138, .fieldAddr 1 (.tmp 6), (some (137, true)), [], true⟩,
⟨some 139, .load none (.tmp 138), (some (137, true)), [], true⟩,
⟨some 140, .indexAddr 10 (.tmp 139) (.const (.int .i64 0)), (some (137, true)), [], true⟩,
⟨some 141, .fieldAddr 0 (.tmp 140), (some (137, true)), [], true⟩,
⟨some 142, .load none (.tmp 141), (some (137, true)), [], true⟩,
⟨some 143, .bin .eql (.tmp 142) (.const (.int .i64 0)), (some (137, true)), [], true⟩,
⟨some 144, .pick (.tmp 137) (.tmp 143) (.const (.bool false)), none, [], true⟩,
⟨some 145, .move (.tmp 144), none, [], true⟩,
⟨some 146, .fieldAddr 1 (.tmp 6), (some (145, true)), [], true⟩,
⟨some 147, .load none (.tmp 146), (some (145, true)), [], true⟩,
⟨some 148, .indexAddr 10 (.tmp 147) (.const (.int .i64 0)), (some (145, true)), [], true⟩,
⟨some 149, .fieldAddr 1 (.tmp 148), (some (145, true)), [], true⟩,
⟨some 150, .fieldAddr 2 (.tmp 149), (some (145, true)), [], true⟩,
⟨some 151, .load none (.tmp 150), (some (145, true)), [], true⟩,
⟨some 152, .bin .eql (.tmp 151) (.const (.int .u32 2)), (some (145, true)), [], true⟩,
⟨some 153, .pick (.tmp 145) (.tmp 152) (.const (.bool false)), none, [], true⟩,
⟨some 154, .move (.tmp 153), none, [], true⟩,
⟨some 155, .fieldAddr 1 (.tmp 6), (some (154, true)), [], true⟩,
⟨some 156, .load none (.tmp 155), (some (154, true)), [], true⟩,
⟨some 157, .indexAddr 10 (.tmp 156) (.const (.int .i64 0)), (some (154, true)), [], true⟩,
⟨some 158, .fieldAddr 1 (.tmp 157), (some (154, true)), [], true⟩,
⟨some 159, .fieldAddr 3 (.tmp 158), (some (154, true)), [], true⟩,
⟨some 160, .load none (.tmp 159), (some (154, true)), [], true⟩,
⟨some 161, .bin .eql (.tmp 160) (.const (.int .u64 9)), (some (154, true)), [], true⟩,
⟨some 162, .pick (.tmp 154) (.tmp 161) (.const (.bool false)), none, [], true⟩,
⟨some 163, .move (.tmp 162), none, [], true⟩,
⟨some 164, .fieldAddr 2 (.tmp 6), (some (163, true)), [], true⟩,
⟨some 165, .load none (.tmp 164), (some (163, true)), [], true⟩,
⟨some 166, .indexAddr 1 (.tmp 165) (.const (.int .i64 0)), (some (163, true)), [], true⟩,
⟨some 167, .load none (.tmp 166), (some (163, true)), [], true⟩,
⟨some 168, .bin .eql (.tmp 167) (.const (.int .i64 2)), (some (163, true)), [], true⟩,
⟨some 169, .pick (.tmp 163) (.tmp 168) (.const (.bool false)), none, [], true⟩,
⟨some 0, .move (.tmp 169), none, [], true⟩])
.ret))))))) }
theorem ir9_eq : funcC Try.prog 9 = some ir9 := by kernel_rfl
def ir10 : IFunc :=
{ ntmps := 20, results := [.tmp 2], body :=
(.seq (.region [
⟨some 2, .move (.const (.int .i64 0)), none, [], true⟩])
(.seq (.seq (.region [
⟨some 4, .move (.tmp 0), none, [], true⟩,
⟨some 5, .lenSlice (.tmp 4), none, [], true⟩,
⟨some 6, .bin .gtr (.tmp 5) (.const (.int .i64 120)), none, [], true⟩])
(.cond (.tmp 6)
(.seq (.region [
⟨some 2, .move (.const (.int .i64 1)), none, [], true⟩])
.ret)
.skip))
(.seq (.seq (.region [
⟨some 3, .move (.const (.int .i64 0)), none, [], true⟩])
(.block 0 (.loop (.seq (.seq (.region [
⟨some 7, .move (.tmp 3), none, [], true⟩,
⟨some 8, .move (.tmp 0), none, [], true⟩,
⟨some 9, .lenSlice (.tmp 8), none, [], true⟩,
⟨some 10, .bin .lss (.tmp 7) (.tmp 9), none, [], true⟩])
(.cond (.tmp 10)
.skip
(.exit 0)))
(.seq (.block 1 (.seq (.region [
⟨some 13, .move (.tmp 0), none, [], true⟩,
⟨some 14, .move (.tmp 3), none, [], true⟩,
⟨some 15, .indexAddr 7 (.tmp 13) (.tmp 14), none, [], true⟩,
⟨some 16, .fieldAddr 6 (.tmp 15), none, [], true⟩,
⟨some 17, .load none (.tmp 16), none, [], true⟩,
⟨some 18, .lenSlice (.tmp 17), none, [], true⟩,
⟨some 19, .bin .gtr (.tmp 18) (.const (.int .i64 40)), none, [], true⟩])
(.cond (.tmp 19)
(.seq (.region [
⟨some 2, .move (.const (.int .i64 1)), none, [], true⟩])
.ret)
.skip)))
(.region [
⟨some 11, .move (.tmp 3), none, [], true⟩,
⟨some 12, .bin .add (.tmp 11) (.const (.int .i64 1)), none, [], true⟩,
⟨some 3, .move (.tmp 12), none, [], true⟩]))))))
(.seq (.region [
⟨some 2, .move (.const (.int .i64 0)), none, [], true⟩])
.ret)))) }
theorem ir10_eq : funcC Try.prog 10 = some ir10 := by kernel_rfl
def ir11 : IFunc :=
{ ntmps := 41, results := [.tmp 6, .tmp 7], body :=
(.seq (.region [
⟨some 6, .move (.const (.pointer none)), none, [], true⟩,
⟨some 7, .move (.const (.int .i64 0)), none, [], true⟩])
(.seq (.seq (.region [
⟨some 8, .move (.tmp 1), none, [], true⟩,
⟨some 9, .bin .lss (.tmp 8) (.const (.int .i64 1)), none, [], true⟩,
⟨some 10, .move (.tmp 9), none, [], true⟩,
⟨some 11, .move (.tmp 1), (some (10, false)), [], true⟩,
⟨some 12, .bin .gtr (.tmp 11) (.const (.int .i64 64)), (some (10, false)), [], true⟩,
⟨some 13, .pick (.tmp 10) (.const (.bool true)) (.tmp 12), none, [], true⟩,
⟨some 14, .move (.tmp 13), none, [], true⟩,
⟨some 15, .move (.tmp 0), (some (14, false)), [], true⟩,
⟨some 16, .bin .lss (.tmp 15) (.const (.int .i64 0)), (some (14, false)), [], true⟩,
⟨some 17, .pick (.tmp 14) (.const (.bool true)) (.tmp 16), none, [], true⟩,
⟨some 18, .move (.tmp 17), none, [], true⟩,
⟨some 19, .move (.tmp 0), (some (18, false)), [], true⟩,
⟨some 20, .move (.tmp 1), (some (18, false)), [], true⟩,
⟨some 21, .bin .geq (.tmp 19) (.tmp 20), (some (18, false)), [], true⟩,
⟨some 22, .pick (.tmp 18) (.const (.bool true)) (.tmp 21), none, [], true⟩,
⟨some 23, .move (.tmp 22), none, [], true⟩,
⟨some 24, .move (.tmp 2), (some (23, false)), [], true⟩,
⟨some 25, .bin .lss (.tmp 24) (.const (.int .i64 1)), (some (23, false)), [], true⟩,
⟨some 26, .pick (.tmp 23) (.const (.bool true)) (.tmp 25), none, [], true⟩,
⟨some 27, .move (.tmp 26), none, [], true⟩,
⟨some 28, .move (.tmp 2), (some (27, false)), [], true⟩,
⟨some 29, .bin .gtr (.tmp 28) (.const (.int .i64 1024)), (some (27, false)), [], true⟩,
⟨some 30, .pick (.tmp 27) (.const (.bool true)) (.tmp 29), none, [], true⟩])
(.cond (.tmp 30)
(.seq (.region [
⟨some 6, .move (.const (.pointer none)), none, [], true⟩,
⟨some 7, .move (.const (.int .i64 2)), none, [], true⟩])
.ret)
.skip))
(.seq (.region [
⟨some 31, .move (.tmp 0), none, [], true⟩,
⟨some 32, .move (.tmp 1), none, [], true⟩,
⟨some 33, .move (.tmp 2), none, [], true⟩,
⟨some 34, .makeMap, none, [], true⟩,
⟨some 35, .makeMap, none, [], true⟩,
⟨some 36, .makeMap, none, [], true⟩,
⟨some 37, .move (.tmp 0), none, [], true⟩,
⟨none, .mapUpdate none (.tmp 36) (.tmp 37) (.const (.int .i64 1)), none, [], true⟩,
⟨some 38, .move (.tmp 36), none, [], true⟩,
⟨some 39, .build [(.int .i64 0), (.int .i64 0), (.int .i64 0), (.map none), (.map none), (.map none)] [(0, 1, (.tmp 31)), (1, 1, (.tmp 32)), (2, 1, (.tmp 33)), (3, 1, (.tmp 34)), (4, 1, (.tmp 35)), (5, 1, (.tmp 38))], none, [], true⟩,
⟨some 40, .box (.tmp 39), none, [], true⟩,
⟨some 6, .move (.tmp 40), none, [], true⟩,
⟨some 7, .move (.const (.int .i64 0)), none, [], true⟩])
.ret))) }
theorem ir11_eq : funcC Try.prog 11 = some ir11 := by kernel_rfl
def ir12 : IFunc :=
{ ntmps := 41, results := [.cell 6 (some 3), .tmp 7], body :=
(.seq (.region [
⟨some 6, .box (.const (.agg #[(.int .i64 0), (.int .i64 0), (.slice none 0 0)])), none, [], true⟩,
⟨some 7, .move (.const (.int .i64 0)), none, [], true⟩])
(.seq (.block 0 (.seq (.region [
⟨some 10, .move (.tmp 0), none, [], true⟩,
⟨some 11, .call (.const (.func (.func 30) #[] #[])) [(.tmp 10)], none, [], true⟩,
⟨some 9, .move (.tmp 11), none, [], true⟩])
(.cond (.tmp 9)
(.seq (.region [
⟨some 12, .build [(.int .i64 0), (.int .i64 0), (.slice none 0 0)] [], none, [], true⟩,
⟨none, .store 3 (.tmp 6) (.tmp 12), none, [], true⟩,
⟨some 7, .move (.const (.int .i64 1)), none, [], true⟩])
.ret)
(.seq (.region [
⟨some 14, .move (.tmp 0), none, [], true⟩,
⟨some 15, .move (.tmp 1), none, [], true⟩,
⟨some 16, .call (.const (.func (.func 26) #[] #[])) [(.tmp 14), (.tmp 15)], none, [], true⟩,
⟨some 17, .un .not (.tmp 16), none, [], true⟩,
⟨some 18, .move (.tmp 17), none, [], true⟩,
⟨some 19, .move (.tmp 0), (some (18, false)), [], true⟩,
⟨some 20, .move (.tmp 2), (some (18, false)), [], true⟩,
⟨some 21, .call (.const (.func (.func 31) #[] #[])) [(.tmp 19), (.tmp 20)], (some (18, false)), [], true⟩,
⟨some 22, .un .not (.tmp 21), (some (18, false)), [], true⟩,
⟨some 23, .pick (.tmp 18) (.const (.bool true)) (.tmp 22), none, [], true⟩,
⟨some 13, .move (.tmp 23), none, [], true⟩])
(.cond (.tmp 13)
(.seq (.region [
⟨some 24, .build [(.int .i64 0), (.int .i64 0), (.slice none 0 0)] [], none, [], true⟩,
⟨none, .store 3 (.tmp 6) (.tmp 24), none, [], true⟩,
⟨some 7, .move (.const (.int .i64 2)), none, [], true⟩])
.ret)
(.seq (.region [
⟨some 26, .move (.tmp 0), none, [], true⟩,
⟨some 27, .move (.tmp 1), none, [], true⟩,
⟨some 28, .call (.const (.func (.func 32) #[] #[])) [(.tmp 26), (.tmp 27)], none, [], true⟩,
⟨some 29, .call (.const (.func (.func 33) #[] #[])) [], none, [], true⟩,
⟨some 30, .eqAgg true [.int, .int] (.tmp 28) (.tmp 29), none, [], true⟩,
⟨some 25, .move (.tmp 30), none, [], true⟩])
(.cond (.tmp 25)
(.seq (.region [
⟨some 31, .build [(.int .i64 0), (.int .i64 0), (.slice none 0 0)] [], none, [], true⟩,
⟨none, .store 3 (.tmp 6) (.tmp 31), none, [], true⟩,
⟨some 7, .move (.const (.int .i64 140)), none, [], true⟩])
.ret)
.skip)))))))
(.seq (.region [
⟨some 8, .box (.const (.agg #[(.slice none 0 0), (.slice none 0 0), (.slice none 0 0)])), none, [], true⟩])
(.seq (.region [
⟨some 32, .move (.tmp 0), none, [], true⟩,
⟨some 33, .move (.tmp 1), none, [], true⟩,
⟨some 34, .move (.tmp 2), none, [], true⟩,
⟨some 35, .build [(.int .i64 0), (.int .u32 0)] [(0, 1, (.tmp 34)), (1, 1, (.const (.int .u32 1)))], none, [], true⟩,
⟨some 36, .call (.const (.func (.func 34) #[] #[])) [(.tmp 32), (.tmp 33), (.tmp 35), (.tmp 8)], none, [], true⟩])
(.seq (.region [
⟨some 37, .fieldAddr 0 (.tmp 8), none, [], true⟩,
⟨some 38, .load none (.tmp 37), none, [], true⟩,
⟨some 39, .indexAddr 3 (.tmp 38) (.const (.int .i64 0)), none, [], true⟩,
⟨some 40, .load (some 3) (.tmp 39), none, [], true⟩,
⟨none, .store 3 (.tmp 6) (.tmp 40), none, [], true⟩,
⟨some 7, .move (.const (.int .i64 0)), none, [], true⟩])
.ret))))) }
theorem ir12_eq : funcC Try.prog 12 = some ir12 := by kernel_rfl
def ir13 : IFunc :=
{ ntmps := 22, results := [], body :=
(.seq (.seq (.region [
⟨some 4, .move (.tmp 0), none, [], true⟩,
⟨some 5, .move (.tmp 1), none, [], true⟩,
⟨some 6, .call (.const (.func (.func 31) #[] #[])) [(.tmp 4), (.tmp 5)], none, [], true⟩,
⟨some 7, .un .not (.tmp 6), none, [], true⟩])
(.cond (.tmp 7)
.ret
.skip))
(.seq (.region [
⟨some 8, .move (.tmp 0), none, [], true⟩,
⟨some 9, .move (.tmp 1), none, [], true⟩,
⟨some 10, .call (.const (.func (.func 35) #[] #[])) [(.tmp 8), (.tmp 9)], none, [], true⟩])
(.seq (.region [
⟨some 11, .move (.tmp 1), none, [], true⟩,
⟨some 12, .move (.tmp 0), none, [], true⟩,
⟨some 13, .nilCheck (.tmp 12), none, [], true⟩,
⟨some 14, .fieldAddr 0 (.tmp 13), none, [], true⟩,
⟨some 15, .load none (.tmp 14), none, [], true⟩,
⟨some 16, .bin .neq (.tmp 11) (.tmp 15), none, [], true⟩])
(.cond (.tmp 16)
(.region [
⟨some 17, .move (.tmp 0), none, [], true⟩,
⟨some 18, .nilCheck (.tmp 17), none, [], true⟩,
⟨some 19, .fieldAddr 5 (.tmp 18), none, [], true⟩,
⟨some 20, .load none (.tmp 19), none, [], true⟩,
⟨some 21, .move (.tmp 1), none, [], true⟩,
⟨none, .mapUpdate none (.tmp 20) (.tmp 21) (.const (.int .i64 0)), none, [], true⟩])
.skip)))) }
theorem ir13_eq : funcC Try.prog 13 = some ir13 := by kernel_rfl
def ir14 : IFunc :=
{ ntmps := 52, results := [.cell 6 (some 3), .tmp 7], body :=
(.seq (.region [
⟨some 3, .box (.tmp 0), none, [], true⟩,
⟨some 4, .box (.tmp 1), none, [], true⟩,
⟨some 5, .box (.tmp 2), none, [], true⟩,
⟨some 6, .box (.const (.agg #[(.slice none 0 0), (.slice none 0 0), (.slice none 0 0)])), none, [], true⟩,
⟨some 7, .move (.const (.int .i64 0)), none, [], true⟩])
(.seq (.region [
⟨some 8, .box (.const (.agg #[(.slice none 0 0), (.slice none 0 0), (.slice none 0 0)])), none, [], true⟩])
(.seq (.block 0 (.seq (.region [
⟨some 12, .load none (.tmp 3), none, [], true⟩,
⟨some 13, .call (.const (.func (.func 30) #[] #[])) [(.tmp 12)], none, [], true⟩,
⟨some 11, .move (.tmp 13), none, [], true⟩])
(.cond (.tmp 11)
(.seq (.region [
⟨some 14, .load (some 3) (.tmp 8), none, [], true⟩,
⟨none, .store 3 (.tmp 6) (.tmp 14), none, [], true⟩,
⟨some 7, .move (.const (.int .i64 1)), none, [], true⟩])
.ret)
(.seq (.region [
⟨some 16, .load none (.tmp 3), none, [], true⟩,
⟨some 17, .load none (.tmp 4), none, [], true⟩,
⟨some 18, .call (.const (.func (.func 31) #[] #[])) [(.tmp 16), (.tmp 17)], none, [], true⟩,
⟨some 19, .un .not (.tmp 18), none, [], true⟩,
⟨some 15, .move (.tmp 19), none, [], true⟩])
(.cond (.tmp 15)
(.seq (.region [
⟨some 20, .load (some 3) (.tmp 8), none, [], true⟩,
⟨none, .store 3 (.tmp 6) (.tmp 20), none, [], true⟩,
⟨some 7, .move (.const (.int .i64 2)), none, [], true⟩])
.ret)
.skip)))))
(.seq (.region [
⟨some 21, .load none (.tmp 3), none, [], true⟩,
⟨some 22, .load none (.tmp 4), none, [], true⟩,
⟨some 23, .call (.const (.func (.func 35) #[] #[])) [(.tmp 21), (.tmp 22)], none, [], true⟩])
(.seq (.seq (.region [
⟨some 24, .load none (.tmp 3), none, [], true⟩,
⟨some 25, .call (.const (.func (.func 36) #[] #[])) [(.tmp 24)], none, [], true⟩])
(.block 1 (.rangeFunc (.tmp 25) [26]
(.region [
⟨some 9, .move (.tmp 26), none, [], true⟩])
(.block 2 (.seq (.region [
⟨some 27, .load none (.tmp 3), none, [], true⟩,
⟨some 28, .move (.tmp 9), none, [], true⟩,
⟨some 29, .call (.const (.func (.func 32) #[] #[])) [(.tmp 27), (.tmp 28)], none, [], true⟩,
⟨some 10, .box (.const (.agg #[(.int .i64 0), (.int .u32 0)])), none, [], true⟩,
⟨none, .store 2 (.tmp 10) (.tmp 29), none, [], true⟩])
(.seq (.region [
⟨some 30, .fieldAddr 0 (.tmp 10), none, [], true⟩,
⟨some 31, .load none (.tmp 30), none, [], true⟩,
⟨some 32, .load none (.tmp 4), none, [], true⟩,
⟨some 33, .bin .eql (.tmp 31) (.tmp 32), none, [], true⟩,
⟨some 34, .move (.tmp 33), none, [], true⟩,
⟨some 35, .load none (.tmp 5), (some (34, true)), [], true⟩,
⟨some 36, .move (.tmp 9), (some (34, true)), [], true⟩,
⟨some 37, .fieldAddr 1 (.tmp 10), (some (34, true)), [], true⟩,
⟨some 38, .load none (.tmp 37), (some (34, true)), [], true⟩,
⟨some 39, .build [(.int .i64 0), (.int .u32 0)] [(0, 1, (.tmp 36)), (1, 1, (.tmp 38))], (some (34, true)), [], true⟩,
⟨some 40, .call (.const (.func (.func 37) #[] #[])) [(.tmp 35), (.tmp 39)], (some (34, true)), [], true⟩,
⟨some 41, .un .not (.tmp 40), (some (34, true)), [], true⟩,
⟨some 42, .pick (.tmp 34) (.tmp 41) (.const (.bool false)), none, [], true⟩])
(.cond (.tmp 42)
(.region [
⟨some 43, .load none (.tmp 3), none, [], true⟩,
⟨some 44, .move (.tmp 9), none, [], true⟩,
⟨some 45, .call (.const (.func (.func 38) #[] #[])) [(.tmp 43), (.tmp 44), (.tmp 8)], none, [], true⟩])
.skip)))))))
(.seq (.drawn [
⟨some 46, .load none (.tmp 3), none, [], false⟩,
⟨some 47, .nilCheck (.tmp 46), none, [0], false⟩,
⟨some 48, .fieldAddr 5 (.tmp 47), none, [1, 0], false⟩,
⟨some 49, .load none (.tmp 48), none, [2, 1, 0], false⟩,
⟨some 50, .load none (.tmp 4), none, [], false⟩,
⟨none, .mapUpdate none (.tmp 49) (.tmp 50) (.const (.int .i64 1)), none, [3, 4, 0, 1, 2], true⟩])
(.seq (.region [
⟨some 51, .load (some 3) (.tmp 8), none, [], true⟩,
⟨none, .store 3 (.tmp 6) (.tmp 51), none, [], true⟩,
⟨some 7, .move (.const (.int .i64 0)), none, [], true⟩])
.ret))))))) }
theorem ir14_eq : funcC Try.prog 14 = some ir14 := by kernel_rfl
def ir15 : IFunc :=
{ ntmps := 76, results := [.cell 10 (some 3), .tmp 11], body :=
(.seq (.region [
⟨some 10, .box (.const (.agg #[(.slice none 0 0), (.slice none 0 0), (.slice none 0 0)])), none, [], true⟩,
⟨some 11, .move (.const (.int .i64 0)), none, [], true⟩])
(.seq (.region [
⟨some 12, .box (.const (.agg #[(.slice none 0 0), (.slice none 0 0), (.slice none 0 0)])), none, [], true⟩])
(.seq (.block 0 (.seq (.region [
⟨some 16, .move (.tmp 0), none, [], true⟩,
⟨some 17, .call (.const (.func (.func 30) #[] #[])) [(.tmp 16)], none, [], true⟩,
⟨some 15, .move (.tmp 17), none, [], true⟩])
(.cond (.tmp 15)
(.seq (.region [
⟨some 18, .load (some 3) (.tmp 12), none, [], true⟩,
⟨none, .store 3 (.tmp 10) (.tmp 18), none, [], true⟩,
⟨some 11, .move (.const (.int .i64 1)), none, [], true⟩])
.ret)
(.seq (.region [
⟨some 20, .move (.tmp 0), none, [], true⟩,
⟨some 21, .move (.tmp 1), none, [], true⟩,
⟨some 22, .call (.const (.func (.func 31) #[] #[])) [(.tmp 20), (.tmp 21)], none, [], true⟩,
⟨some 23, .un .not (.tmp 22), none, [], true⟩,
⟨some 24, .move (.tmp 23), none, [], true⟩,
⟨some 25, .move (.tmp 0), (some (24, false)), [], true⟩,
⟨some 26, .move (.tmp 2), (some (24, false)), [], true⟩,
⟨some 27, .call (.const (.func (.func 26) #[] #[])) [(.tmp 25), (.tmp 26)], (some (24, false)), [], true⟩,
⟨some 28, .un .not (.tmp 27), (some (24, false)), [], true⟩,
⟨some 29, .pick (.tmp 24) (.const (.bool true)) (.tmp 28), none, [], true⟩,
⟨some 30, .move (.tmp 29), none, [], true⟩,
⟨some 31, .move (.tmp 4), (some (30, false)), [], true⟩,
⟨some 32, .bin .lss (.tmp 31) (.const (.int .i64 0)), (some (30, false)), [], true⟩,
⟨some 33, .pick (.tmp 30) (.const (.bool true)) (.tmp 32), none, [], true⟩,
⟨some 34, .move (.tmp 33), none, [], true⟩,
⟨some 35, .move (.tmp 4), (some (34, false)), [], true⟩,
⟨some 36, .bin .gtr (.tmp 35) (.const (.int .i64 15)), (some (34, false)), [], true⟩,
⟨some 37, .pick (.tmp 34) (.const (.bool true)) (.tmp 36), none, [], true⟩,
⟨some 19, .move (.tmp 37), none, [], true⟩])
(.cond (.tmp 19)
(.seq (.region [
⟨some 38, .load (some 3) (.tmp 12), none, [], true⟩,
⟨none, .store 3 (.tmp 10) (.tmp 38), none, [], true⟩,
⟨some 11, .move (.const (.int .i64 2)), none, [], true⟩])
.ret)
(.seq (.region [
⟨some 40, .move (.tmp 0), none, [], true⟩,
⟨some 41, .move (.tmp 1), none, [], true⟩,
⟨some 42, .call (.const (.func (.func 28) #[] #[])) [(.tmp 40), (.tmp 41)], none, [], true⟩,
⟨some 43, .un .not (.tmp 42), none, [], true⟩,
⟨some 39, .move (.tmp 43), none, [], true⟩])
(.cond (.tmp 39)
(.seq (.region [
⟨some 44, .load (some 3) (.tmp 12), none, [], true⟩,
⟨none, .store 3 (.tmp 10) (.tmp 44), none, [], true⟩,
⟨some 11, .move (.const (.int .i64 140)), none, [], true⟩])
.ret)
.skip)))))))
(.seq (.region [
⟨some 45, .move (.tmp 1), none, [], true⟩,
⟨some 46, .move (.tmp 3), none, [], true⟩,
⟨some 47, .move (.tmp 4), none, [], true⟩,
⟨some 48, .build [(.int .i64 0), (.int .u64 0), (.int .i64 0)] [(0, 1, (.tmp 45)), (1, 1, (.tmp 46)), (2, 1, (.tmp 47))], none, [], true⟩,
⟨some 13, .box (.const (.agg #[(.int .i64 0), (.int .u64 0), (.int .i64 0)])), none, [], true⟩,
⟨none, .store 3 (.tmp 13) (.tmp 48), none, [], true⟩])
(.seq (.seq (.region [
⟨some 49, .move (.tmp 0), none, [], true⟩,
⟨some 50, .move (.tmp 2), none, [], true⟩,
⟨some 51, .call (.const (.func (.func 32) #[] #[])) [(.tmp 49), (.tmp 50)], none, [], true⟩,
⟨some 14, .box (.const (.agg #[(.int .i64 0), (.int .u32 0)])), none, [], true⟩,
⟨none, .store 2 (.tmp 14) (.tmp 51), none, [], true⟩])
(.seq (.region [
⟨some 52, .fieldAddr 0 (.tmp 14), none, [], true⟩,
⟨some 53, .load none (.tmp 52), none, [], true⟩])
(.block 1 (.seq (.region [
⟨some 60, .move (.tmp 1), none, [], true⟩,
⟨some 61, .bin .eql (.tmp 53) (.tmp 60), none, [], true⟩,
⟨some 59, .move (.tmp 61), none, [], true⟩])
(.cond (.tmp 59)
(.region [
⟨some 62, .move (.tmp 1), none, [], true⟩,
⟨some 63, .move (.tmp 2), none, [], true⟩,
⟨some 64, .fieldAddr 1 (.tmp 14), none, [], true⟩,
⟨some 65, .load none (.tmp 64), none, [], true⟩,
⟨some 66, .move (.tmp 3), none, [], true⟩,
⟨some 67, .build [(.int .i64 0), (.int .i64 0), (.int .u32 0), (.int .u64 0), (.int .i64 0), (.int .i64 0), (.int .i64 0), (.int .i64 0), (.slice none 0 0)] [(0, 1, (.const (.int .i64 2))), (1, 1, (.tmp 63)), (2, 1, (.tmp 65)), (3, 1, (.tmp 66))], none, [], true⟩,
⟨some 68, .call (.const (.func (.func 39) #[] #[])) [(.tmp 12), (.tmp 62), (.tmp 67)], none, [], true⟩])
(.seq (.region [
⟨some 70, .bin .eql (.tmp 53) (.const (.int .i64 (-1))), none, [], true⟩,
⟨some 69, .move (.tmp 70), none, [], true⟩])
(.cond (.tmp 69)
(.region [
⟨some 71, .move (.tmp 0), none, [], true⟩,
⟨some 72, .load (some 3) (.tmp 13), none, [], true⟩,
⟨some 73, .move (.tmp 2), none, [], true⟩,
⟨some 74, .call (.const (.func (.func 40) #[] #[])) [(.tmp 71), (.tmp 72), (.tmp 73), (.tmp 12)], none, [], true⟩])
(.region [
⟨some 54, .move (.tmp 0), none, [], true⟩,
⟨some 55, .load (some 3) (.tmp 13), none, [], true⟩,
⟨some 56, .move (.tmp 2), none, [], true⟩,
⟨some 57, .load (some 2) (.tmp 14), none, [], true⟩,
⟨some 58, .call (.const (.func (.func 41) #[] #[])) [(.tmp 54), (.tmp 55), (.tmp 56), (.tmp 57), (.tmp 12)], none, [], true⟩]))))))))
(.seq (.region [
⟨some 75, .load (some 3) (.tmp 12), none, [], true⟩,
⟨none, .store 3 (.tmp 10) (.tmp 75), none, [], true⟩,
⟨some 11, .move (.const (.int .i64 0)), none, [], true⟩])
.ret)))))) }
theorem ir15_eq : funcC Try.prog 15 = some ir15 := by kernel_rfl
def ir16 : IFunc :=
{ ntmps := 45, results := [.cell 8 (some 3), .tmp 9], body :=
(.seq (.region [
⟨some 8, .box (.const (.agg #[(.slice none 0 0), (.slice none 0 0), (.slice none 0 0)])), none, [], true⟩,
⟨some 9, .move (.const (.int .i64 0)), none, [], true⟩])
(.seq (.region [
⟨some 10, .box (.const (.agg #[(.slice none 0 0), (.slice none 0 0), (.slice none 0 0)])), none, [], true⟩])
(.seq (.block 0 (.seq (.region [
⟨some 13, .move (.tmp 0), none, [], true⟩,
⟨some 14, .call (.const (.func (.func 30) #[] #[])) [(.tmp 13)], none, [], true⟩,
⟨some 12, .move (.tmp 14), none, [], true⟩])
(.cond (.tmp 12)
(.seq (.region [
⟨some 15, .load (some 3) (.tmp 10), none, [], true⟩,
⟨none, .store 3 (.tmp 8) (.tmp 15), none, [], true⟩,
⟨some 9, .move (.const (.int .i64 1)), none, [], true⟩])
.ret)
(.seq (.region [
⟨some 17, .move (.tmp 0), none, [], true⟩,
⟨some 18, .move (.tmp 1), none, [], true⟩,
⟨some 19, .call (.const (.func (.func 31) #[] #[])) [(.tmp 17), (.tmp 18)], none, [], true⟩,
⟨some 20, .un .not (.tmp 19), none, [], true⟩,
⟨some 21, .move (.tmp 20), none, [], true⟩,
⟨some 22, .move (.tmp 0), (some (21, false)), [], true⟩,
⟨some 23, .move (.tmp 2), (some (21, false)), [], true⟩,
⟨some 24, .call (.const (.func (.func 26) #[] #[])) [(.tmp 22), (.tmp 23)], (some (21, false)), [], true⟩,
⟨some 25, .un .not (.tmp 24), (some (21, false)), [], true⟩,
⟨some 26, .pick (.tmp 21) (.const (.bool true)) (.tmp 25), none, [], true⟩,
⟨some 16, .move (.tmp 26), none, [], true⟩])
(.cond (.tmp 16)
(.seq (.region [
⟨some 27, .load (some 3) (.tmp 10), none, [], true⟩,
⟨none, .store 3 (.tmp 8) (.tmp 27), none, [], true⟩,
⟨some 9, .move (.const (.int .i64 2)), none, [], true⟩])
.ret)
.skip)))))
(.seq (.seq (.region [
⟨some 28, .move (.tmp 0), none, [], true⟩,
⟨some 29, .move (.tmp 2), none, [], true⟩,
⟨some 30, .call (.const (.func (.func 32) #[] #[])) [(.tmp 28), (.tmp 29)], none, [], true⟩,
⟨some 11, .box (.const (.agg #[(.int .i64 0), (.int .u32 0)])), none, [], true⟩,
⟨none, .store 2 (.tmp 11) (.tmp 30), none, [], true⟩])
(.seq (.region [
⟨some 31, .fieldAddr 0 (.tmp 11), none, [], true⟩,
⟨some 32, .load none (.tmp 31), none, [], true⟩,
⟨some 33, .move (.tmp 1), none, [], true⟩,
⟨some 34, .bin .eql (.tmp 32) (.tmp 33), none, [], true⟩,
⟨some 35, .move (.tmp 34), none, [], true⟩,
⟨some 36, .fieldAddr 1 (.tmp 11), (some (35, true)), [], true⟩,
⟨some 37, .load none (.tmp 36), (some (35, true)), [], true⟩,
⟨some 38, .move (.tmp 3), (some (35, true)), [], true⟩,
⟨some 39, .bin .eql (.tmp 37) (.tmp 38), (some (35, true)), [], true⟩,
⟨some 40, .pick (.tmp 35) (.tmp 39) (.const (.bool false)), none, [], true⟩])
(.cond (.tmp 40)
(.region [
⟨some 41, .move (.tmp 0), none, [], true⟩,
⟨some 42, .move (.tmp 2), none, [], true⟩,
⟨some 43, .call (.const (.func (.func 38) #[] #[])) [(.tmp 41), (.tmp 42), (.tmp 10)], none, [], true⟩])
.skip)))
(.seq (.region [
⟨some 44, .load (some 3) (.tmp 10), none, [], true⟩,
⟨none, .store 3 (.tmp 8) (.tmp 44), none, [], true⟩,
⟨some 9, .move (.const (.int .i64 0)), none, [], true⟩])
.ret))))) }
theorem ir16_eq : funcC Try.prog 16 = some ir16 := by kernel_rfl
def ir17 : IFunc :=
{ ntmps := 29, results := [.tmp 2], body :=
(.seq (.region [
⟨some 1, .box (.tmp 0), none, [], true⟩,
⟨some 2, .move (.const (.slice none 0 0)), none, [], true⟩])
(.seq (.region [
⟨some 3, .box (.const (.slice none 0 0)), none, [], true⟩])
(.seq (.seq (.region [
⟨some 7, .load none (.tmp 1), none, [], true⟩,
⟨some 8, .call (.const (.func (.func 30) #[] #[])) [(.tmp 7)], none, [], true⟩])
(.cond (.tmp 8)
(.seq (.region [
⟨some 2, .move (.const (.slice none 0 0)), none, [], true⟩])
.ret)
.skip))
(.seq (.seq (.region [
⟨some 9, .load none (.tmp 1), none, [], true⟩,
⟨some 10, .call (.const (.func (.func 36) #[] #[])) [(.tmp 9)], none, [], true⟩])
(.block 0 (.rangeFunc (.tmp 10) [11]
(.region [
⟨some 4, .move (.tmp 11), none, [], true⟩])
(.block 1 (.seq (.region [
⟨some 13, .load none (.tmp 1), none, [], true⟩,
⟨some 14, .nilCheck (.tmp 13), none, [], true⟩,
⟨some 15, .fieldAddr 3 (.tmp 14), none, [], true⟩,
⟨some 16, .load none (.tmp 15), none, [], true⟩,
⟨some 17, .move (.tmp 4), none, [], true⟩,
⟨some 18, .lookup none (.agg #[(.int .i64 0), (.int .u32 0)]) true (.tmp 16) (.tmp 17), none, [], true⟩,
⟨some 12, .move (.tmp 18), none, [], true⟩,
⟨some 19, .extract (.tmp 12) 0, none, [], true⟩,
⟨some 20, .extract (.tmp 12) 1, none, [], true⟩,
⟨some 5, .box (.const (.agg #[(.int .i64 0), (.int .u32 0)])), none, [], true⟩,
⟨none, .store 2 (.tmp 5) (.tmp 19), none, [], true⟩,
⟨some 6, .move (.tmp 20), none, [], true⟩])
(.seq (.region [
⟨some 21, .move (.tmp 6), none, [], true⟩])
(.cond (.tmp 21)
(.drawn [
⟨some 22, .load none (.tmp 3), none, [], false⟩,
⟨some 23, .move (.tmp 4), none, [], false⟩,
⟨some 24, .load (some 2) (.tmp 5), none, [], false⟩,
⟨some 25, .call (.const (.func (.func 42) #[] #[])) [(.tmp 23), (.tmp 24)], none, [1, 2], false⟩,
⟨some 26, .buildSlice 3 1 [(.int .i64 0), (.int .i64 0), (.slice none 0 0)] [(0, (.tmp 25))], none, [3, 1, 2], false⟩,
⟨some 27, .append 3 40 (.tmp 22) (.tmp 26), none, [0, 4, 3, 1, 2], true⟩,
⟨none, .store 1 (.tmp 3) (.tmp 27), none, [5, 0, 1, 2, 3, 4], true⟩])
.skip)))))))
(.seq (.region [
⟨some 28, .load none (.tmp 3), none, [], true⟩,
⟨some 2, .move (.tmp 28), none, [], true⟩])
.ret))))) }
theorem ir17_eq : funcC Try.prog 17 = some ir17 := by kernel_rfl
def ir18 : IFunc :=
{ ntmps := 79, results := [.tmp 8, .tmp 9], body :=
(.seq (.region [
⟨some 8, .move (.const (.pointer none)), none, [], true⟩,
⟨some 9, .move (.const (.int .i64 0)), none, [], true⟩])
(.seq (.region [
⟨some 19, .move (.tmp 0), none, [], true⟩,
⟨some 20, .move (.tmp 1), none, [], true⟩,
⟨some 21, .move (.tmp 2), none, [], true⟩,
⟨some 22, .call (.const (.func (.func 11) #[] #[])) [(.tmp 19), (.tmp 20), (.tmp 21)], none, [], true⟩,
⟨some 18, .move (.tmp 22), none, [], true⟩,
⟨some 23, .extract (.tmp 18) 0, none, [], true⟩,
⟨some 24, .extract (.tmp 18) 1, none, [], true⟩,
⟨some 10, .move (.tmp 23), none, [], true⟩,
⟨some 11, .move (.tmp 24), none, [], true⟩])
(.seq (.seq (.region [
⟨some 25, .move (.tmp 11), none, [], true⟩,
⟨some 26, .bin .neq (.tmp 25) (.const (.int .i64 0)), none, [], true⟩])
(.cond (.tmp 26)
(.seq (.region [
⟨some 27, .move (.tmp 11), none, [], true⟩,
⟨some 8, .move (.const (.pointer none)), none, [], true⟩,
⟨some 9, .move (.tmp 27), none, [], true⟩])
.ret)
.skip))
(.seq (.seq (.region [
⟨some 28, .move (.tmp 3), none, [], true⟩,
⟨some 29, .lenSlice (.tmp 28), none, [], true⟩,
⟨some 30, .move (.const (.int .i64 0)), none, [], true⟩])
(.block 0 (.loop (.seq (.region [
⟨some 31, .bin .lss (.tmp 30) (.tmp 29), none, [], true⟩])
(.seq (.cond (.tmp 31)
.skip
(.exit 0))
(.seq (.block 1 (.seq (.region [
⟨some 32, .indexAddr 3 (.tmp 28) (.tmp 30), none, [], true⟩,
⟨some 33, .load (some 3) (.tmp 32), none, [], true⟩,
⟨some 13, .box (.const (.agg #[(.int .i64 0), (.int .i64 0), (.slice none 0 0)])), none, [], true⟩,
⟨none, .store 3 (.tmp 13) (.tmp 33), none, [], true⟩])
(.seq (.seq (.region [
⟨some 34, .fieldAddr 0 (.tmp 13), none, [], true⟩,
⟨some 35, .load none (.tmp 34), none, [], true⟩,
⟨some 36, .bin .neq (.tmp 35) (.const (.int .i64 3)), none, [], true⟩])
(.cond (.tmp 36)
(.exit 1)
.skip))
(.seq (.region [
⟨some 38, .load (some 3) (.tmp 13), none, [], true⟩,
⟨some 39, .call (.const (.func (.func 43) #[] #[])) [(.tmp 38)], none, [], true⟩,
⟨some 37, .move (.tmp 39), none, [], true⟩,
⟨some 40, .extract (.tmp 37) 0, none, [], true⟩,
⟨some 41, .extract (.tmp 37) 1, none, [], true⟩,
⟨some 14, .box (.const (.agg #[(.int .i64 0), (.int .u32 0)])), none, [], true⟩,
⟨none, .store 2 (.tmp 14) (.tmp 40), none, [], true⟩,
⟨some 15, .move (.tmp 41), none, [], true⟩])
(.seq (.seq (.drawn [
⟨some 43, .move (.tmp 10), none, [], false⟩,
⟨some 44, .nilCheck (.tmp 43), none, [0], false⟩,
⟨some 45, .fieldAddr 3 (.tmp 44), none, [1, 0], false⟩,
⟨some 46, .load none (.tmp 45), none, [2, 1, 0], false⟩,
⟨some 47, .fieldAddr 1 (.tmp 13), none, [], false⟩,
⟨some 48, .load none (.tmp 47), none, [4], false⟩,
⟨some 49, .lookup none (.agg #[(.int .i64 0), (.int .u32 0)]) true (.tmp 46) (.tmp 48), none, [3, 5, 2, 1, 0, 4], false⟩,
⟨some 42, .move (.tmp 49), none, [6, 3, 5, 2, 1, 0, 4], false⟩,
⟨some 50, .extract (.tmp 42) 0, none, [7, 6, 3, 5, 2, 1, 0, 4], false⟩,
⟨some 51, .extract (.tmp 42) 1, none, [7, 6, 3, 5, 2, 1, 0, 4], false⟩,
⟨some 16, .box (.const (.agg #[(.int .i64 0), (.int .u32 0)])), none, [], false⟩,
⟨none, .store 2 (.tmp 16) (.tmp 50), none, [10, 8, 0, 1, 2, 3, 4, 5, 6, 7], true⟩,
⟨some 17, .move (.tmp 51), none, [9, 11, 0, 1, 2, 3, 4, 5, 6, 7, 8, 10], true⟩])
(.seq (.region [
⟨some 52, .move (.tmp 15), none, [], true⟩,
⟨some 53, .un .not (.tmp 52), none, [], true⟩,
⟨some 54, .move (.tmp 53), none, [], true⟩,
⟨some 55, .move (.tmp 17), (some (54, false)), [], true⟩,
⟨some 56, .pick (.tmp 54) (.const (.bool true)) (.tmp 55), none, [], true⟩,
⟨some 57, .move (.tmp 56), none, [], true⟩,
⟨some 58, .move (.tmp 10), (some (57, false)), [], true⟩,
⟨some 59, .fieldAddr 1 (.tmp 13), (some (57, false)), [], true⟩,
⟨some 60, .load none (.tmp 59), (some (57, false)), [], true⟩,
⟨some 61, .call (.const (.func (.func 26) #[] #[])) [(.tmp 58), (.tmp 60)], (some (57, false)), [], true⟩,
⟨some 62, .un .not (.tmp 61), (some (57, false)), [], true⟩,
⟨some 63, .pick (.tmp 57) (.const (.bool true)) (.tmp 62), none, [], true⟩,
⟨some 64, .move (.tmp 63), none, [], true⟩,
⟨some 65, .fieldAddr 0 (.tmp 14), (some (64, false)), [], true⟩,
⟨some 66, .load none (.tmp 65), (some (64, false)), [], true⟩,
⟨some 67, .move (.tmp 1), (some (64, false)), [], true⟩,
⟨some 68, .bin .geq (.tmp 66) (.tmp 67), (some (64, false)), [], true⟩,
⟨some 69, .pick (.tmp 64) (.const (.bool true)) (.tmp 68), none, [], true⟩])
(.cond (.tmp 69)
(.seq (.region [
⟨some 8, .move (.const (.pointer none)), none, [], true⟩,
⟨some 9, .move (.const (.int .i64 140)), none, [], true⟩])
.ret)
.skip)))
(.drawn [
⟨some 70, .move (.tmp 10), none, [], false⟩,
⟨some 71, .nilCheck (.tmp 70), none, [0], false⟩,
⟨some 72, .fieldAddr 3 (.tmp 71), none, [1, 0], false⟩,
⟨some 73, .load none (.tmp 72), none, [2, 1, 0], false⟩,
⟨some 74, .fieldAddr 1 (.tmp 13), none, [], false⟩,
⟨some 75, .load none (.tmp 74), none, [4], false⟩,
⟨some 76, .load (some 2) (.tmp 14), none, [], false⟩,
⟨none, .mapUpdate none (.tmp 73) (.tmp 75) (.tmp 76), none, [3, 5, 6, 0, 1, 2, 4], true⟩]))))))
(.region [
⟨some 77, .bin .add (.tmp 30) (.const (.int .i64 1)), none, [], true⟩,
⟨some 30, .move (.tmp 77), none, [], true⟩])))))))
(.seq (.region [
⟨some 78, .move (.tmp 10), none, [], true⟩,
⟨some 8, .move (.tmp 78), none, [], true⟩,
⟨some 9, .move (.const (.int .i64 0)), none, [], true⟩])
.ret))))) }
theorem ir18_eq : funcC Try.prog 18 = some ir18 := by kernel_rfl
def ir19 : IFunc :=
{ ntmps := 56, results := [.tmp 4], body :=
(.seq (.region [
⟨some 4, .move (.const (.bool false)), none, [], true⟩])
(.seq (.seq (.region [
⟨some 6, .move (.tmp 0), none, [], true⟩,
⟨some 7, .lenSlice (.tmp 6), none, [], true⟩,
⟨some 8, .move (.tmp 1), none, [], true⟩,
⟨some 9, .lenSlice (.tmp 8), none, [], true⟩,
⟨some 10, .bin .neq (.tmp 7) (.tmp 9), none, [], true⟩])
(.cond (.tmp 10)
(.seq (.region [
⟨some 4, .move (.const (.bool false)), none, [], true⟩])
.ret)
.skip))
(.seq (.seq (.region [
⟨some 5, .move (.const (.int .i64 0)), none, [], true⟩])
(.block 0 (.loop (.seq (.seq (.region [
⟨some 11, .move (.tmp 5), none, [], true⟩,
⟨some 12, .move (.tmp 0), none, [], true⟩,
⟨some 13, .lenSlice (.tmp 12), none, [], true⟩,
⟨some 14, .bin .lss (.tmp 11) (.tmp 13), none, [], true⟩])
(.cond (.tmp 14)
.skip
(.exit 0)))
(.seq (.block 1 (.seq (.drawn [
⟨some 17, .move (.tmp 0), none, [], false⟩,
⟨some 18, .move (.tmp 5), none, [], false⟩,
⟨some 19, .indexAddr 3 (.tmp 17) (.tmp 18), none, [0, 1], false⟩,
⟨some 20, .fieldAddr 0 (.tmp 19), none, [2, 0, 1], false⟩,
⟨some 21, .load none (.tmp 20), none, [3, 2, 0, 1], false⟩,
⟨some 22, .move (.tmp 1), none, [], false⟩,
⟨some 23, .move (.tmp 5), none, [], false⟩,
⟨some 24, .indexAddr 3 (.tmp 22) (.tmp 23), none, [5, 6], false⟩,
⟨some 25, .fieldAddr 0 (.tmp 24), none, [7, 5, 6], false⟩,
⟨some 26, .load none (.tmp 25), none, [8, 7, 5, 6], false⟩,
⟨some 27, .bin .neq (.tmp 21) (.tmp 26), none, [4, 9, 3, 2, 0, 1, 8, 7, 5, 6], true⟩,
⟨some 28, .move (.tmp 27), none, [10, 4, 9, 3, 2, 0, 1, 8, 7, 5, 6], true⟩,
⟨some 29, .move (.tmp 0), (some (28, false)), [11, 10, 4, 9, 3, 2, 0, 1, 8, 7, 5, 6], false⟩,
⟨some 30, .move (.tmp 5), (some (28, false)), [11, 10, 4, 9, 3, 2, 0, 1, 8, 7, 5, 6], false⟩,
⟨some 31, .indexAddr 3 (.tmp 29) (.tmp 30), (some (28, false)), [12, 13, 11, 10, 4, 9, 3, 2, 0, 1, 8, 7, 5, 6], false⟩,
⟨some 32, .fieldAddr 1 (.tmp 31), (some (28, false)), [14, 11, 12, 13, 10, 4, 9, 3, 2, 0, 1, 8, 7, 5, 6], false⟩,
⟨some 33, .load none (.tmp 32), (some (28, false)), [15, 11, 14, 12, 13, 10, 4, 9, 3, 2, 0, 1, 8, 7, 5, 6], false⟩,
⟨some 34, .move (.tmp 1), (some (28, false)), [11, 10, 4, 9, 3, 2, 0, 1, 8, 7, 5, 6], false⟩,
⟨some 35, .move (.tmp 5), (some (28, false)), [11, 10, 4, 9, 3, 2, 0, 1, 8, 7, 5, 6], false⟩,
⟨some 36, .indexAddr 3 (.tmp 34) (.tmp 35), (some (28, false)), [17, 18, 11, 10, 4, 9, 3, 2, 0, 1, 8, 7, 5, 6], false⟩,
⟨some 37, .fieldAddr 1 (.tmp 36), (some (28, false)), [19, 11, 17, 18, 10, 4, 9, 3, 2, 0, 1, 8, 7, 5, 6], false⟩,
⟨some 38, .load none (.tmp 37), (some (28, false)), [20, 11, 19, 17, 18, 10, 4, 9, 3, 2, 0, 1, 8, 7, 5, 6], false⟩,
⟨some 39, .bin .neq (.tmp 33) (.tmp 38), (some (28, false)), [16, 21, 11, 15, 14, 12, 13, 10, 4, 9, 3, 2, 0, 1, 8, 7, 5, 6, 20, 19, 17, 18], true⟩,
⟨some 40, .pick (.tmp 28) (.const (.bool true)) (.tmp 39), none, [11, 22, 10, 4, 9, 3, 2, 0, 1, 8, 7, 5, 6, 16, 21, 15, 14, 12, 13, 20, 19, 17, 18], true⟩,
⟨some 41, .move (.tmp 40), none, [23, 11, 22, 10, 4, 9, 3, 2, 0, 1, 8, 7, 5, 6, 16, 21, 15, 14, 12, 13, 20, 19, 17, 18], true⟩,
⟨some 42, .move (.tmp 0), (some (41, false)), [24, 23, 11, 22, 10, 4, 9, 3, 2, 0, 1, 8, 7, 5, 6, 16, 21, 15, 14, 12, 13, 20, 19, 17, 18], false⟩,
⟨some 43, .move (.tmp 5), (some (41, false)), [24, 23, 11, 22, 10, 4, 9, 3, 2, 0, 1, 8, 7, 5, 6, 16, 21, 15, 14, 12, 13, 20, 19, 17, 18], false⟩,
⟨some 44, .indexAddr 3 (.tmp 42) (.tmp 43), (some (41, false)), [25, 26, 24, 23, 11, 22, 10, 4, 9, 3, 2, 0, 1, 8, 7, 5, 6, 16, 21, 15, 14, 12, 13, 20, 19, 17, 18], false⟩,
⟨some 45, .fieldAddr 2 (.tmp 44), (some (41, false)), [27, 24, 25, 26, 23, 11, 22, 10, 4, 9, 3, 2, 0, 1, 8, 7, 5, 6, 16, 21, 15, 14, 12, 13, 20, 19, 17, 18], false⟩,
⟨some 46, .load none (.tmp 45), (some (41, false)), [28, 24, 27, 25, 26, 23, 11, 22, 10, 4, 9, 3, 2, 0, 1, 8, 7, 5, 6, 16, 21, 15, 14, 12, 13, 20, 19, 17, 18], false⟩,
⟨some 47, .bytesStr (.tmp 46), (some (41, false)), [29, 24, 28, 27, 25, 26, 23, 11, 22, 10, 4, 9, 3, 2, 0, 1, 8, 7, 5, 6, 16, 21, 15, 14, 12, 13, 20, 19, 17, 18], false⟩,
⟨some 48, .move (.tmp 1), (some (41, false)), [24, 23, 11, 22, 10, 4, 9, 3, 2, 0, 1, 8, 7, 5, 6, 16, 21, 15, 14, 12, 13, 20, 19, 17, 18], false⟩,
⟨some 49, .move (.tmp 5), (some (41, false)), [24, 23, 11, 22, 10, 4, 9, 3, 2, 0, 1, 8, 7, 5, 6, 16, 21, 15, 14, 12, 13, 20, 19, 17, 18], false⟩,
⟨some 50, .indexAddr 3 (.tmp 48) (.tmp 49), (some (41, false)), [31, 32, 24, 23, 11, 22, 10, 4, 9, 3, 2, 0, 1, 8, 7, 5, 6, 16, 21, 15, 14, 12, 13, 20, 19, 17, 18], false⟩,
⟨some 51, .fieldAddr 2 (.tmp 50), (some (41, false)), [33, 24, 31, 32, 23, 11, 22, 10, 4, 9, 3, 2, 0, 1, 8, 7, 5, 6, 16, 21, 15, 14, 12, 13, 20, 19, 17, 18], false⟩,
⟨some 52, .load none (.tmp 51), (some (41, false)), [34, 24, 33, 31, 32, 23, 11, 22, 10, 4, 9, 3, 2, 0, 1, 8, 7, 5, 6, 16, 21, 15, 14, 12, 13, 20, 19, 17, 18], false⟩,
⟨some 53, .bytesStr (.tmp 52), (some (41, false)), [35, 24, 34, 33, 31, 32, 23, 11, 22, 10, 4, 9, 3, 2, 0, 1, 8, 7, 5, 6, 16, 21, 15, 14, 12, 13, 20, 19, 17, 18], false⟩,
⟨some 54, .bin .neq (.tmp 47) (.tmp 53), (some (41, false)), [30, 36, 24, 29, 28, 27, 25, 26, 23, 11, 22, 10, 4, 9, 3, 2, 0, 1, 8, 7, 5, 6, 16, 21, 15, 14, 12, 13, 20, 19, 17, 18, 35, 34, 33, 31, 32], true⟩,
⟨some 55, .pick (.tmp 41) (.const (.bool true)) (.tmp 54), none, [24, 37, 23, 11, 22, 10, 4, 9, 3, 2, 0, 1, 8, 7, 5, 6, 16, 21, 15, 14, 12, 13, 20, 19, 17, 18, 30, 36, 29, 28, 27, 25, 26, 35, 34, 33, 31, 32], true⟩])
(.cond (.tmp 55)
(.seq (.region [
⟨some 4, .move (.const (.bool false)), none, [], true⟩])
.ret)
.skip)))
(.region [
⟨some 15, .move (.tmp 5), none, [], true⟩,
⟨some 16, .bin .add (.tmp 15) (.const (.int .i64 1)), none, [], true⟩,
⟨some 5, .move (.tmp 16), none, [], true⟩]))))))
(.seq (.region [
⟨some 4, .move (.const (.bool true)), none, [], true⟩])
.ret)))) }
theorem ir19_eq : funcC Try.prog 19 = some ir19 := by kernel_rfl
def ir24 : IFunc :=
{ ntmps := 16, results := [.tmp 4], body :=
(.seq (.region [
⟨some 4, .move (.const (.slice none 0 0)), none, [], true⟩])
(.seq (.seq (.region [
⟨some 5, .move (.tmp 0), none, [], true⟩,
⟨some 6, .move (.tmp 1), none, [], true⟩,
⟨some 7, .call (.const (.func (.func 26) #[] #[])) [(.tmp 5), (.tmp 6)], none, [], true⟩,
⟨some 8, .un .not (.tmp 7), none, [], true⟩])
(.cond (.tmp 8)
(.seq (.region [
⟨some 4, .move (.const (.slice none 0 0)), none, [], true⟩])
.ret)
.skip))
(.seq (.region [
⟨some 9, .move (.tmp 0), none, [], true⟩,
⟨some 10, .nilCheck (.tmp 9), none, [], true⟩,
⟨some 11, .fieldAddr 4 (.tmp 10), none, [], true⟩,
⟨some 12, .load none (.tmp 11), none, [], true⟩,
⟨some 13, .move (.tmp 1), none, [], true⟩,
⟨some 14, .lookup none (.pointer none) false (.tmp 12) (.tmp 13), none, [], true⟩,
⟨some 15, .call (.const (.func (.func 53) #[] #[])) [(.tmp 14)], none, [], true⟩,
⟨some 4, .move (.tmp 15), none, [], true⟩])
.ret))) }
theorem ir24_eq : funcC Try.prog 24 = some ir24 := by kernel_rfl
def ir25 : IFunc :=
{ ntmps := 18, results := [.tmp 4, .tmp 5], body :=
(.seq (.region [
⟨some 4, .move (.const (.int .i64 0)), none, [], true⟩,
⟨some 5, .move (.const (.int .u32 0)), none, [], true⟩])
(.seq (.seq (.region [
⟨some 7, .move (.tmp 0), none, [], true⟩,
⟨some 8, .move (.tmp 1), none, [], true⟩,
⟨some 9, .call (.const (.func (.func 26) #[] #[])) [(.tmp 7), (.tmp 8)], none, [], true⟩,
⟨some 10, .un .not (.tmp 9), none, [], true⟩])
(.cond (.tmp 10)
(.seq (.region [
⟨some 4, .move (.const (.int .i64 (-1))), none, [], true⟩,
⟨some 5, .move (.const (.int .u32 0)), none, [], true⟩])
.ret)
.skip))
(.seq (.region [
⟨some 11, .move (.tmp 0), none, [], true⟩,
⟨some 12, .move (.tmp 1), none, [], true⟩,
⟨some 13, .call (.const (.func (.func 32) #[] #[])) [(.tmp 11), (.tmp 12)], none, [], true⟩,
⟨some 6, .box (.const (.agg #[(.int .i64 0), (.int .u32 0)])), none, [], true⟩,
⟨none, .store 2 (.tmp 6) (.tmp 13), none, [], true⟩])
(.seq (.drawn [
⟨some 14, .fieldAddr 0 (.tmp 6), none, [], false⟩,
⟨some 15, .load none (.tmp 14), none, [0], false⟩,
⟨some 16, .fieldAddr 1 (.tmp 6), none, [], false⟩,
⟨some 17, .load none (.tmp 16), none, [2], false⟩,
⟨some 4, .move (.tmp 15), none, [1, 0], false⟩,
⟨some 5, .move (.tmp 17), none, [3, 4, 0, 1, 2], true⟩])
.ret)))) }
theorem ir25_eq : funcC Try.prog 25 = some ir25 := by kernel_rfl
def ir26 : IFunc :=
{ ntmps := 33, results := [.tmp 4], body :=
(.seq (.region [
⟨some 4, .move (.const (.bool false)), none, [], true⟩])
(.seq (.drawn [
⟨some 5, .move (.tmp 0), none, [], true⟩,
⟨some 6, .call (.const (.func (.func 30) #[] #[])) [(.tmp 5)], none, [0], true⟩,
⟨some 7, .un .not (.tmp 6), none, [1, 0], true⟩,
⟨some 8, .move (.tmp 7), none, [2, 1, 0], true⟩,
⟨some 9, .move (.tmp 1), (some (8, true)), [3, 2, 1, 0], true⟩,
⟨some 10, .bin .geq (.tmp 9) (.const (.int .i64 0)), (some (8, true)), [4, 3, 2, 1, 0], true⟩,
⟨some 11, .pick (.tmp 8) (.tmp 10) (.const (.bool false)), none, [3, 5, 2, 1, 0, 4], true⟩,
⟨some 12, .move (.tmp 11), none, [6, 3, 5, 2, 1, 0, 4], true⟩,
⟨some 13, .move (.tmp 1), (some (12, true)), [7, 6, 3, 5, 2, 1, 0, 4], false⟩,
⟨some 14, .move (.tmp 0), (some (12, true)), [7, 6, 3, 5, 2, 1, 0, 4], true⟩,
⟨some 15, .nilCheck (.tmp 14), (some (12, true)), [9, 7, 6, 3, 5, 2, 1, 0, 4], true⟩,
⟨some 16, .fieldAddr 2 (.tmp 15), (some (12, true)), [10, 7, 9, 6, 3, 5, 2, 1, 0, 4], true⟩,
⟨some 17, .load none (.tmp 16), (some (12, true)), [11, 7, 10, 9, 6, 3, 5, 2, 1, 0, 4], true⟩,
⟨some 18, .bin .lss (.tmp 13) (.tmp 17), (some (12, true)), [8, 12, 7, 6, 3, 5, 2, 1, 0, 4, 11, 10, 9], true⟩,
⟨some 19, .pick (.tmp 12) (.tmp 18) (.const (.bool false)), none, [7, 13, 6, 3, 5, 2, 1, 0, 4, 8, 12, 11, 10, 9], true⟩,
⟨some 20, .move (.tmp 19), none, [14, 7, 13, 6, 3, 5, 2, 1, 0, 4, 8, 12, 11, 10, 9], true⟩,
⟨some 21, .move (.tmp 1), (some (20, true)), [15, 14, 7, 13, 6, 3, 5, 2, 1, 0, 4, 8, 12, 11, 10, 9], false⟩,
⟨some 22, .move (.tmp 0), (some (20, true)), [15, 14, 7, 13, 6, 3, 5, 2, 1, 0, 4, 8, 12, 11, 10, 9], false⟩,
⟨some 23, .nilCheck (.tmp 22), (some (20, true)), [17, 15, 14, 7, 13, 6, 3, 5, 2, 1, 0, 4, 8, 12, 11, 10, 9], false⟩,
⟨some 24, .fieldAddr 1 (.tmp 23), (some (20, true)), [18, 15, 17, 14, 7, 13, 6, 3, 5, 2, 1, 0, 4, 8, 12, 11, 10, 9], false⟩,
⟨some 25, .load none (.tmp 24), (some (20, true)), [19, 15, 18, 17, 14, 7, 13, 6, 3, 5, 2, 1, 0, 4, 8, 12, 11, 10, 9], false⟩,
⟨some 26, .bin .rem (.tmp 21) (.tmp 25), (some (20, true)), [16, 20, 15, 14, 7, 13, 6, 3, 5, 2, 1, 0, 4, 8, 12, 11, 10, 9, 19, 18, 17], false⟩,
⟨some 27, .move (.tmp 0), (some (20, true)), [15, 14, 7, 13, 6, 3, 5, 2, 1, 0, 4, 8, 12, 11, 10, 9], false⟩,
⟨some 28, .nilCheck (.tmp 27), (some (20, true)), [22, 15, 14, 7, 13, 6, 3, 5, 2, 1, 0, 4, 8, 12, 11, 10, 9], false⟩,
⟨some 29, .fieldAddr 0 (.tmp 28), (some (20, true)), [23, 15, 22, 14, 7, 13, 6, 3, 5, 2, 1, 0, 4, 8, 12, 11, 10, 9], false⟩,
⟨some 30, .load none (.tmp 29), (some (20, true)), [24, 15, 23, 22, 14, 7, 13, 6, 3, 5, 2, 1, 0, 4, 8, 12, 11, 10, 9], false⟩,
⟨some 31, .bin .eql (.tmp 26) (.tmp 30), (some (20, true)), [21, 25, 15, 16, 20, 14, 7, 13, 6, 3, 5, 2, 1, 0, 4, 8, 12, 11, 10, 9, 19, 18, 17, 24, 23, 22], true⟩,
⟨some 32, .pick (.tmp 20) (.tmp 31) (.const (.bool false)), none, [15, 26, 14, 7, 13, 6, 3, 5, 2, 1, 0, 4, 8, 12, 11, 10, 9, 21, 25, 16, 20, 19, 18, 17, 24, 23, 22], true⟩,
⟨some 4, .move (.tmp 32), none, [27, 15, 0, 1, 2, 3, 4, 5, 6, 7, 8, 9, 10, 11, 12, 13, 14, 16, 17, 18, 19, 20, 21, 22, 23, 24, 25, 26], true⟩])
.ret)) }
theorem ir26_eq : funcC Try.prog 26 = some ir26 := by kernel_rfl
def ir27 : IFunc :=
{ ntmps := 10, results := [.tmp 0], body :=
(.seq (.region [
⟨some 0, .move (.const (.pointer none)), none, [], true⟩])
(.seq (.region [
⟨some 4, .call (.const (.func (.func 11) #[] #[])) [(.const (.int .i64 0)), (.const (.int .i64 2)), (.const (.int .i64 4))], none, [], true⟩,
⟨some 3, .move (.tmp 4), none, [], true⟩,
⟨some 5, .extract (.tmp 3) 0, none, [], true⟩,
⟨some 6, .extract (.tmp 3) 1, none, [], true⟩,
⟨some 1, .move (.tmp 5), none, [], true⟩,
⟨some 2, .move (.tmp 6), none, [], true⟩])
(.seq (.region [
⟨some 7, .move (.tmp 1), none, [], true⟩,
⟨some 8, .call (.const (.func (.func 14) #[] #[])) [(.tmp 7), (.const (.int .i64 1)), (.const (.slice none 0 0))], none, [], true⟩])
(.seq (.region [
⟨some 9, .move (.tmp 1), none, [], true⟩,
⟨some 0, .move (.tmp 9), none, [], true⟩])
.ret)))) }
theorem ir27_eq : funcC Try.prog 27 = some ir27 := by kernel_rfl
def ir28 : IFunc :=
{ ntmps := 17, results := [.tmp 4], body :=
(.seq (.region [
⟨some 4, .move (.const (.bool false)), none, [], true⟩])
(.seq (.region [
⟨some 5, .move (.tmp 0), none, [], true⟩,
⟨some 6, .move (.tmp 1), none, [], true⟩,
⟨some 7, .call (.const (.func (.func 31) #[] #[])) [(.tmp 5), (.tmp 6)], none, [], true⟩,
⟨some 8, .move (.tmp 7), none, [], true⟩,
⟨some 9, .move (.tmp 0), (some (8, true)), [], true⟩,
⟨some 10, .nilCheck (.tmp 9), (some (8, true)), [], true⟩,
⟨some 11, .fieldAddr 5 (.tmp 10), (some (8, true)), [], true⟩,
⟨some 12, .load none (.tmp 11), (some (8, true)), [], true⟩,
⟨some 13, .move (.tmp 1), (some (8, true)), [], true⟩,
⟨some 14, .lookup none (.int .i64 0) false (.tmp 12) (.tmp 13), (some (8, true)), [], true⟩,
⟨some 15, .bin .gtr (.tmp 14) (.const (.int .i64 0)), (some (8, true)), [], true⟩,
⟨some 16, .pick (.tmp 8) (.tmp 15) (.const (.bool false)), none, [], true⟩,
⟨some 4, .move (.tmp 16), none, [], true⟩])
.ret)) }
theorem ir28_eq : funcC Try.prog 28 = some ir28 := by kernel_rfl
def ir29 : IFunc :=
{ ntmps := 87, results := [.tmp 4], body :=
(.seq (.region [
⟨some 2, .box (.tmp 0), none, [], true⟩,
⟨some 3, .box (.tmp 1), none, [], true⟩,
⟨some 4, .move (.const (.bool false)), none, [], true⟩])
(.seq (.seq (.region [
⟨some 6, .fieldAddr 0 (.tmp 2), none, [], true⟩,
⟨some 7, .load none (.tmp 6), none, [], true⟩,
⟨some 8, .fieldAddr 0 (.tmp 3), none, [], true⟩,
⟨some 9, .load none (.tmp 8), none, [], true⟩,
⟨some 10, .bin .neq (.tmp 7) (.tmp 9), none, [], true⟩,
⟨some 11, .move (.tmp 10), none, [], true⟩,
⟨some 12, .fieldAddr 1 (.tmp 2), (some (11, false)), [], true⟩,
⟨some 13, .load none (.tmp 12), (some (11, false)), [], true⟩,
⟨some 14, .fieldAddr 1 (.tmp 3), (some (11, false)), [], true⟩,
⟨some 15, .load none (.tmp 14), (some (11, false)), [], true⟩,
⟨some 16, .bin .neq (.tmp 13) (.tmp 15), (some (11, false)), [], true⟩,
⟨some 17, .pick (.tmp 11) (.const (.bool true)) (.tmp 16), none, [], true⟩,
⟨some 18, .move (.tmp 17), none, [], true⟩,
⟨some 19, .fieldAddr 2 (.tmp 2), (some (18, false)), [], true⟩,
⟨some 20, .load none (.tmp 19), (some (18, false)), [], true⟩,
⟨some 21, .fieldAddr 2 (.tmp 3), (some (18, false)), [], true⟩,
⟨some 22, .load none (.tmp 21), (some (18, false)), [], true⟩,
⟨some 23, .bin .neq (.tmp 20) (.tmp 22), (some (18, false)), [], true⟩,
⟨some 24, .pick (.tmp 18) (.const (.bool true)) (.tmp 23), none, [], true⟩,
⟨some 25, .move (.tmp 24), none, [], true⟩,
⟨some 26, .fieldAddr 3 (.tmp 2), (some (25, false)), [], true⟩,
⟨some 27, .load none (.tmp 26), (some (25, false)), [], true⟩,
⟨some 28, .fieldAddr 3 (.tmp 3), (some (25, false)), [], true⟩,
⟨some 29, .load none (.tmp 28), (some (25, false)), [], true⟩,
⟨some 30, .bin .neq (.tmp 27) (.tmp 29), (some (25, false)), [], true⟩,
⟨some 31, .pick (.tmp 25) (.const (.bool true)) (.tmp 30), none, [], true⟩,
⟨some 32, .move (.tmp 31), none, [], true⟩,
⟨some 33, .fieldAddr 4 (.tmp 2), (some (32, false)), [], true⟩,
⟨some 34, .load none (.tmp 33), (some (32, false)), [], true⟩,
⟨some 35, .fieldAddr 4 (.tmp 3), (some (32, false)), [], true⟩,
⟨some 36, .load none (.tmp 35), (some (32, false)), [], true⟩,
⟨some 37, .bin .neq (.tmp 34) (.tmp 36), (some (32, false)), [], true⟩,
⟨some 38, .pick (.tmp 32) (.const (.bool true)) (.tmp 37), none, [], true⟩,
⟨some 39, .move (.tmp 38), none, [], true⟩,
⟨some 40, .fieldAddr 5 (.tmp 2), (some (39, false)), [], true⟩,
⟨some 41, .load none (.tmp 40), (some (39, false)), [], true⟩,
⟨some 42, .fieldAddr 5 (.tmp 3), (some (39, false)), [], true⟩,
⟨some 43, .load none (.tmp 42), (some (39, false)), [], true⟩,
⟨some 44, .bin .neq (.tmp 41) (.tmp 43), (some (39, false)), [], true⟩,
⟨some 45, .pick (.tmp 39) (.const (.bool true)) (.tmp 44), none, [], true⟩,
⟨some 46, .move (.tmp 45), none, [], true⟩,
⟨some 47, .fieldAddr 6 (.tmp 2), (some (46, false)), [], true⟩,
⟨some 48, .load none (.tmp 47), (some (46, false)), [], true⟩,
⟨some 49, .fieldAddr 6 (.tmp 3), (some (46, false)), [], true⟩,
⟨some 50, .load none (.tmp 49), (some (46, false)), [], true⟩,
⟨some 51, .bin .neq (.tmp 48) (.tmp 50), (some (46, false)), [], true⟩,
⟨some 52, .pick (.tmp 46) (.const (.bool true)) (.tmp 51), none, [], true⟩,
⟨some 53, .move (.tmp 52), none, [], true⟩,
⟨some 54, .fieldAddr 7 (.tmp 2), (some (53, false)), [], true⟩,
⟨some 55, .load none (.tmp 54), (some (53, false)), [], true⟩,
⟨some 56, .fieldAddr 7 (.tmp 3), (some (53, false)), [], true⟩,
⟨some 57, .load none (.tmp 56), (some (53, false)), [], true⟩,
⟨some 58, .bin .neq (.tmp 55) (.tmp 57), (some (53, false)), [], true⟩,
⟨some 59, .pick (.tmp 53) (.const (.bool true)) (.tmp 58), none, [], true⟩,
⟨some 60, .move (.tmp 59), none, [], true⟩,
⟨some 61, .fieldAddr 8 (.tmp 2), (some (60, false)), [], true⟩,
⟨some 62, .load none (.tmp 61), (some (60, false)), [], true⟩,
⟨some 63, .lenSlice (.tmp 62), (some (60, false)), [], true⟩,
⟨some 64, .fieldAddr 8 (.tmp 3), (some (60, false)), [], true⟩,
⟨some 65, .load none (.tmp 64), (some (60, false)), [], true⟩,
⟨some 66, .lenSlice (.tmp 65), (some (60, false)), [], true⟩,
⟨some 67, .bin .neq (.tmp 63) (.tmp 66), (some (60, false)), [], true⟩,
⟨some 68, .pick (.tmp 60) (.const (.bool true)) (.tmp 67), none, [], true⟩])
(.cond (.tmp 68)
(.seq (.region [
⟨some 4, .move (.const (.bool false)), none, [], true⟩])
.ret)
.skip))
(.seq (.seq (.region [
⟨some 5, .move (.const (.int .i64 0)), none, [], true⟩])
(.block 0 (.loop (.seq (.seq (.region [
⟨some 69, .move (.tmp 5), none, [], true⟩,
⟨some 70, .fieldAddr 8 (.tmp 2), none, [], true⟩,
⟨some 71, .load none (.tmp 70), none, [], true⟩,
⟨some 72, .lenSlice (.tmp 71), none, [], true⟩,
⟨some 73, .bin .lss (.tmp 69) (.tmp 72), none, [], true⟩])
(.cond (.tmp 73)
.skip
(.exit 0)))
(.seq (.block 1 (.seq (.drawn [
⟨some 76, .fieldAddr 8 (.tmp 2), none, [], false⟩,
⟨some 77, .load none (.tmp 76), none, [0], false⟩,
⟨some 78, .move (.tmp 5), none, [], false⟩,
⟨some 79, .indexAddr 2 (.tmp 77) (.tmp 78), none, [1, 2, 0], false⟩,
⟨some 80, .load (some 2) (.tmp 79), none, [3, 1, 2, 0], false⟩,
⟨some 81, .fieldAddr 8 (.tmp 3), none, [], false⟩,
⟨some 82, .load none (.tmp 81), none, [5], false⟩,
⟨some 83, .move (.tmp 5), none, [], false⟩,
⟨some 84, .indexAddr 2 (.tmp 82) (.tmp 83), none, [6, 7, 5], false⟩,
⟨some 85, .load (some 2) (.tmp 84), none, [8, 6, 7, 5], false⟩,
⟨some 86, .eqAgg true [.int, .int] (.tmp 80) (.tmp 85), none, [4, 9, 3, 1, 2, 0, 8, 6, 7, 5], true⟩])
(.cond (.tmp 86)
(.seq (.region [
⟨some 4, .move (.const (.bool false)), none, [], true⟩])
.ret)
.skip)))
(.region [
⟨some 74, .move (.tmp 5), none, [], true⟩,
⟨some 75, .bin .add (.tmp 74) (.const (.int .i64 1)), none, [], true⟩,
⟨some 5, .move (.tmp 75), none, [], true⟩]))))))
(.seq (.region [
⟨some 4, .move (.const (.bool true)), none, [], true⟩])
.ret)))) }
theorem ir29_eq : funcC Try.prog 29 = some ir29 := by kernel_rfl
def ir30 : IFunc :=
{ ntmps := 12, results := [.tmp 2], body :=
(.seq (.region [
⟨some 2, .move (.const (.bool false)), none, [], true⟩])
(.seq (.region [
⟨some 3, .move (.tmp 0), none, [], true⟩,
⟨some 4, .eqPtr false (.tmp 3) (.const (.pointer none)), none, [], true⟩,
⟨some 5, .move (.tmp 4), none, [], true⟩,
⟨some 6, .move (.tmp 0), (some (5, false)), [], true⟩,
⟨some 7, .nilCheck (.tmp 6), (some (5, false)), [], true⟩,
⟨some 8, .fieldAddr 1 (.tmp 7), (some (5, false)), [], true⟩,
⟨some 9, .load none (.tmp 8), (some (5, false)), [], true⟩,
⟨some 10, .bin .eql (.tmp 9) (.const (.int .i64 0)), (some (5, false)), [], true⟩,
⟨some 11, .pick (.tmp 5) (.const (.bool true)) (.tmp 10), none, [], true⟩,
⟨some 2, .move (.tmp 11), none, [], true⟩])
.ret)) }
theorem ir30_eq : funcC Try.prog 30 = some ir30 := by kernel_rfl
def ir31 : IFunc :=
{ ntmps := 20, results := [.tmp 4], body :=
(.seq (.region [
⟨some 4, .move (.const (.bool false)), none, [], true⟩])
(.seq (.region [
⟨some 5, .move (.tmp 0), none, [], true⟩,
⟨some 6, .call (.const (.func (.func 30) #[] #[])) [(.tmp 5)], none, [], true⟩,
⟨some 7, .un .not (.tmp 6), none, [], true⟩,
⟨some 8, .move (.tmp 7), none, [], true⟩,
⟨some 9, .move (.tmp 1), (some (8, true)), [], true⟩,
⟨some 10, .bin .geq (.tmp 9) (.const (.int .i64 0)), (some (8, true)), [], true⟩,
⟨some 11, .pick (.tmp 8) (.tmp 10) (.const (.bool false)), none, [], true⟩,
⟨some 12, .move (.tmp 11), none, [], true⟩,
⟨some 13, .move (.tmp 1), (some (12, true)), [], true⟩,
⟨some 14, .move (.tmp 0), (some (12, true)), [], true⟩,
⟨some 15, .nilCheck (.tmp 14), (some (12, true)), [], true⟩,
⟨some 16, .fieldAddr 1 (.tmp 15), (some (12, true)), [], true⟩,
⟨some 17, .load none (.tmp 16), (some (12, true)), [], true⟩,
⟨some 18, .bin .lss (.tmp 13) (.tmp 17), (some (12, true)), [], true⟩,
⟨some 19, .pick (.tmp 12) (.tmp 18) (.const (.bool false)), none, [], true⟩,
⟨some 4, .move (.tmp 19), none, [], true⟩])
.ret)) }
theorem ir31_eq : funcC Try.prog 31 = some ir31 := by kernel_rfl
def ir32 : IFunc :=
{ ntmps := 19, results := [.cell 4 (some 2)], body :=
(.seq (.region [
⟨some 4, .box (.const (.agg #[(.int .i64 0), (.int .u32 0)])), none, [], true⟩])
(.seq (.seq (.region [
⟨some 8, .move (.tmp 0), none, [], true⟩,
⟨some 9, .nilCheck (.tmp 8), none, [], true⟩,
⟨some 10, .fieldAddr 3 (.tmp 9), none, [], true⟩,
⟨some 11, .load none (.tmp 10), none, [], true⟩,
⟨some 12, .move (.tmp 1), none, [], true⟩,
⟨some 13, .lookup none (.agg #[(.int .i64 0), (.int .u32 0)]) true (.tmp 11) (.tmp 12), none, [], true⟩,
⟨some 7, .move (.tmp 13), none, [], true⟩,
⟨some 14, .extract (.tmp 7) 0, none, [], true⟩,
⟨some 15, .extract (.tmp 7) 1, none, [], true⟩,
⟨some 5, .box (.const (.agg #[(.int .i64 0), (.int .u32 0)])), none, [], true⟩,
⟨none, .store 2 (.tmp 5) (.tmp 14), none, [], true⟩,
⟨some 6, .move (.tmp 15), none, [], true⟩])
(.seq (.region [
⟨some 16, .move (.tmp 6), none, [], true⟩])
(.cond (.tmp 16)
(.seq (.region [
⟨some 17, .load (some 2) (.tmp 5), none, [], true⟩,
⟨none, .store 2 (.tmp 4) (.tmp 17), none, [], true⟩])
.ret)
.skip)))
(.seq (.region [
⟨some 18, .call (.const (.func (.func 33) #[] #[])) [], none, [], true⟩,
⟨none, .store 2 (.tmp 4) (.tmp 18), none, [], true⟩])
.ret))) }
theorem ir32_eq : funcC Try.prog 32 = some ir32 := by kernel_rfl
def ir33 : IFunc :=
{ ntmps := 2, results := [.cell 0 (some 2)], body :=
(.seq (.region [
⟨some 0, .box (.const (.agg #[(.int .i64 0), (.int .u32 0)])), none, [], true⟩])
(.seq (.region [
⟨some 1, .build [(.int .i64 0), (.int .u32 0)] [(0, 1, (.const (.int .i64 (-1))))], none, [], true⟩,
⟨none, .store 2 (.tmp 0) (.tmp 1), none, [], true⟩])
.ret)) }
theorem ir33_eq : funcC Try.prog 33 = some ir33 := by kernel_rfl
def ir34 : IFunc :=
{ ntmps := 34, results := [], body :=
(.seq (.region [
⟨some 6, .box (.tmp 2), none, [], true⟩])
(.seq (.drawn [
⟨some 8, .move (.tmp 0), none, [], false⟩,
⟨some 9, .nilCheck (.tmp 8), none, [0], false⟩,
⟨some 10, .fieldAddr 3 (.tmp 9), none, [1, 0], false⟩,
⟨some 11, .load none (.tmp 10), none, [2, 1, 0], false⟩,
⟨some 12, .move (.tmp 1), none, [], false⟩,
⟨some 13, .load (some 2) (.tmp 6), none, [], false⟩,
⟨none, .mapUpdate none (.tmp 11) (.tmp 12) (.tmp 13), none, [3, 4, 5, 0, 1, 2], true⟩])
(.seq (.seq (.drawn [
⟨some 14, .load (some 2) (.tmp 6), none, [], false⟩,
⟨some 15, .call (.const (.func (.func 33) #[] #[])) [], none, [], false⟩,
⟨some 16, .eqAgg false [.int, .int] (.tmp 14) (.tmp 15), none, [0, 1], true⟩])
(.cond (.tmp 16)
(.region [
⟨some 17, .move (.tmp 0), none, [], true⟩,
⟨some 18, .nilCheck (.tmp 17), none, [], true⟩,
⟨some 19, .fieldAddr 3 (.tmp 18), none, [], true⟩,
⟨some 20, .load none (.tmp 19), none, [], true⟩,
⟨some 21, .move (.tmp 1), none, [], true⟩,
⟨none, .delete none (.tmp 20) (.tmp 21), none, [], true⟩])
.skip))
(.drawn [
⟨some 22, .move (.tmp 3), none, [], false⟩,
⟨some 23, .move (.tmp 3), none, [], false⟩,
⟨some 24, .nilCheck (.tmp 23), none, [1], false⟩,
⟨some 25, .fieldAddr 0 (.tmp 24), none, [2, 1], false⟩,
⟨some 26, .load none (.tmp 25), none, [3, 2, 1], false⟩,
⟨some 27, .move (.tmp 1), none, [], false⟩,
⟨some 28, .load (some 2) (.tmp 6), none, [], false⟩,
⟨some 29, .call (.const (.func (.func 42) #[] #[])) [(.tmp 27), (.tmp 28)], none, [5, 6], false⟩,
⟨some 30, .buildSlice 3 1 [(.int .i64 0), (.int .i64 0), (.slice none 0 0)] [(0, (.tmp 29))], none, [7, 5, 6], false⟩,
⟨some 31, .append 3 40 (.tmp 26) (.tmp 30), none, [4, 8, 7, 3, 2, 1, 5, 6], true⟩,
⟨some 32, .nilCheck (.tmp 22), none, [0, 1, 2, 3, 4, 5, 6, 7, 8, 9], true⟩,
⟨some 33, .fieldAddr 0 (.tmp 32), none, [10, 0, 1, 2, 3, 4, 5, 6, 7, 8, 9], true⟩,
⟨none, .store 1 (.tmp 33) (.tmp 31), none, [11, 9, 0, 1, 2, 3, 4, 5, 6, 7, 8, 10], true⟩])))) }
theorem ir34_eq : funcC Try.prog 34 = some ir34 := by kernel_rfl
def ir35 : IFunc :=
{ ntmps := 16, results := [], body :=
(.seq (.region [
⟨some 2, .box (.tmp 0), none, [], true⟩,
⟨some 3, .box (.tmp 1), none, [], true⟩])
(.seq (.region [
⟨some 5, .load none (.tmp 2), none, [], true⟩,
⟨some 6, .call (.const (.func (.func 36) #[] #[])) [(.tmp 5)], none, [], true⟩])
(.block 0 (.rangeFunc (.tmp 6) [7]
(.region [
⟨some 4, .move (.tmp 7), none, [], true⟩])
(.block 1 (.drawn [
⟨some 8, .load none (.tmp 2), none, [], false⟩,
⟨some 9, .nilCheck (.tmp 8), none, [0], false⟩,
⟨some 10, .fieldAddr 4 (.tmp 9), none, [1, 0], false⟩,
⟨some 11, .load none (.tmp 10), none, [2, 1, 0], false⟩,
⟨some 12, .move (.tmp 4), none, [], false⟩,
⟨some 13, .lookup none (.pointer none) false (.tmp 11) (.tmp 12), none, [3, 4, 2, 1, 0], false⟩,
⟨some 14, .load none (.tmp 3), none, [], false⟩,
⟨some 15, .call (.const (.func (.func 54) #[] #[])) [(.tmp 13), (.tmp 14)], none, [5, 6, 3, 4, 2, 1, 0], true⟩])))))) }
theorem ir35_eq : funcC Try.prog 35 = some ir35 := by kernel_rfl
def ir36 : IFunc :=
{ ntmps := 4, results := [.tmp 2], body :=
(.seq (.region [
⟨some 1, .box (.tmp 0), none, [], true⟩,
⟨some 2, .move (.const .nilFunc), none, [], true⟩])
(.seq (.region [
⟨some 3, .func (.func 55) [] [(.tmp 1)], none, [], true⟩,
⟨some 2, .move (.tmp 3), none, [], true⟩])
.ret)) }
theorem ir36_eq : funcC Try.prog 36 = some ir36 := by kernel_rfl
def ir37 : IFunc :=
{ ntmps := 9, results := [.tmp 4], body :=
(.seq (.region [
⟨some 3, .box (.tmp 1), none, [], true⟩,
⟨some 4, .move (.const (.bool false)), none, [], true⟩])
(.seq (.region [
⟨some 5, .move (.tmp 0), none, [], true⟩,
⟨some 6, .load (some 2) (.tmp 3), none, [], true⟩,
⟨some 7, .call (.const (.func (.func 56) #[] #[])) [(.tmp 5), (.tmp 6)], none, [], true⟩,
⟨some 8, .bin .geq (.tmp 7) (.const (.int .i64 0)), none, [], true⟩,
⟨some 4, .move (.tmp 8), none, [], true⟩])
.ret)) }
theorem ir37_eq : funcC Try.prog 37 = some ir37 := by kernel_rfl
def ir38 : IFunc :=
{ ntmps := 45, results := [], body :=
(.seq (.region [
⟨some 9, .move (.tmp 0), none, [], true⟩,
⟨some 10, .move (.tmp 1), none, [], true⟩,
⟨some 11, .move (.tmp 0), none, [], true⟩,
⟨some 12, .move (.tmp 1), none, [], true⟩,
⟨some 13, .call (.const (.func (.func 32) #[] #[])) [(.tmp 11), (.tmp 12)], none, [], true⟩,
⟨some 14, .field 1 none (.tmp 13), none, [], true⟩,
⟨some 15, .build [(.int .i64 0), (.int .u32 0)] [(0, 1, (.const (.int .i64 (-1)))), (1, 1, (.tmp 14))], none, [], true⟩,
⟨some 16, .move (.tmp 2), none, [], true⟩,
⟨some 17, .call (.const (.func (.func 34) #[] #[])) [(.tmp 9), (.tmp 10), (.tmp 15), (.tmp 16)], none, [], true⟩])
(.seq (.region [
⟨some 18, .move (.tmp 0), none, [], true⟩,
⟨some 19, .nilCheck (.tmp 18), none, [], true⟩,
⟨some 20, .fieldAddr 4 (.tmp 19), none, [], true⟩,
⟨some 21, .load none (.tmp 20), none, [], true⟩,
⟨some 22, .move (.tmp 1), none, [], true⟩,
⟨some 23, .lookup none (.pointer none) false (.tmp 21) (.tmp 22), none, [], true⟩,
⟨some 6, .move (.tmp 23), none, [], true⟩])
(.seq (.region [
⟨some 25, .move (.tmp 6), none, [], true⟩,
⟨some 26, .call (.const (.func (.func 57) #[] #[])) [(.tmp 25)], none, [], true⟩,
⟨some 24, .move (.tmp 26), none, [], true⟩,
⟨some 27, .extract (.tmp 24) 0, none, [], true⟩,
⟨some 28, .extract (.tmp 24) 1, none, [], true⟩,
⟨some 7, .box (.const (.agg #[(.int .i64 0), (.int .u64 0), (.int .i64 0)])), none, [], true⟩,
⟨none, .store 3 (.tmp 7) (.tmp 27), none, [], true⟩,
⟨some 8, .move (.tmp 28), none, [], true⟩])
(.block 0 (.loop (.seq (.seq (.region [
⟨some 29, .move (.tmp 8), none, [], true⟩])
(.cond (.tmp 29)
.skip
(.exit 0)))
(.seq (.block 1 (.seq (.region [
⟨some 35, .move (.tmp 6), none, [], true⟩,
⟨some 36, .fieldAddr 0 (.tmp 7), none, [], true⟩,
⟨some 37, .load none (.tmp 36), none, [], true⟩,
⟨some 38, .call (.const (.func (.func 54) #[] #[])) [(.tmp 35), (.tmp 37)], none, [], true⟩])
(.seq (.region [
⟨some 39, .move (.tmp 0), none, [], true⟩,
⟨some 40, .load (some 3) (.tmp 7), none, [], true⟩,
⟨some 41, .move (.tmp 1), none, [], true⟩,
⟨some 42, .move (.tmp 2), none, [], true⟩,
⟨some 43, .call (.const (.func (.func 40) #[] #[])) [(.tmp 39), (.tmp 40), (.tmp 41), (.tmp 42)], none, [], true⟩])
(.cond (.tmp 43)
.ret
.skip))))
(.seq (.seq (.region [
⟨some 44, .load (some 3) (.tmp 7), none, [], true⟩])
(.region [
⟨some 7, .box (.const (.agg #[(.int .i64 0), (.int .u64 0), (.int .i64 0)])), none, [], true⟩,
⟨none, .store 3 (.tmp 7) (.tmp 44), none, [], true⟩]))
(.region [
⟨some 31, .move (.tmp 6), none, [], true⟩,
⟨some 32, .call (.const (.func (.func 57) #[] #[])) [(.tmp 31)], none, [], true⟩,
⟨some 30, .move (.tmp 32), none, [], true⟩,
⟨some 33, .extract (.tmp 30) 0, none, [], true⟩,
⟨some 34, .extract (.tmp 30) 1, none, [], true⟩,
⟨none, .store 3 (.tmp 7) (.tmp 33), none, [], true⟩,
⟨some 8, .move (.tmp 34), none, [], true⟩]))))))))) }
theorem ir38_eq : funcC Try.prog 38 = some ir38 := by kernel_rfl
def ir39 : IFunc :=
{ ntmps := 32, results := [], body :=
(.seq (.region [
⟨some 5, .box (.tmp 2), none, [], true⟩])
(.seq (.drawn [
⟨some 6, .move (.tmp 0), none, [], false⟩,
⟨some 7, .move (.tmp 0), none, [], false⟩,
⟨some 8, .nilCheck (.tmp 7), none, [1], false⟩,
⟨some 9, .fieldAddr 1 (.tmp 8), none, [2, 1], false⟩,
⟨some 10, .load none (.tmp 9), none, [3, 2, 1], false⟩,
⟨some 11, .move (.tmp 1), none, [], false⟩,
⟨some 12, .load (some 9) (.tmp 5), none, [], false⟩,
⟨some 13, .build [(.int .i64 0), (.int .i64 0), (.int .i64 0), (.int .u32 0), (.int .u64 0), (.int .i64 0), (.int .i64 0), (.int .i64 0), (.int .i64 0), (.slice none 0 0)] [(0, 1, (.tmp 11)), (1, 9, (.tmp 12))], none, [5, 6], false⟩,
⟨some 14, .buildSlice 10 1 [(.int .i64 0), (.int .i64 0), (.int .i64 0), (.int .u32 0), (.int .u64 0), (.int .i64 0), (.int .i64 0), (.int .i64 0), (.int .i64 0), (.slice none 0 0)] [(0, (.tmp 13))], none, [7, 5, 6], false⟩,
⟨some 15, .append 10 96 (.tmp 10) (.tmp 14), none, [4, 8, 3, 2, 1, 7, 5, 6], true⟩,
⟨some 16, .nilCheck (.tmp 6), none, [0, 1, 2, 3, 4, 5, 6, 7, 8, 9], true⟩,
⟨some 17, .fieldAddr 1 (.tmp 16), none, [10, 0, 1, 2, 3, 4, 5, 6, 7, 8, 9], true⟩,
⟨none, .store 1 (.tmp 17) (.tmp 15), none, [11, 9, 0, 1, 2, 3, 4, 5, 6, 7, 8, 10], true⟩])
(.drawn [
⟨some 18, .move (.tmp 0), none, [], false⟩,
⟨some 19, .move (.tmp 0), none, [], false⟩,
⟨some 20, .nilCheck (.tmp 19), none, [1], false⟩,
⟨some 21, .fieldAddr 2 (.tmp 20), none, [2, 1], false⟩,
⟨some 22, .load none (.tmp 21), none, [3, 2, 1], false⟩,
⟨some 23, .move (.tmp 0), none, [], false⟩,
⟨some 24, .nilCheck (.tmp 23), none, [5], false⟩,
⟨some 25, .fieldAddr 0 (.tmp 24), none, [6, 5], false⟩,
⟨some 26, .load none (.tmp 25), none, [7, 6, 5], false⟩,
⟨some 27, .lenSlice (.tmp 26), none, [8, 7, 6, 5], false⟩,
⟨some 28, .buildSlice 1 1 [(.int .i64 0)] [(0, (.tmp 27))], none, [9, 8, 7, 6, 5], false⟩,
⟨some 29, .append 1 8 (.tmp 22) (.tmp 28), none, [4, 10, 3, 2, 1, 9, 8, 7, 6, 5], true⟩,
⟨some 30, .nilCheck (.tmp 18), none, [0, 1, 2, 3, 4, 5, 6, 7, 8, 9, 10, 11], true⟩,
⟨some 31, .fieldAddr 2 (.tmp 30), none, [12, 0, 1, 2, 3, 4, 5, 6, 7, 8, 9, 10, 11], true⟩,
⟨none, .store 1 (.tmp 31) (.tmp 29), none, [13, 11, 0, 1, 2, 3, 4, 5, 6, 7, 8, 9, 10, 12], true⟩]))) }
theorem ir39_eq : funcC Try.prog 39 = some ir39 := by kernel_rfl
def ir40 : IFunc :=
{ ntmps := 45, results := [.tmp 8], body :=
(.seq (.region [
⟨some 5, .box (.tmp 1), none, [], true⟩,
⟨some 8, .move (.const (.bool false)), none, [], true⟩])
(.seq (.region [
⟨some 10, .move (.tmp 0), none, [], true⟩,
⟨some 11, .move (.tmp 2), none, [], true⟩,
⟨some 12, .call (.const (.func (.func 32) #[] #[])) [(.tmp 10), (.tmp 11)], none, [], true⟩,
⟨some 9, .box (.const (.agg #[(.int .i64 0), (.int .u32 0)])), none, [], true⟩,
⟨none, .store 2 (.tmp 9) (.tmp 12), none, [], true⟩])
(.seq (.seq (.region [
⟨some 13, .fieldAddr 1 (.tmp 9), none, [], true⟩,
⟨some 14, .load none (.tmp 13), none, [], true⟩,
⟨some 15, .bin .eql (.tmp 14) (.const (.int .u32 4294967295)), none, [], true⟩])
(.cond (.tmp 15)
(.seq (.region [
⟨some 16, .move (.tmp 3), none, [], true⟩,
⟨some 17, .fieldAddr 0 (.tmp 5), none, [], true⟩,
⟨some 18, .load none (.tmp 17), none, [], true⟩,
⟨some 19, .move (.tmp 2), none, [], true⟩,
⟨some 20, .fieldAddr 1 (.tmp 5), none, [], true⟩,
⟨some 21, .load none (.tmp 20), none, [], true⟩,
⟨some 22, .build [(.int .i64 0), (.int .i64 0), (.int .u32 0), (.int .u64 0), (.int .i64 0), (.int .i64 0), (.int .i64 0), (.int .i64 0), (.slice none 0 0)] [(0, 1, (.const (.int .i64 5))), (1, 1, (.tmp 19)), (3, 1, (.tmp 21)), (7, 1, (.const (.int .i64 (-1))))], none, [], true⟩,
⟨some 23, .call (.const (.func (.func 39) #[] #[])) [(.tmp 16), (.tmp 18), (.tmp 22)], none, [], true⟩])
(.seq (.region [
⟨some 8, .move (.const (.bool false)), none, [], true⟩])
.ret))
.skip))
(.seq (.region [
⟨some 24, .fieldAddr 0 (.tmp 5), none, [], true⟩,
⟨some 25, .load none (.tmp 24), none, [], true⟩,
⟨some 26, .fieldAddr 1 (.tmp 9), none, [], true⟩,
⟨some 27, .load none (.tmp 26), none, [], true⟩,
⟨some 28, .bin .add (.tmp 27) (.const (.int .u32 1)), none, [], true⟩,
⟨some 29, .build [(.int .i64 0), (.int .u32 0)] [(0, 1, (.tmp 25)), (1, 1, (.tmp 28))], none, [], true⟩,
⟨none, .store 2 (.tmp 9) (.tmp 29), none, [], true⟩])
(.seq (.region [
⟨some 30, .move (.tmp 0), none, [], true⟩,
⟨some 31, .move (.tmp 2), none, [], true⟩,
⟨some 32, .load (some 2) (.tmp 9), none, [], true⟩,
⟨some 33, .move (.tmp 3), none, [], true⟩,
⟨some 34, .call (.const (.func (.func 34) #[] #[])) [(.tmp 30), (.tmp 31), (.tmp 32), (.tmp 33)], none, [], true⟩])
(.seq (.region [
⟨some 35, .move (.tmp 3), none, [], true⟩,
⟨some 36, .fieldAddr 0 (.tmp 5), none, [], true⟩,
⟨some 37, .load none (.tmp 36), none, [], true⟩,
⟨some 38, .move (.tmp 2), none, [], true⟩,
⟨some 39, .fieldAddr 1 (.tmp 9), none, [], true⟩,
⟨some 40, .load none (.tmp 39), none, [], true⟩,
⟨some 41, .fieldAddr 1 (.tmp 5), none, [], true⟩,
⟨some 42, .load none (.tmp 41), none, [], true⟩,
⟨some 43, .build [(.int .i64 0), (.int .i64 0), (.int .u32 0), (.int .u64 0), (.int .i64 0), (.int .i64 0), (.int .i64 0), (.int .i64 0), (.slice none 0 0)] [(0, 1, (.const (.int .i64 2))), (1, 1, (.tmp 38)), (2, 1, (.tmp 40)), (3, 1, (.tmp 42))], none, [], true⟩,
⟨some 44, .call (.const (.func (.func 39) #[] #[])) [(.tmp 35), (.tmp 37), (.tmp 43)], none, [], true⟩])
(.seq (.region [
⟨some 8, .move (.const (.bool true)), none, [], true⟩])
.ret))))))) }
theorem ir40_eq : funcC Try.prog 40 = some ir40 := by kernel_rfl
def ir41 : IFunc :=
{ ntmps := 78, results := [], body :=
(.seq (.region [
⟨some 6, .box (.tmp 1), none, [], true⟩,
⟨some 8, .box (.tmp 3), none, [], true⟩])
(.seq (.region [
⟨some 16, .move (.tmp 0), none, [], true⟩,
⟨some 17, .nilCheck (.tmp 16), none, [], true⟩,
⟨some 18, .fieldAddr 4 (.tmp 17), none, [], true⟩,
⟨some 19, .load none (.tmp 18), none, [], true⟩,
⟨some 20, .move (.tmp 2), none, [], true⟩,
⟨some 21, .lookup none (.pointer none) false (.tmp 19) (.tmp 20), none, [], true⟩,
⟨some 10, .move (.tmp 21), none, [], true⟩])
(.seq (.seq (.region [
⟨some 22, .move (.tmp 10), none, [], true⟩,
⟨some 23, .eqPtr false (.tmp 22) (.const (.pointer none)), none, [], true⟩])
(.cond (.tmp 23)
(.seq (.region [
⟨some 24, .build [(.slice none 0 0)] [], none, [], true⟩,
⟨some 25, .box (.tmp 24), none, [], true⟩,
⟨some 10, .move (.tmp 25), none, [], true⟩])
(.region [
⟨some 26, .move (.tmp 0), none, [], true⟩,
⟨some 27, .nilCheck (.tmp 26), none, [], true⟩,
⟨some 28, .fieldAddr 4 (.tmp 27), none, [], true⟩,
⟨some 29, .load none (.tmp 28), none, [], true⟩,
⟨some 30, .move (.tmp 2), none, [], true⟩,
⟨some 31, .move (.tmp 10), none, [], true⟩,
⟨none, .mapUpdate none (.tmp 29) (.tmp 30) (.tmp 31), none, [], true⟩]))
.skip))
(.seq (.region [
⟨some 32, .move (.tmp 2), none, [], true⟩,
⟨some 33, .fieldAddr 1 (.tmp 6), none, [], true⟩,
⟨some 34, .load none (.tmp 33), none, [], true⟩,
⟨some 35, .build [(.int .i64 0), (.int .i64 0), (.int .u32 0), (.int .u64 0), (.int .i64 0), (.int .i64 0), (.int .i64 0), (.int .i64 0), (.slice none 0 0)] [(0, 1, (.const (.int .i64 5))), (1, 1, (.tmp 32)), (3, 1, (.tmp 34)), (7, 1, (.const (.int .i64 (-1))))], none, [], true⟩,
⟨some 11, .box (.const (.agg #[(.int .i64 0), (.int .i64 0), (.int .u32 0), (.int .u64 0), (.int .i64 0), (.int .i64 0), (.int .i64 0), (.int .i64 0), (.slice none 0 0)])), none, [], true⟩,
⟨none, .store 9 (.tmp 11) (.tmp 35), none, [], true⟩])
(.seq (.seq (.region [
⟨some 37, .move (.tmp 10), none, [], true⟩,
⟨some 38, .load (some 3) (.tmp 6), none, [], true⟩,
⟨some 39, .call (.const (.func (.func 58) #[] #[])) [(.tmp 37), (.tmp 38)], none, [], true⟩,
⟨some 36, .move (.tmp 39), none, [], true⟩,
⟨some 40, .extract (.tmp 36) 0, none, [], true⟩,
⟨some 41, .extract (.tmp 36) 1, none, [], true⟩,
⟨some 12, .move (.tmp 40), none, [], true⟩,
⟨some 13, .move (.tmp 41), none, [], true⟩])
(.seq (.region [
⟨some 42, .move (.tmp 12), none, [], true⟩,
⟨some 43, .un .not (.tmp 42), none, [], true⟩])
(.cond (.tmp 43)
(.seq (.region [
⟨some 44, .move (.tmp 4), none, [], true⟩,
⟨some 45, .fieldAddr 0 (.tmp 6), none, [], true⟩,
⟨some 46, .load none (.tmp 45), none, [], true⟩,
⟨some 47, .load (some 9) (.tmp 11), none, [], true⟩,
⟨some 48, .call (.const (.func (.func 39) #[] #[])) [(.tmp 44), (.tmp 46), (.tmp 47)], none, [], true⟩])
.ret)
.skip)))
(.seq (.region [
⟨some 49, .fieldAddr 0 (.tmp 8), none, [], true⟩,
⟨some 50, .load none (.tmp 49), none, [], true⟩,
⟨some 51, .fieldAddr 7 (.tmp 11), none, [], true⟩,
⟨none, .store 1 (.tmp 51) (.tmp 50), none, [], true⟩])
(.seq (.region [
⟨some 52, .move (.tmp 4), none, [], true⟩,
⟨some 53, .fieldAddr 0 (.tmp 6), none, [], true⟩,
⟨some 54, .load none (.tmp 53), none, [], true⟩,
⟨some 55, .load (some 9) (.tmp 11), none, [], true⟩,
⟨some 56, .call (.const (.func (.func 39) #[] #[])) [(.tmp 52), (.tmp 54), (.tmp 55)], none, [], true⟩])
(.seq (.region [
⟨some 58, .move (.tmp 10), none, [], true⟩,
⟨some 59, .call (.const (.func (.func 57) #[] #[])) [(.tmp 58)], none, [], true⟩,
⟨some 57, .move (.tmp 59), none, [], true⟩,
⟨some 60, .extract (.tmp 57) 0, none, [], true⟩,
⟨some 61, .extract (.tmp 57) 1, none, [], true⟩,
⟨some 14, .box (.const (.agg #[(.int .i64 0), (.int .u64 0), (.int .i64 0)])), none, [], true⟩,
⟨none, .store 3 (.tmp 14) (.tmp 60), none, [], true⟩,
⟨some 15, .move (.tmp 61), none, [], true⟩])
(.seq (.region [
⟨some 62, .move (.tmp 4), none, [], true⟩,
⟨some 63, .fieldAddr 0 (.tmp 8), none, [], true⟩,
⟨some 64, .load none (.tmp 63), none, [], true⟩,
⟨some 65, .move (.tmp 2), none, [], true⟩,
⟨some 66, .fieldAddr 2 (.tmp 14), none, [], true⟩,
⟨some 67, .load none (.tmp 66), none, [], true⟩,
⟨some 68, .build [(.int .i64 0), (.int .i64 0), (.int .u32 0), (.int .u64 0), (.int .i64 0), (.int .i64 0), (.int .i64 0), (.int .i64 0), (.slice none 0 0)] [(0, 1, (.const (.int .i64 8))), (1, 1, (.tmp 65)), (4, 1, (.tmp 67))], none, [], true⟩,
⟨some 69, .call (.const (.func (.func 39) #[] #[])) [(.tmp 62), (.tmp 64), (.tmp 68)], none, [], true⟩])
(.region [
⟨some 70, .move (.tmp 4), none, [], true⟩,
⟨some 71, .fieldAddr 0 (.tmp 8), none, [], true⟩,
⟨some 72, .load none (.tmp 71), none, [], true⟩,
⟨some 73, .move (.tmp 2), none, [], true⟩,
⟨some 74, .fieldAddr 1 (.tmp 8), none, [], true⟩,
⟨some 75, .load none (.tmp 74), none, [], true⟩,
⟨some 76, .build [(.int .i64 0), (.int .i64 0), (.int .u32 0), (.int .u64 0), (.int .i64 0), (.int .i64 0), (.int .i64 0), (.int .i64 0), (.slice none 0 0)] [(0, 1, (.const (.int .i64 10))), (1, 1, (.tmp 73)), (2, 1, (.tmp 75))], none, [], true⟩,
⟨some 77, .call (.const (.func (.func 39) #[] #[])) [(.tmp 70), (.tmp 72), (.tmp 76)], none, [], true⟩])))))))))) }
theorem ir41_eq : funcC Try.prog 41 = some ir41 := by kernel_rfl
def ir42 : IFunc :=
{ ntmps := 32, results := [.cell 4 (some 3)], body :=
(.seq (.region [
⟨some 3, .box (.tmp 1), none, [], true⟩,
⟨some 4, .box (.const (.agg #[(.int .i64 0), (.int .i64 0), (.slice none 0 0)])), none, [], true⟩])
(.seq (.region [
⟨some 6, .move (.tmp 0), none, [], true⟩,
⟨some 7, .build [(.int .i64 0), (.int .i64 0), (.slice none 0 0)] [(0, 1, (.const (.int .i64 3))), (1, 1, (.tmp 6))], none, [], true⟩,
⟨some 5, .box (.const (.agg #[(.int .i64 0), (.int .i64 0), (.slice none 0 0)])), none, [], true⟩,
⟨none, .store 3 (.tmp 5) (.tmp 7), none, [], true⟩])
(.seq (.seq (.drawn [
⟨some 8, .load (some 2) (.tmp 3), none, [], false⟩,
⟨some 9, .call (.const (.func (.func 33) #[] #[])) [], none, [], false⟩,
⟨some 10, .eqAgg true [.int, .int] (.tmp 8) (.tmp 9), none, [0, 1], true⟩])
(.cond (.tmp 10)
(.region [
⟨some 11, .fieldAddr 0 (.tmp 3), none, [], true⟩,
⟨some 12, .load none (.tmp 11), none, [], true⟩,
⟨some 13, .conv .u8 (.tmp 12), none, [], true⟩,
⟨some 14, .fieldAddr 1 (.tmp 3), none, [], true⟩,
⟨some 15, .load none (.tmp 14), none, [], true⟩,
⟨some 16, .bin .shr (.tmp 15) (.const (.int .u64 24)), none, [], true⟩,
⟨some 17, .conv .u8 (.tmp 16), none, [], true⟩,
⟨some 18, .fieldAddr 1 (.tmp 3), none, [], true⟩,
⟨some 19, .load none (.tmp 18), none, [], true⟩,
⟨some 20, .bin .shr (.tmp 19) (.const (.int .u64 16)), none, [], true⟩,
⟨some 21, .conv .u8 (.tmp 20), none, [], true⟩,
⟨some 22, .fieldAddr 1 (.tmp 3), none, [], true⟩,
⟨some 23, .load none (.tmp 22), none, [], true⟩,
⟨some 24, .bin .shr (.tmp 23) (.const (.int .u64 8)), none, [], true⟩,
⟨some 25, .conv .u8 (.tmp 24), none, [], true⟩,
⟨some 26, .fieldAddr 1 (.tmp 3), none, [], true⟩,
⟨some 27, .load none (.tmp 26), none, [], true⟩,
⟨some 28, .conv .u8 (.tmp 27), none, [], true⟩,
⟨some 29, .buildSlice 1 5 [(.int .u8 0)] [(0, (.tmp 13)), (1, (.tmp 17)), (2, (.tmp 21)), (3, (.tmp 25)), (4, (.tmp 28))], none, [], true⟩,
⟨some 30, .fieldAddr 2 (.tmp 5), none, [], true⟩,
⟨none, .store 1 (.tmp 30) (.tmp 29), none, [], true⟩])
.skip))
(.seq (.region [
⟨some 31, .load (some 3) (.tmp 5), none, [], true⟩,
⟨none, .store 3 (.tmp 4) (.tmp 31), none, [], true⟩])
.ret)))) }
theorem ir42_eq : funcC Try.prog 42 = some ir42 := by kernel_rfl
end Go.Proofs.Ytmpnldmdchchjaa
