import Derived.Test.YtmpnldmdchchjaaChecked
import Derived.Test.YtmpnldmdchchjaaFa
import Derived.KernelRfl
import Derived.Test.YtmpnldmdchchjaaIrb
namespace Go.Proofs.Ytmpnldmdchchjaa
open Go Go.Ideal
def ir43 : IFunc :=
{ ntmps := 44, results := [.cell 2 (some 2), .tmp 3], body :=
(.seq (.region [
⟨some 1, .box (.tmp 0), none, [], true⟩,
⟨some 2, .box (.const (.agg #[(.int .i64 0), (.int .u32 0)])), none, [], true⟩,
⟨some 3, .move (.const (.bool false)), none, [], true⟩])
(.seq (.seq (.region [
⟨some 7, .fieldAddr 2 (.tmp 1), none, [], true⟩,
⟨some 8, .load none (.tmp 7), none, [], true⟩,
⟨some 9, .lenSlice (.tmp 8), none, [], true⟩,
⟨some 10, .bin .neq (.tmp 9) (.const (.int .i64 5)), none, [], true⟩])
(.cond (.tmp 10)
(.seq (.region [
⟨some 11, .build [(.int .i64 0), (.int .u32 0)] [], none, [], true⟩,
⟨none, .store 2 (.tmp 2) (.tmp 11), none, [], true⟩,
⟨some 3, .move (.const (.bool false)), none, [], true⟩])
.ret)
.skip))
(.seq (.region [
⟨some 12, .fieldAddr 2 (.tmp 1), none, [], true⟩,
⟨some 13, .load none (.tmp 12), none, [], true⟩,
⟨some 14, .indexAddr 1 (.tmp 13) (.const (.int .i64 0)), none, [], true⟩,
⟨some 15, .load none (.tmp 14), none, [], true⟩,
⟨some 16, .conv .i64 (.tmp 15), none, [], true⟩,
⟨some 17, .build [(.int .i64 0), (.int .u32 0)] [(0, 1, (.tmp 16))], none, [], true⟩,
⟨some 4, .box (.const (.agg #[(.int .i64 0), (.int .u32 0)])), none, [], true⟩,
⟨none, .store 2 (.tmp 4) (.tmp 17), none, [], true⟩])
(.seq (.seq (.region [
⟨some 18, .fieldAddr 2 (.tmp 1), none, [], true⟩,
⟨some 19, .load none (.tmp 18), none, [], true⟩,
⟨some 20, .indexAddr 1 (.tmp 19) (.const (.int .i64 0)), none, [], true⟩,
⟨some 21, .load none (.tmp 20), none, [], true⟩,
⟨some 22, .bin .eql (.tmp 21) (.const (.int .u8 255)), none, [], true⟩])
(.cond (.tmp 22)
(.region [
⟨some 23, .fieldAddr 0 (.tmp 4), none, [], true⟩,
⟨none, .store 1 (.tmp 23) (.const (.int .i64 (-1))), none, [], true⟩])
.skip))
(.seq (.seq (.region [
⟨some 24, .fieldAddr 2 (.tmp 1), none, [], true⟩,
⟨some 25, .load none (.tmp 24), none, [], true⟩,
⟨some 26, .slice 1 (.tmp 25) (some (.const (.int .i64 1))) none none, none, [], true⟩,
⟨some 27, .lenSlice (.tmp 26), none, [], true⟩,
⟨some 28, .move (.const (.int .i64 0)), none, [], true⟩])
(.block 0 (.loop (.seq (.region [
⟨some 29, .bin .lss (.tmp 28) (.tmp 27), none, [], true⟩])
(.seq (.cond (.tmp 29)
.skip
(.exit 0))
(.seq (.block 1 (.seq (.region [
⟨some 30, .indexAddr 1 (.tmp 26) (.tmp 28), none, [], true⟩,
⟨some 31, .load none (.tmp 30), none, [], true⟩,
⟨some 6, .move (.tmp 31), none, [], true⟩])
(.region [
⟨some 32, .fieldAddr 1 (.tmp 4), none, [], true⟩,
⟨some 33, .load none (.tmp 32), none, [], true⟩,
⟨some 34, .bin .shl (.tmp 33) (.const (.int .u64 8)), none, [], true⟩,
⟨some 35, .move (.tmp 6), none, [], true⟩,
⟨some 36, .conv .u32 (.tmp 35), none, [], true⟩,
⟨some 37, .bin .or (.tmp 34) (.tmp 36), none, [], true⟩,
⟨some 38, .fieldAddr 1 (.tmp 4), none, [], true⟩,
⟨none, .store 1 (.tmp 38) (.tmp 37), none, [], true⟩])))
(.region [
⟨some 39, .bin .add (.tmp 28) (.const (.int .i64 1)), none, [], true⟩,
⟨some 28, .move (.tmp 39), none, [], true⟩])))))))
(.seq (.drawn [
⟨some 40, .load (some 2) (.tmp 4), none, [], false⟩,
⟨some 41, .load (some 2) (.tmp 4), none, [], false⟩,
⟨some 42, .call (.const (.func (.func 33) #[] #[])) [], none, [], false⟩,
⟨some 43, .eqAgg true [.int, .int] (.tmp 41) (.tmp 42), none, [1, 2], false⟩,
⟨none, .store 2 (.tmp 2) (.tmp 40), none, [0, 2], false⟩,
⟨some 3, .move (.tmp 43), none, [3, 4, 0, 1, 2], true⟩])
.ret)))))) }
theorem ir43_eq : funcC Try.prog 43 = some ir43 := by kernel_rfl
def ir53 : IFunc :=
{ ntmps := 10, results := [.tmp 2], body :=
(.seq (.region [
⟨some 2, .move (.const (.slice none 0 0)), none, [], true⟩])
(.seq (.seq (.region [
⟨some 3, .move (.tmp 0), none, [], true⟩,
⟨some 4, .eqPtr false (.tmp 3) (.const (.pointer none)), none, [], true⟩])
(.cond (.tmp 4)
(.seq (.region [
⟨some 2, .move (.const (.slice none 0 0)), none, [], true⟩])
.ret)
.skip))
(.seq (.region [
⟨some 5, .move (.tmp 0), none, [], true⟩,
⟨some 6, .nilCheck (.tmp 5), none, [], true⟩,
⟨some 7, .fieldAddr 0 (.tmp 6), none, [], true⟩,
⟨some 8, .load none (.tmp 7), none, [], true⟩,
⟨some 9, .call (.const (.func (.func 66) #[] #[])) [(.tmp 8)], none, [], true⟩,
⟨some 2, .move (.tmp 9), none, [], true⟩])
.ret))) }
theorem ir53_eq : funcC Try.prog 53 = some ir53 := by kernel_rfl
def ir54 : IFunc :=
{ ntmps := 24, results := [.tmp 4], body :=
(.seq (.region [
⟨some 4, .move (.const (.bool false)), none, [], true⟩])
(.seq (.region [
⟨some 6, .move (.tmp 0), none, [], true⟩,
⟨some 7, .move (.tmp 1), none, [], true⟩,
⟨some 8, .call (.const (.func (.func 67) #[] #[])) [(.tmp 6), (.tmp 7)], none, [], true⟩,
⟨some 5, .move (.tmp 8), none, [], true⟩])
(.seq (.seq (.region [
⟨some 9, .move (.tmp 5), none, [], true⟩,
⟨some 10, .bin .geq (.tmp 9) (.const (.int .i64 0)), none, [], true⟩])
(.cond (.tmp 10)
(.region [
⟨some 11, .move (.tmp 0), none, [], true⟩,
⟨some 12, .move (.tmp 0), none, [], true⟩,
⟨some 13, .nilCheck (.tmp 12), none, [], true⟩,
⟨some 14, .fieldAddr 0 (.tmp 13), none, [], true⟩,
⟨some 15, .load none (.tmp 14), none, [], true⟩,
⟨some 16, .move (.tmp 5), none, [], true⟩,
⟨some 17, .move (.tmp 5), none, [], true⟩,
⟨some 18, .bin .add (.tmp 17) (.const (.int .i64 1)), none, [], true⟩,
⟨some 19, .call (.const (.func (.func 68) #[] #[])) [(.tmp 15), (.tmp 16), (.tmp 18)], none, [], true⟩,
⟨some 20, .nilCheck (.tmp 11), none, [], true⟩,
⟨some 21, .fieldAddr 0 (.tmp 20), none, [], true⟩,
⟨none, .store 1 (.tmp 21) (.tmp 19), none, [], true⟩])
.skip))
(.seq (.region [
⟨some 22, .move (.tmp 5), none, [], true⟩,
⟨some 23, .bin .geq (.tmp 22) (.const (.int .i64 0)), none, [], true⟩,
⟨some 4, .move (.tmp 23), none, [], true⟩])
.ret)))) }
theorem ir54_eq : funcC Try.prog 54 = some ir54 := by kernel_rfl
def ir55 : IFunc :=
{ ntmps := 24, results := [], body :=
(.seq .skip
(.seq (.region [
⟨some 4, .load none (.tmp 1), none, [], true⟩,
⟨some 5, .nilCheck (.tmp 4), none, [], true⟩,
⟨some 6, .fieldAddr 0 (.tmp 5), none, [], true⟩,
⟨some 7, .load none (.tmp 6), none, [], true⟩,
⟨some 3, .move (.tmp 7), none, [], true⟩])
(.block 0 (.loop (.seq (.seq (.region [
⟨some 8, .move (.tmp 3), none, [], true⟩,
⟨some 9, .load none (.tmp 1), none, [], true⟩,
⟨some 10, .nilCheck (.tmp 9), none, [], true⟩,
⟨some 11, .fieldAddr 2 (.tmp 10), none, [], true⟩,
⟨some 12, .load none (.tmp 11), none, [], true⟩,
⟨some 13, .bin .lss (.tmp 8) (.tmp 12), none, [], true⟩])
(.cond (.tmp 13)
.skip
(.exit 0)))
(.seq (.block 1 (.seq (.region [
⟨some 20, .move (.tmp 0), none, [], true⟩,
⟨some 21, .move (.tmp 3), none, [], true⟩,
⟨some 22, .call (.tmp 20) [(.tmp 21)], none, [], true⟩,
⟨some 23, .un .not (.tmp 22), none, [], true⟩])
(.cond (.tmp 23)
(.exit 0)
.skip)))
(.region [
⟨some 14, .move (.tmp 3), none, [], true⟩,
⟨some 15, .load none (.tmp 1), none, [], true⟩,
⟨some 16, .nilCheck (.tmp 15), none, [], true⟩,
⟨some 17, .fieldAddr 1 (.tmp 16), none, [], true⟩,
⟨some 18, .load none (.tmp 17), none, [], true⟩,
⟨some 19, .bin .add (.tmp 14) (.tmp 18), none, [], true⟩,
⟨some 3, .move (.tmp 19), none, [], true⟩]))))))) }
theorem ir55_eq : funcC Try.prog 55 = some ir55 := by kernel_rfl
def ir56 : IFunc :=
{ ntmps := 19, results := [.tmp 4], body :=
(.seq (.region [
⟨some 3, .box (.tmp 1), none, [], true⟩,
⟨some 4, .move (.const (.int .i64 0)), none, [], true⟩])
(.seq (.seq (.region [
⟨some 6, .move (.tmp 0), none, [], true⟩,
⟨some 7, .lenSlice (.tmp 6), none, [], true⟩,
⟨some 8, .move (.const (.int .i64 0)), none, [], true⟩])
(.block 0 (.loop (.seq (.region [
⟨some 9, .bin .lss (.tmp 8) (.tmp 7), none, [], true⟩])
(.seq (.cond (.tmp 9)
.skip
(.exit 0))
(.seq (.block 1 (.seq (.region [
⟨some 10, .move (.tmp 8), none, [], true⟩,
⟨some 5, .move (.tmp 10), none, [], true⟩])
(.seq (.drawn [
⟨some 11, .load (some 2) (.tmp 3), none, [], false⟩,
⟨some 12, .move (.tmp 0), none, [], false⟩,
⟨some 13, .move (.tmp 5), none, [], false⟩,
⟨some 14, .indexAddr 2 (.tmp 12) (.tmp 13), none, [1, 2], false⟩,
⟨some 15, .load (some 2) (.tmp 14), none, [3, 1, 2], false⟩,
⟨some 16, .eqAgg false [.int, .int] (.tmp 11) (.tmp 15), none, [0, 4, 3, 1, 2], true⟩])
(.cond (.tmp 16)
(.seq (.region [
⟨some 17, .move (.tmp 5), none, [], true⟩,
⟨some 4, .move (.tmp 17), none, [], true⟩])
.ret)
.skip))))
(.region [
⟨some 18, .bin .add (.tmp 8) (.const (.int .i64 1)), none, [], true⟩,
⟨some 8, .move (.tmp 18), none, [], true⟩])))))))
(.seq (.region [
⟨some 4, .move (.const (.int .i64 (-1))), none, [], true⟩])
.ret))) }
theorem ir56_eq : funcC Try.prog 56 = some ir56 := by kernel_rfl
def ir57 : IFunc :=
{ ntmps := 12, results := [.cell 2 (some 3), .cell 3 none], body :=
(.seq (.region [
⟨some 2, .box (.const (.agg #[(.int .i64 0), (.int .u64 0), (.int .i64 0)])), none, [], true⟩,
⟨some 3, .box (.const (.bool false)), none, [], true⟩])
(.seq (.seq (.region [
⟨some 6, .move (.tmp 0), none, [], true⟩,
⟨some 7, .call (.const (.func (.func 69) #[] #[])) [(.tmp 6)], none, [], true⟩])
(.block 0 (.rangeFunc (.tmp 7) [8, 9]
(.region [
⟨some 5, .box (.const (.agg #[(.int .i64 0), (.int .u64 0), (.int .i64 0)])), none, [], true⟩,
⟨none, .store 3 (.tmp 5) (.tmp 9), none, [], true⟩])
(.block 1 (.seq (.region [
⟨some 10, .load (some 3) (.tmp 5), none, [], true⟩,
⟨none, .store 3 (.tmp 2) (.tmp 10), none, [], true⟩,
⟨none, .store 1 (.tmp 3) (.const (.bool true)), none, [], true⟩])
.ret)))))
(.seq (.region [
⟨some 11, .build [(.int .i64 0), (.int .u64 0), (.int .i64 0)] [], none, [], true⟩,
⟨none, .store 3 (.tmp 2) (.tmp 11), none, [], true⟩,
⟨none, .store 1 (.tmp 3) (.const (.bool false)), none, [], true⟩])
.ret))) }
theorem ir57_eq : funcC Try.prog 57 = some ir57 := by kernel_rfl
def ir58 : IFunc :=
{ ntmps := 78, results := [.tmp 4, .tmp 5], body :=
(.seq (.region [
⟨some 3, .box (.tmp 1), none, [], true⟩,
⟨some 4, .move (.const (.bool false)), none, [], true⟩,
⟨some 5, .move (.const (.int .i64 0)), none, [], true⟩])
(.seq (.block 0 (.seq (.region [
⟨some 8, .move (.tmp 0), none, [], true⟩,
⟨some 9, .eqPtr false (.tmp 8) (.const (.pointer none)), none, [], true⟩,
⟨some 7, .move (.tmp 9), none, [], true⟩])
(.cond (.tmp 7)
(.seq (.region [
⟨some 4, .move (.const (.bool false)), none, [], true⟩,
⟨some 5, .move (.const (.int .i64 1)), none, [], true⟩])
.ret)
(.seq (.region [
⟨some 11, .fieldAddr 0 (.tmp 3), none, [], true⟩,
⟨some 12, .load none (.tmp 11), none, [], true⟩,
⟨some 13, .bin .lss (.tmp 12) (.const (.int .i64 0)), none, [], true⟩,
⟨some 14, .move (.tmp 13), none, [], true⟩,
⟨some 15, .fieldAddr 0 (.tmp 3), (some (14, false)), [], true⟩,
⟨some 16, .load none (.tmp 15), (some (14, false)), [], true⟩,
⟨some 17, .bin .geq (.tmp 16) (.const (.int .i64 64)), (some (14, false)), [], true⟩,
⟨some 18, .pick (.tmp 14) (.const (.bool true)) (.tmp 17), none, [], true⟩,
⟨some 19, .move (.tmp 18), none, [], true⟩,
⟨some 20, .fieldAddr 2 (.tmp 3), (some (19, false)), [], true⟩,
⟨some 21, .load none (.tmp 20), (some (19, false)), [], true⟩,
⟨some 22, .bin .lss (.tmp 21) (.const (.int .i64 0)), (some (19, false)), [], true⟩,
⟨some 23, .pick (.tmp 19) (.const (.bool true)) (.tmp 22), none, [], true⟩,
⟨some 24, .move (.tmp 23), none, [], true⟩,
⟨some 25, .fieldAddr 2 (.tmp 3), (some (24, false)), [], true⟩,
⟨some 26, .load none (.tmp 25), (some (24, false)), [], true⟩,
⟨some 27, .bin .gtr (.tmp 26) (.const (.int .i64 15)), (some (24, false)), [], true⟩,
⟨some 28, .pick (.tmp 24) (.const (.bool true)) (.tmp 27), none, [], true⟩,
⟨some 10, .move (.tmp 28), none, [], true⟩])
(.cond (.tmp 10)
(.seq (.region [
⟨some 4, .move (.const (.bool false)), none, [], true⟩,
⟨some 5, .move (.const (.int .i64 2)), none, [], true⟩])
.ret)
.skip)))))
(.seq (.region [
⟨some 29, .move (.tmp 0), none, [], true⟩,
⟨some 30, .fieldAddr 0 (.tmp 3), none, [], true⟩,
⟨some 31, .load none (.tmp 30), none, [], true⟩,
⟨some 32, .call (.const (.func (.func 67) #[] #[])) [(.tmp 29), (.tmp 31)], none, [], true⟩,
⟨some 6, .move (.tmp 32), none, [], true⟩])
(.seq (.block 1 (.seq (.region [
⟨some 34, .move (.tmp 6), none, [], true⟩,
⟨some 35, .bin .lss (.tmp 34) (.const (.int .i64 0)), none, [], true⟩,
⟨some 36, .move (.tmp 35), none, [], true⟩,
⟨some 37, .move (.tmp 0), (some (36, true)), [], true⟩,
⟨some 38, .nilCheck (.tmp 37), (some (36, true)), [], true⟩,
⟨some 39, .fieldAddr 0 (.tmp 38), (some (36, true)), [], true⟩,
⟨some 40, .load none (.tmp 39), (some (36, true)), [], true⟩,
⟨some 41, .lenSlice (.tmp 40), (some (36, true)), [], true⟩,
⟨some 42, .bin .geq (.tmp 41) (.const (.int .i64 8)), (some (36, true)), [], true⟩,
⟨some 43, .pick (.tmp 36) (.tmp 42) (.const (.bool false)), none, [], true⟩,
⟨some 33, .move (.tmp 43), none, [], true⟩])
(.cond (.tmp 33)
(.seq (.region [
⟨some 4, .move (.const (.bool false)), none, [], true⟩,
⟨some 5, .move (.const (.int .i64 0)), none, [], true⟩])
.ret)
(.seq (.region [
⟨some 45, .move (.tmp 6), none, [], true⟩,
⟨some 46, .bin .lss (.tmp 45) (.const (.int .i64 0)), none, [], true⟩,
⟨some 44, .move (.tmp 46), none, [], true⟩])
(.cond (.tmp 44)
(.drawn [
⟨some 47, .move (.tmp 0), none, [], false⟩,
⟨some 48, .move (.tmp 0), none, [], false⟩,
⟨some 49, .nilCheck (.tmp 48), none, [1], false⟩,
⟨some 50, .fieldAddr 0 (.tmp 49), none, [2, 1], false⟩,
⟨some 51, .load none (.tmp 50), none, [3, 2, 1], false⟩,
⟨some 52, .load (some 3) (.tmp 3), none, [], false⟩,
⟨some 53, .buildSlice 3 1 [(.int .i64 0), (.int .u64 0), (.int .i64 0)] [(0, (.tmp 52))], none, [5], false⟩,
⟨some 54, .append 3 24 (.tmp 51) (.tmp 53), none, [4, 6, 3, 2, 1, 5], true⟩,
⟨some 55, .nilCheck (.tmp 47), none, [0, 1, 2, 3, 4, 5, 6, 7], true⟩,
⟨some 56, .fieldAddr 0 (.tmp 55), none, [8, 0, 1, 2, 3, 4, 5, 6, 7], true⟩,
⟨none, .store 1 (.tmp 56) (.tmp 54), none, [9, 7, 0, 1, 2, 3, 4, 5, 6, 8], true⟩])
(.seq (.drawn [
⟨some 58, .move (.tmp 0), none, [], false⟩,
⟨some 59, .nilCheck (.tmp 58), none, [0], false⟩,
⟨some 60, .fieldAddr 0 (.tmp 59), none, [1, 0], false⟩,
⟨some 61, .load none (.tmp 60), none, [2, 1, 0], false⟩,
⟨some 62, .move (.tmp 6), none, [], false⟩,
⟨some 63, .indexAddr 3 (.tmp 61) (.tmp 62), none, [3, 4, 2, 1, 0], false⟩,
⟨some 64, .fieldAddr 2 (.tmp 63), none, [5, 3, 4, 2, 1, 0], false⟩,
⟨some 65, .load none (.tmp 64), none, [6, 5, 3, 4, 2, 1, 0], false⟩,
⟨some 66, .fieldAddr 2 (.tmp 3), none, [], false⟩,
⟨some 67, .load none (.tmp 66), none, [8], false⟩,
⟨some 68, .bin .lss (.tmp 65) (.tmp 67), none, [7, 9, 6, 5, 3, 4, 2, 1, 0, 8], true⟩,
⟨some 57, .move (.tmp 68), none, [10, 7, 9, 6, 5, 3, 4, 2, 1, 0, 8], true⟩])
(.cond (.tmp 57)
(.drawn [
⟨some 69, .move (.tmp 0), none, [], false⟩,
⟨some 70, .nilCheck (.tmp 69), none, [0], false⟩,
⟨some 71, .fieldAddr 0 (.tmp 70), none, [1, 0], false⟩,
⟨some 72, .load none (.tmp 71), none, [2, 1, 0], false⟩,
⟨some 73, .move (.tmp 6), none, [], false⟩,
⟨some 74, .load (some 3) (.tmp 3), none, [], false⟩,
⟨some 75, .indexAddr 3 (.tmp 72) (.tmp 73), none, [3, 4, 0, 1, 2, 5], true⟩,
⟨none, .store 3 (.tmp 75) (.tmp 74), none, [6, 5, 0, 1, 2, 3, 4], true⟩])
.skip)))))))
(.seq (.region [
⟨some 76, .move (.tmp 0), none, [], true⟩,
⟨some 77, .call (.const (.func (.func 70) #[] #[])) [(.tmp 76)], none, [], true⟩])
(.seq (.region [
⟨some 4, .move (.const (.bool true)), none, [], true⟩,
⟨some 5, .move (.const (.int .i64 0)), none, [], true⟩])
.ret)))))) }
theorem ir58_eq : funcC Try.prog 58 = some ir58 := by kernel_rfl
def ir66 : IFunc :=
{ ntmps := 8, results := [.tmp 2], body :=
(.seq (.region [
⟨some 2, .move (.const (.slice none 0 0)), none, [], true⟩])
(.seq (.seq (.region [
⟨some 3, .move (.tmp 0), none, [], true⟩,
⟨some 4, .eqSlice false (.tmp 3) (.const (.slice none 0 0)), none, [], true⟩])
(.cond (.tmp 4)
(.seq (.region [
⟨some 2, .move (.const (.slice none 0 0)), none, [], true⟩])
.ret)
.skip))
(.seq (.region [
⟨some 5, .buildSlice 3 0 [(.int .i64 0), (.int .u64 0), (.int .i64 0)] [], none, [], true⟩,
⟨some 6, .move (.tmp 0), none, [], true⟩,
⟨some 7, .append 3 24 (.tmp 5) (.tmp 6), none, [], true⟩,
⟨some 2, .move (.tmp 7), none, [], true⟩])
.ret))) }
theorem ir66_eq : funcC Try.prog 66 = some ir66 := by kernel_rfl
def ir67 : IFunc :=
{ ntmps := 18, results := [.tmp 4], body :=
(.seq (.region [
⟨some 3, .box (.tmp 1), none, [], true⟩,
⟨some 4, .move (.const (.int .i64 0)), none, [], true⟩])
(.seq (.region [
⟨some 5, .box (.const (.int .i64 0)), none, [], true⟩,
⟨none, .store 1 (.tmp 5) (.const (.int .i64 (-1))), none, [], true⟩])
(.seq .skip
(.seq (.seq (.region [
⟨some 8, .move (.tmp 0), none, [], true⟩,
⟨some 9, .call (.const (.func (.func 69) #[] #[])) [(.tmp 8)], none, [], true⟩])
(.block 0 (.rangeFunc (.tmp 9) [10, 11]
(.seq (.region [
⟨some 6, .move (.tmp 10), none, [], true⟩])
(.region [
⟨some 7, .box (.const (.agg #[(.int .i64 0), (.int .u64 0), (.int .i64 0)])), none, [], true⟩,
⟨none, .store 3 (.tmp 7) (.tmp 11), none, [], true⟩]))
(.block 1 (.seq (.region [
⟨some 12, .fieldAddr 0 (.tmp 7), none, [], true⟩,
⟨some 13, .load none (.tmp 12), none, [], true⟩,
⟨some 14, .load none (.tmp 3), none, [], true⟩,
⟨some 15, .bin .eql (.tmp 13) (.tmp 14), none, [], true⟩])
(.cond (.tmp 15)
(.seq (.region [
⟨some 16, .move (.tmp 6), none, [], true⟩,
⟨none, .store 1 (.tmp 5) (.tmp 16), none, [], true⟩])
(.exit 0))
.skip))))))
(.seq (.region [
⟨some 17, .load none (.tmp 5), none, [], true⟩,
⟨some 4, .move (.tmp 17), none, [], true⟩])
.ret))))) }
theorem ir67_eq : funcC Try.prog 67 = some ir67 := by kernel_rfl
def ir68 : IFunc :=
{ ntmps := 33, results := [.tmp 6], body :=
(.seq (.region [
⟨some 6, .move (.const (.slice none 0 0)), none, [], true⟩])
(.seq (.region [
⟨some 8, .move (.tmp 0), none, [], true⟩,
⟨some 9, .move (.tmp 1), none, [], true⟩,
⟨some 10, .move (.tmp 2), none, [], true⟩,
⟨some 11, .move (.tmp 0), none, [], true⟩,
⟨some 12, .lenSlice (.tmp 11), none, [], true⟩,
⟨some 13, .slice 3 (.tmp 8) (some (.tmp 9)) (some (.tmp 10)) (some (.tmp 12)), none, [], true⟩])
(.seq (.seq (.region [
⟨some 14, .move (.tmp 1), none, [], true⟩,
⟨some 15, .move (.tmp 2), none, [], true⟩,
⟨some 16, .bin .eql (.tmp 14) (.tmp 15), none, [], true⟩])
(.cond (.tmp 16)
(.seq (.region [
⟨some 17, .move (.tmp 0), none, [], true⟩,
⟨some 6, .move (.tmp 17), none, [], true⟩])
.ret)
.skip))
(.seq (.region [
⟨some 18, .move (.tmp 0), none, [], true⟩,
⟨some 19, .lenSlice (.tmp 18), none, [], true⟩,
⟨some 7, .move (.tmp 19), none, [], true⟩])
(.seq (.drawn [
⟨some 20, .move (.tmp 0), none, [], true⟩,
⟨some 21, .move (.tmp 1), none, [], true⟩,
⟨some 22, .slice 3 (.tmp 20) none (some (.tmp 21)) none, none, [0, 1], true⟩,
⟨some 23, .move (.tmp 0), none, [], true⟩,
⟨some 24, .move (.tmp 2), none, [], true⟩,
⟨some 25, .slice 3 (.tmp 23) (some (.tmp 24)) none none, none, [3, 4], true⟩,
⟨some 26, .append 3 24 (.tmp 22) (.tmp 25), none, [2, 5, 0, 1, 3, 4], true⟩,
⟨some 0, .move (.tmp 26), none, [6, 0, 1, 2, 3, 4, 5], true⟩])
(.seq (.region [
⟨some 27, .move (.tmp 0), none, [], true⟩,
⟨some 28, .move (.tmp 0), none, [], true⟩,
⟨some 29, .lenSlice (.tmp 28), none, [], true⟩,
⟨some 30, .move (.tmp 7), none, [], true⟩,
⟨some 31, .slice 3 (.tmp 27) (some (.tmp 29)) (some (.tmp 30)) none, none, [], true⟩,
⟨none, .clearSlice 3 [(.int .i64 0), (.int .u64 0), (.int .i64 0)] (.tmp 31), none, [], true⟩])
(.seq (.region [
⟨some 32, .move (.tmp 0), none, [], true⟩,
⟨some 6, .move (.tmp 32), none, [], true⟩])
.ret))))))) }
theorem ir68_eq : funcC Try.prog 68 = some ir68 := by kernel_rfl
def ir69 : IFunc :=
{ ntmps := 4, results := [.tmp 2], body :=
(.seq (.region [
⟨some 1, .box (.tmp 0), none, [], true⟩,
⟨some 2, .move (.const .nilFunc), none, [], true⟩])
(.seq (.region [
⟨some 3, .func (.func 73) [] [(.tmp 1)], none, [], true⟩,
⟨some 2, .move (.tmp 3), none, [], true⟩])
.ret)) }
theorem ir69_eq : funcC Try.prog 69 = some ir69 := by kernel_rfl
def ir70 : IFunc :=
{ ntmps := 7, results := [], body :=
(.region [
⟨some 2, .move (.tmp 0), none, [], true⟩,
⟨some 3, .nilCheck (.tmp 2), none, [], true⟩,
⟨some 4, .fieldAddr 0 (.tmp 3), none, [], true⟩,
⟨some 5, .load none (.tmp 4), none, [], true⟩,
⟨some 6, .call (.const (.func (.func 74) #[] #[])) [(.tmp 5), (.const (.func (.func 75) #[] #[]))], none, [], true⟩]) }
theorem ir70_eq : funcC Try.prog 70 = some ir70 := by kernel_rfl
def ir73 : IFunc :=
{ ntmps := 23, results := [], body :=
(.seq (.seq (.region [
⟨some 5, .load none (.tmp 1), none, [], true⟩,
⟨some 6, .eqPtr false (.tmp 5) (.const (.pointer none)), none, [], true⟩])
(.cond (.tmp 6)
.ret
.skip))
(.seq (.region [
⟨some 7, .load none (.tmp 1), none, [], true⟩,
⟨some 8, .nilCheck (.tmp 7), none, [], true⟩,
⟨some 9, .fieldAddr 0 (.tmp 8), none, [], true⟩,
⟨some 10, .load none (.tmp 9), none, [], true⟩,
⟨some 11, .lenSlice (.tmp 10), none, [], true⟩,
⟨some 12, .move (.const (.int .i64 0)), none, [], true⟩])
(.block 0 (.loop (.seq (.region [
⟨some 13, .bin .lss (.tmp 12) (.tmp 11), none, [], true⟩])
(.seq (.cond (.tmp 13)
.skip
(.exit 0))
(.seq (.block 1 (.seq (.region [
⟨some 14, .move (.tmp 12), none, [], true⟩,
⟨some 15, .indexAddr 3 (.tmp 10) (.tmp 12), none, [], true⟩,
⟨some 16, .load (some 3) (.tmp 15), none, [], true⟩,
⟨some 4, .box (.const (.agg #[(.int .i64 0), (.int .u64 0), (.int .i64 0)])), none, [], true⟩,
⟨some 3, .move (.tmp 14), none, [], true⟩,
⟨none, .store 3 (.tmp 4) (.tmp 16), none, [], true⟩])
(.seq (.region [
⟨some 17, .move (.tmp 0), none, [], true⟩,
⟨some 18, .move (.tmp 3), none, [], true⟩,
⟨some 19, .load (some 3) (.tmp 4), none, [], true⟩,
⟨some 20, .call (.tmp 17) [(.tmp 18), (.tmp 19)], none, [], true⟩,
⟨some 21, .un .not (.tmp 20), none, [], true⟩])
(.cond (.tmp 21)
.ret
.skip))))
(.region [
⟨some 22, .bin .add (.tmp 12) (.const (.int .i64 1)), none, [], true⟩,
⟨some 12, .move (.tmp 22), none, [], true⟩])))))))) }
theorem ir73_eq : funcC Try.prog 73 = some ir73 := by kernel_rfl
def ir74 : IFunc :=
{ ntmps := 14, results := [], body :=
(.seq (.region [
⟨some 5, .move (.tmp 0), none, [], true⟩,
⟨some 6, .lenSlice (.tmp 5), none, [], true⟩,
⟨some 4, .move (.tmp 6), none, [], true⟩])
(.region [
⟨some 7, .move (.tmp 0), none, [], true⟩,
⟨some 8, .move (.tmp 4), none, [], true⟩,
⟨some 9, .move (.tmp 4), none, [], true⟩,
⟨some 10, .conv .u64 (.tmp 9), none, [], true⟩,
⟨some 11, .call (.const (.func (.func 78) #[] #[])) [(.tmp 10)], none, [], true⟩,
⟨some 12, .move (.tmp 1), none, [], true⟩,
⟨some 13, .call (.const (.func (.func 77) #[] #[])) [(.tmp 7), (.const (.int .i64 0)), (.tmp 8), (.tmp 11), (.tmp 12)], none, [], true⟩])) }
theorem ir74_eq : funcC Try.prog 74 = some ir74 := by kernel_rfl
def ir75 : IFunc :=
{ ntmps := 8, results := [.tmp 4], body :=
(.seq (.region [
⟨some 2, .box (.tmp 0), none, [], true⟩,
⟨some 3, .box (.tmp 1), none, [], true⟩,
⟨some 4, .move (.const (.int .i64 0)), none, [], true⟩])
(.seq (.region [
⟨some 5, .load (some 3) (.tmp 2), none, [], true⟩,
⟨some 6, .load (some 3) (.tmp 3), none, [], true⟩,
⟨some 7, .call (.const (.func (.func 76) #[] #[])) [(.tmp 5), (.tmp 6)], none, [], true⟩,
⟨some 4, .move (.tmp 7), none, [], true⟩])
.ret)) }
theorem ir75_eq : funcC Try.prog 75 = some ir75 := by kernel_rfl
def ir76 : IFunc :=
{ ntmps := 22, results := [.tmp 4], body :=
(.seq (.region [
⟨some 2, .box (.tmp 0), none, [], true⟩,
⟨some 3, .box (.tmp 1), none, [], true⟩,
⟨some 4, .move (.const (.int .i64 0)), none, [], true⟩])
(.seq (.drawn [
⟨some 5, .fieldAddr 2 (.tmp 3), none, [], false⟩,
⟨some 6, .load none (.tmp 5), none, [0], false⟩,
⟨some 7, .fieldAddr 2 (.tmp 2), none, [], false⟩,
⟨some 8, .load none (.tmp 7), none, [2], false⟩,
⟨some 9, .call (.const (.func (.func 80) #[] #[])) [(.tmp 6), (.tmp 8)], none, [1, 3, 0, 2], false⟩,
⟨some 10, .fieldAddr 1 (.tmp 2), none, [], false⟩,
⟨some 11, .load none (.tmp 10), none, [5], false⟩,
⟨some 12, .fieldAddr 1 (.tmp 3), none, [], false⟩,
⟨some 13, .load none (.tmp 12), none, [7], false⟩,
⟨some 14, .call (.const (.func (.func 81) #[] #[])) [(.tmp 11), (.tmp 13)], none, [6, 8, 4, 5, 7, 1, 3, 0, 2], false⟩,
⟨some 15, .fieldAddr 0 (.tmp 2), none, [], false⟩,
⟨some 16, .load none (.tmp 15), none, [10], false⟩,
⟨some 17, .fieldAddr 0 (.tmp 3), none, [], false⟩,
⟨some 18, .load none (.tmp 17), none, [12], false⟩,
⟨some 19, .call (.const (.func (.func 80) #[] #[])) [(.tmp 16), (.tmp 18)], none, [11, 13, 9, 10, 12, 6, 8, 4, 5, 7, 1, 3, 0, 2], true⟩,
⟨some 20, .buildSlice 1 3 [(.int .i64 0)] [(0, (.tmp 9)), (1, (.tmp 14)), (2, (.tmp 19))], none, [4, 9, 14, 1, 3, 0, 2, 6, 8, 5, 7, 11, 13, 10, 12], true⟩,
⟨some 21, .call (.const (.func (.func 79) #[] #[])) [(.tmp 20)], none, [15, 14, 4, 9, 1, 3, 0, 2, 6, 8, 5, 7, 11, 13, 10, 12], true⟩,
⟨some 4, .move (.tmp 21), none, [16, 0, 1, 2, 3, 4, 5, 6, 7, 8, 9, 10, 11, 12, 13, 14, 15], true⟩])
.ret)) }
theorem ir76_eq : funcC Try.prog 76 = some ir76 := by kernel_rfl
def ir77 : IFunc :=
{ ntmps := 148, results := [], body :=
(.seq (.region [
⟨some 10, .move (.const (.bool true)), none, [], true⟩])
(.seq (.region [
⟨some 11, .move (.const (.bool true)), none, [], true⟩])
(.block 0 (.loop (.block 1 (.seq (.region [
⟨some 21, .move (.tmp 2), none, [], true⟩,
⟨some 22, .move (.tmp 1), none, [], true⟩,
⟨some 23, .bin .sub (.tmp 21) (.tmp 22), none, [], true⟩,
⟨some 12, .move (.tmp 23), none, [], true⟩])
(.seq (.seq (.region [
⟨some 24, .move (.tmp 12), none, [], true⟩,
⟨some 25, .bin .leq (.tmp 24) (.const (.int .i64 12)), none, [], true⟩])
(.cond (.tmp 25)
(.seq (.region [
⟨some 26, .move (.tmp 0), none, [], true⟩,
⟨some 27, .move (.tmp 1), none, [], true⟩,
⟨some 28, .move (.tmp 2), none, [], true⟩,
⟨some 29, .move (.tmp 4), none, [], true⟩,
⟨some 30, .call (.const (.func (.func 82) #[] #[])) [(.tmp 26), (.tmp 27), (.tmp 28), (.tmp 29)], none, [], true⟩])
.ret)
.skip))
(.seq (.seq (.region [
⟨some 31, .move (.tmp 3), none, [], true⟩,
⟨some 32, .bin .eql (.tmp 31) (.const (.int .i64 0)), none, [], true⟩])
(.cond (.tmp 32)
(.seq (.region [
⟨some 33, .move (.tmp 0), none, [], true⟩,
⟨some 34, .move (.tmp 1), none, [], true⟩,
⟨some 35, .move (.tmp 2), none, [], true⟩,
⟨some 36, .move (.tmp 4), none, [], true⟩,
⟨some 37, .call (.const (.func (.func 83) #[] #[])) [(.tmp 33), (.tmp 34), (.tmp 35), (.tmp 36)], none, [], true⟩])
.ret)
.skip))
(.seq (.seq (.region [
⟨some 38, .move (.tmp 10), none, [], true⟩,
⟨some 39, .un .not (.tmp 38), none, [], true⟩])
(.cond (.tmp 39)
(.seq (.region [
⟨some 40, .move (.tmp 0), none, [], true⟩,
⟨some 41, .move (.tmp 1), none, [], true⟩,
⟨some 42, .move (.tmp 2), none, [], true⟩,
⟨some 43, .move (.tmp 4), none, [], true⟩,
⟨some 44, .call (.const (.func (.func 84) #[] #[])) [(.tmp 40), (.tmp 41), (.tmp 42), (.tmp 43)], none, [], true⟩])
(.region [
⟨some 45, .move (.tmp 3), none, [], true⟩,
⟨some 46, .bin .sub (.tmp 45) (.const (.int .i64 1)), none, [], true⟩,
⟨some 3, .move (.tmp 46), none, [], true⟩]))
.skip))
(.seq (.region [
⟨some 48, .move (.tmp 0), none, [], true⟩,
⟨some 49, .move (.tmp 1), none, [], true⟩,
⟨some 50, .move (.tmp 2), none, [], true⟩,
⟨some 51, .move (.tmp 4), none, [], true⟩,
⟨some 52, .call (.const (.func (.func 85) #[] #[])) [(.tmp 48), (.tmp 49), (.tmp 50), (.tmp 51)], none, [], true⟩,
⟨some 47, .move (.tmp 52), none, [], true⟩,
⟨some 53, .extract (.tmp 47) 0, none, [], true⟩,
⟨some 54, .extract (.tmp 47) 1, none, [], true⟩,
⟨some 13, .move (.tmp 53), none, [], true⟩,
⟨some 14, .move (.tmp 54), none, [], true⟩])
(.seq (.seq (.region [
⟨some 55, .move (.tmp 14), none, [], true⟩,
⟨some 56, .bin .eql (.tmp 55) (.const (.int .i64 2)), none, [], true⟩])
(.cond (.tmp 56)
(.seq (.region [
⟨some 57, .move (.tmp 0), none, [], true⟩,
⟨some 58, .move (.tmp 1), none, [], true⟩,
⟨some 59, .move (.tmp 2), none, [], true⟩,
⟨some 60, .move (.tmp 4), none, [], true⟩,
⟨some 61, .call (.const (.func (.func 86) #[] #[])) [(.tmp 57), (.tmp 58), (.tmp 59), (.tmp 60)], none, [], true⟩])
(.seq (.region [
⟨some 62, .move (.tmp 2), none, [], true⟩,
⟨some 63, .bin .sub (.tmp 62) (.const (.int .i64 1)), none, [], true⟩,
⟨some 64, .move (.tmp 13), none, [], true⟩,
⟨some 65, .move (.tmp 1), none, [], true⟩,
⟨some 66, .bin .sub (.tmp 64) (.tmp 65), none, [], true⟩,
⟨some 67, .bin .sub (.tmp 63) (.tmp 66), none, [], true⟩,
⟨some 13, .move (.tmp 67), none, [], true⟩])
(.region [
⟨some 14, .move (.const (.int .i64 1)), none, [], true⟩])))
.skip))
(.seq (.seq (.region [
⟨some 68, .move (.tmp 10), none, [], true⟩,
⟨some 69, .move (.tmp 68), none, [], true⟩,
⟨some 70, .move (.tmp 11), (some (69, true)), [], true⟩,
⟨some 71, .pick (.tmp 69) (.tmp 70) (.const (.bool false)), none, [], true⟩,
⟨some 72, .move (.tmp 71), none, [], true⟩,
⟨some 73, .move (.tmp 14), (some (72, true)), [], true⟩,
⟨some 74, .bin .eql (.tmp 73) (.const (.int .i64 1)), (some (72, true)), [], true⟩,
⟨some 75, .pick (.tmp 72) (.tmp 74) (.const (.bool false)), none, [], true⟩])
(.cond (.tmp 75)
(.seq (.region [
⟨some 76, .move (.tmp 0), none, [], true⟩,
⟨some 77, .move (.tmp 1), none, [], true⟩,
⟨some 78, .move (.tmp 2), none, [], true⟩,
⟨some 79, .move (.tmp 4), none, [], true⟩,
⟨some 80, .call (.const (.func (.func 87) #[] #[])) [(.tmp 76), (.tmp 77), (.tmp 78), (.tmp 79)], none, [], true⟩])
(.cond (.tmp 80)
.ret
.skip))
.skip))
(.seq (.seq (.drawn [
⟨some 81, .move (.tmp 1), none, [], true⟩,
⟨some 82, .bin .gtr (.tmp 81) (.const (.int .i64 0)), none, [0], true⟩,
⟨some 83, .move (.tmp 82), none, [1, 0], true⟩,
⟨some 84, .move (.tmp 4), (some (83, true)), [2, 1, 0], false⟩,
⟨some 85, .move (.tmp 0), (some (83, true)), [2, 1, 0], false⟩,
⟨some 86, .move (.tmp 1), (some (83, true)), [2, 1, 0], false⟩,
⟨some 87, .bin .sub (.tmp 86) (.const (.int .i64 1)), (some (83, true)), [5, 2, 1, 0], false⟩,
⟨some 88, .indexAddr 3 (.tmp 85) (.tmp 87), (some (83, true)), [4, 6, 2, 1, 0, 5], false⟩,
⟨some 89, .load (some 3) (.tmp 88), (some (83, true)), [7, 2, 4, 6, 1, 0, 5], false⟩,
⟨some 90, .move (.tmp 0), (some (83, true)), [2, 1, 0], false⟩,
⟨some 91, .move (.tmp 13), (some (83, true)), [2, 1, 0], false⟩,
⟨some 92, .indexAddr 3 (.tmp 90) (.tmp 91), (some (83, true)), [9, 10, 2, 1, 0], false⟩,
⟨some 93, .load (some 3) (.tmp 92), (some (83, true)), [11, 2, 9, 10, 1, 0], false⟩,
⟨some 94, .call (.tmp 84) [(.tmp 89), (.tmp 93)], (some (83, true)), [3, 8, 12, 2, 1, 0, 7, 4, 6, 5, 11, 9, 10], true⟩,
⟨some 95, .bin .lss (.tmp 94) (.const (.int .i64 0)), (some (83, true)), [13, 2, 3, 8, 12, 1, 0, 7, 4, 6, 5, 11, 9, 10], true⟩,
⟨some 96, .un .not (.tmp 95), (some (83, true)), [14, 2, 13, 3, 8, 12, 1, 0, 7, 4, 6, 5, 11, 9, 10], true⟩,
⟨some 97, .pick (.tmp 83) (.tmp 96) (.const (.bool false)), none, [2, 15, 1, 0, 14, 13, 3, 8, 12, 7, 4, 6, 5, 11, 9, 10], true⟩])
(.cond (.tmp 97)
(.seq (.region [
⟨some 98, .move (.tmp 0), none, [], true⟩,
⟨some 99, .move (.tmp 1), none, [], true⟩,
⟨some 100, .move (.tmp 2), none, [], true⟩,
⟨some 101, .move (.tmp 13), none, [], true⟩,
⟨some 102, .move (.tmp 4), none, [], true⟩,
⟨some 103, .call (.const (.func (.func 88) #[] #[])) [(.tmp 98), (.tmp 99), (.tmp 100), (.tmp 101), (.tmp 102)], none, [], true⟩,
⟨some 15, .move (.tmp 103), none, [], true⟩])
(.seq (.region [
⟨some 104, .move (.tmp 15), none, [], true⟩,
⟨some 1, .move (.tmp 104), none, [], true⟩])
(.exit 1)))
.skip))
(.seq (.region [
⟨some 106, .move (.tmp 0), none, [], true⟩,
⟨some 107, .move (.tmp 1), none, [], true⟩,
⟨some 108, .move (.tmp 2), none, [], true⟩,
⟨some 109, .move (.tmp 13), none, [], true⟩,
⟨some 110, .move (.tmp 4), none, [], true⟩,
⟨some 111, .call (.const (.func (.func 89) #[] #[])) [(.tmp 106), (.tmp 107), (.tmp 108), (.tmp 109), (.tmp 110)], none, [], true⟩,
⟨some 105, .move (.tmp 111), none, [], true⟩,
⟨some 112, .extract (.tmp 105) 0, none, [], true⟩,
⟨some 113, .extract (.tmp 105) 1, none, [], true⟩,
⟨some 16, .move (.tmp 112), none, [], true⟩,
⟨some 17, .move (.tmp 113), none, [], true⟩])
(.seq (.region [
⟨some 114, .move (.tmp 17), none, [], true⟩,
⟨some 11, .move (.tmp 114), none, [], true⟩])
(.seq (.region [
⟨some 115, .move (.tmp 16), none, [], true⟩,
⟨some 116, .move (.tmp 1), none, [], true⟩,
⟨some 117, .bin .sub (.tmp 115) (.tmp 116), none, [], true⟩,
⟨some 118, .move (.tmp 2), none, [], true⟩,
⟨some 119, .move (.tmp 16), none, [], true⟩,
⟨some 120, .bin .sub (.tmp 118) (.tmp 119), none, [], true⟩,
⟨some 18, .move (.tmp 117), none, [], true⟩,
⟨some 19, .move (.tmp 120), none, [], true⟩])
(.seq (.region [
⟨some 121, .move (.tmp 12), none, [], true⟩,
⟨some 122, .bin .quo (.tmp 121) (.const (.int .i64 8)), none, [], true⟩,
⟨some 20, .move (.tmp 122), none, [], true⟩])
(.seq (.region [
⟨some 123, .move (.tmp 18), none, [], true⟩,
⟨some 124, .move (.tmp 19), none, [], true⟩,
⟨some 125, .bin .lss (.tmp 123) (.tmp 124), none, [], true⟩])
(.cond (.tmp 125)
(.seq (.region [
⟨some 126, .move (.tmp 18), none, [], true⟩,
⟨some 127, .move (.tmp 20), none, [], true⟩,
⟨some 128, .bin .geq (.tmp 126) (.tmp 127), none, [], true⟩,
⟨some 10, .move (.tmp 128), none, [], true⟩])
(.seq (.region [
⟨some 129, .move (.tmp 0), none, [], true⟩,
⟨some 130, .move (.tmp 1), none, [], true⟩,
⟨some 131, .move (.tmp 16), none, [], true⟩,
⟨some 132, .move (.tmp 3), none, [], true⟩,
⟨some 133, .move (.tmp 4), none, [], true⟩,
⟨some 134, .call (.const (.func (.func 77) #[] #[])) [(.tmp 129), (.tmp 130), (.tmp 131), (.tmp 132), (.tmp 133)], none, [], true⟩])
(.region [
⟨some 135, .move (.tmp 16), none, [], true⟩,
⟨some 136, .bin .add (.tmp 135) (.const (.int .i64 1)), none, [], true⟩,
⟨some 1, .move (.tmp 136), none, [], true⟩])))
(.seq (.region [
⟨some 137, .move (.tmp 19), none, [], true⟩,
⟨some 138, .move (.tmp 20), none, [], true⟩,
⟨some 139, .bin .geq (.tmp 137) (.tmp 138), none, [], true⟩,
⟨some 10, .move (.tmp 139), none, [], true⟩])
(.seq (.region [
⟨some 140, .move (.tmp 0), none, [], true⟩,
⟨some 141, .move (.tmp 16), none, [], true⟩,
⟨some 142, .bin .add (.tmp 141) (.const (.int .i64 1)), none, [], true⟩,
⟨some 143, .move (.tmp 2), none, [], true⟩,
⟨some 144, .move (.tmp 3), none, [], true⟩,
⟨some 145, .move (.tmp 4), none, [], true⟩,
⟨some 146, .call (.const (.func (.func 77) #[] #[])) [(.tmp 140), (.tmp 142), (.tmp 143), (.tmp 144), (.tmp 145)], none, [], true⟩])
(.region [
⟨some 147, .move (.tmp 16), none, [], true⟩,
⟨some 2, .move (.tmp 147), none, [], true⟩])))))))))))))))))))))) }
theorem ir77_eq : funcC Try.prog 77 = some ir77 := by kernel_rfl
def ir78 : IFunc :=
{ ntmps := 8, results := [.tmp 2], body :=
(.seq (.region [
⟨some 2, .move (.const (.int .i64 0)), none, [], true⟩])
(.seq (.cond (.const (.bool false))
(.seq (.region [
⟨some 3, .move (.tmp 0), none, [], true⟩,
⟨some 4, .conv .u32 (.tmp 3), none, [], true⟩,
⟨some 5, .call (.const (.func (.func 90) #[] #[])) [(.tmp 4)], none, [], true⟩,
⟨some 2, .move (.tmp 5), none, [], true⟩])
.ret)
.skip)
(.seq (.region [
⟨some 6, .move (.tmp 0), none, [], true⟩,
⟨some 7, .call (.const (.func (.func 91) #[] #[])) [(.tmp 6)], none, [], true⟩,
⟨some 2, .move (.tmp 7), none, [], true⟩])
.ret))) }
theorem ir78_eq : funcC Try.prog 78 = some ir78 := by kernel_rfl
def ir79 : IFunc :=
{ ntmps := 18, results := [.tmp 2], body :=
(.seq (.region [
⟨some 2, .move (.const (.int .i64 0)), none, [], true⟩])
(.seq (.region [
⟨some 3, .move (.const (.int .i64 0)), none, [], true⟩])
(.seq (.seq (.region [
⟨some 6, .move (.tmp 0), none, [], true⟩,
⟨some 7, .lenSlice (.tmp 6), none, [], true⟩,
⟨some 8, .move (.const (.int .i64 0)), none, [], true⟩])
(.block 0 (.loop (.seq (.region [
⟨some 9, .bin .lss (.tmp 8) (.tmp 7), none, [], true⟩])
(.seq (.cond (.tmp 9)
.skip
(.exit 0))
(.seq (.block 1 (.seq (.region [
⟨some 10, .indexAddr 1 (.tmp 6) (.tmp 8), none, [], true⟩,
⟨some 11, .load none (.tmp 10), none, [], true⟩,
⟨some 5, .move (.tmp 11), none, [], true⟩])
(.seq (.region [
⟨some 12, .move (.tmp 5), none, [], true⟩,
⟨some 13, .move (.tmp 3), none, [], true⟩,
⟨some 14, .bin .neq (.tmp 12) (.tmp 13), none, [], true⟩])
(.cond (.tmp 14)
(.seq (.region [
⟨some 15, .move (.tmp 5), none, [], true⟩,
⟨some 2, .move (.tmp 15), none, [], true⟩])
.ret)
.skip))))
(.region [
⟨some 16, .bin .add (.tmp 8) (.const (.int .i64 1)), none, [], true⟩,
⟨some 8, .move (.tmp 16), none, [], true⟩])))))))
(.seq (.region [
⟨some 17, .move (.tmp 3), none, [], true⟩,
⟨some 2, .move (.tmp 17), none, [], true⟩])
.ret)))) }
theorem ir79_eq : funcC Try.prog 79 = some ir79 := by kernel_rfl
def ir80 : IFunc :=
{ ntmps := 20, results := [.tmp 4], body :=
(.seq (.region [
⟨some 4, .move (.const (.int .i64 0)), none, [], true⟩])
(.seq (.region [
⟨some 7, .move (.tmp 0), none, [], true⟩,
⟨some 8, .call (.const (.func (.func 92) #[] #[])) [(.tmp 7)], none, [], true⟩,
⟨some 5, .move (.tmp 8), none, [], true⟩])
(.seq (.region [
⟨some 9, .move (.tmp 1), none, [], true⟩,
⟨some 10, .call (.const (.func (.func 92) #[] #[])) [(.tmp 9)], none, [], true⟩,
⟨some 6, .move (.tmp 10), none, [], true⟩])
(.seq (.seq (.region [
⟨some 11, .move (.tmp 5), none, [], true⟩])
(.cond (.tmp 11)
(.seq (.seq (.region [
⟨some 12, .move (.tmp 6), none, [], true⟩])
(.cond (.tmp 12)
(.seq (.region [
⟨some 4, .move (.const (.int .i64 0)), none, [], true⟩])
.ret)
.skip))
(.seq (.region [
⟨some 4, .move (.const (.int .i64 (-1))), none, [], true⟩])
.ret))
.skip))
(.seq (.seq (.region [
⟨some 13, .move (.tmp 6), none, [], true⟩])
(.cond (.tmp 13)
(.seq (.region [
⟨some 4, .move (.const (.int .i64 1)), none, [], true⟩])
.ret)
.skip))
(.seq (.seq (.region [
⟨some 14, .move (.tmp 0), none, [], true⟩,
⟨some 15, .move (.tmp 1), none, [], true⟩,
⟨some 16, .bin .lss (.tmp 14) (.tmp 15), none, [], true⟩])
(.cond (.tmp 16)
(.seq (.region [
⟨some 4, .move (.const (.int .i64 (-1))), none, [], true⟩])
.ret)
.skip))
(.seq (.seq (.region [
⟨some 17, .move (.tmp 0), none, [], true⟩,
⟨some 18, .move (.tmp 1), none, [], true⟩,
⟨some 19, .bin .gtr (.tmp 17) (.tmp 18), none, [], true⟩])
(.cond (.tmp 19)
(.seq (.region [
⟨some 4, .move (.const (.int .i64 1)), none, [], true⟩])
.ret)
.skip))
(.seq (.region [
⟨some 4, .move (.const (.int .i64 0)), none, [], true⟩])
.ret)))))))) }
theorem ir80_eq : funcC Try.prog 80 = some ir80 := by kernel_rfl
def ir81 : IFunc :=
{ ntmps := 20, results := [.tmp 4], body :=
(.seq (.region [
⟨some 4, .move (.const (.int .i64 0)), none, [], true⟩])
(.seq (.region [
⟨some 7, .move (.tmp 0), none, [], true⟩,
⟨some 8, .call (.const (.func (.func 93) #[] #[])) [(.tmp 7)], none, [], true⟩,
⟨some 5, .move (.tmp 8), none, [], true⟩])
(.seq (.region [
⟨some 9, .move (.tmp 1), none, [], true⟩,
⟨some 10, .call (.const (.func (.func 93) #[] #[])) [(.tmp 9)], none, [], true⟩,
⟨some 6, .move (.tmp 10), none, [], true⟩])
(.seq (.seq (.region [
⟨some 11, .move (.tmp 5), none, [], true⟩])
(.cond (.tmp 11)
(.seq (.seq (.region [
⟨some 12, .move (.tmp 6), none, [], true⟩])
(.cond (.tmp 12)
(.seq (.region [
⟨some 4, .move (.const (.int .i64 0)), none, [], true⟩])
.ret)
.skip))
(.seq (.region [
⟨some 4, .move (.const (.int .i64 (-1))), none, [], true⟩])
.ret))
.skip))
(.seq (.seq (.region [
⟨some 13, .move (.tmp 6), none, [], true⟩])
(.cond (.tmp 13)
(.seq (.region [
⟨some 4, .move (.const (.int .i64 1)), none, [], true⟩])
.ret)
.skip))
(.seq (.seq (.region [
⟨some 14, .move (.tmp 0), none, [], true⟩,
⟨some 15, .move (.tmp 1), none, [], true⟩,
⟨some 16, .bin .lss (.tmp 14) (.tmp 15), none, [], true⟩])
(.cond (.tmp 16)
(.seq (.region [
⟨some 4, .move (.const (.int .i64 (-1))), none, [], true⟩])
.ret)
.skip))
(.seq (.seq (.region [
⟨some 17, .move (.tmp 0), none, [], true⟩,
⟨some 18, .move (.tmp 1), none, [], true⟩,
⟨some 19, .bin .gtr (.tmp 17) (.tmp 18), none, [], true⟩])
(.cond (.tmp 19)
(.seq (.region [
⟨some 4, .move (.const (.int .i64 1)), none, [], true⟩])
.ret)
.skip))
(.seq (.region [
⟨some 4, .move (.const (.int .i64 0)), none, [], true⟩])
.ret)))))))) }
theorem ir81_eq : funcC Try.prog 81 = some ir81 := by kernel_rfl
def ir82 : IFunc :=
{ ntmps := 53, results := [], body :=
(.seq (.region [
⟨some 10, .move (.tmp 1), none, [], true⟩,
⟨some 11, .bin .add (.tmp 10) (.const (.int .i64 1)), none, [], true⟩,
⟨some 8, .move (.tmp 11), none, [], true⟩])
(.block 0 (.loop (.seq (.seq (.region [
⟨some 12, .move (.tmp 8), none, [], true⟩,
⟨some 13, .move (.tmp 2), none, [], true⟩,
⟨some 14, .bin .lss (.tmp 12) (.tmp 13), none, [], true⟩])
(.cond (.tmp 14)
.skip
(.exit 0)))
(.seq (.block 1 (.seq (.region [
⟨some 17, .move (.tmp 8), none, [], true⟩,
⟨some 9, .move (.tmp 17), none, [], true⟩])
(.block 2 (.loop (.seq (.seq (.drawn [
⟨some 18, .move (.tmp 9), none, [], true⟩,
⟨some 19, .move (.tmp 1), none, [], true⟩,
⟨some 20, .bin .gtr (.tmp 18) (.tmp 19), none, [0, 1], true⟩,
⟨some 21, .move (.tmp 20), none, [2, 0, 1], true⟩,
⟨some 22, .move (.tmp 3), (some (21, true)), [3, 2, 0, 1], false⟩,
⟨some 23, .move (.tmp 0), (some (21, true)), [3, 2, 0, 1], false⟩,
⟨some 24, .move (.tmp 9), (some (21, true)), [3, 2, 0, 1], false⟩,
⟨some 25, .indexAddr 3 (.tmp 23) (.tmp 24), (some (21, true)), [5, 6, 3, 2, 0, 1], false⟩,
⟨some 26, .load (some 3) (.tmp 25), (some (21, true)), [7, 3, 5, 6, 2, 0, 1], false⟩,
⟨some 27, .move (.tmp 0), (some (21, true)), [3, 2, 0, 1], false⟩,
⟨some 28, .move (.tmp 9), (some (21, true)), [3, 2, 0, 1], false⟩,
⟨some 29, .bin .sub (.tmp 28) (.const (.int .i64 1)), (some (21, true)), [10, 3, 2, 0, 1], false⟩,
⟨some 30, .indexAddr 3 (.tmp 27) (.tmp 29), (some (21, true)), [9, 11, 3, 2, 0, 1, 10], false⟩,
⟨some 31, .load (some 3) (.tmp 30), (some (21, true)), [12, 3, 9, 11, 2, 0, 1, 10], false⟩,
⟨some 32, .call (.tmp 22) [(.tmp 26), (.tmp 31)], (some (21, true)), [4, 8, 13, 3, 2, 0, 1, 7, 5, 6, 12, 9, 11, 10], true⟩,
⟨some 33, .bin .lss (.tmp 32) (.const (.int .i64 0)), (some (21, true)), [14, 3, 4, 8, 13, 2, 0, 1, 7, 5, 6, 12, 9, 11, 10], true⟩,
⟨some 34, .pick (.tmp 21) (.tmp 33) (.const (.bool false)), none, [3, 15, 2, 0, 1, 14, 4, 8, 13, 7, 5, 6, 12, 9, 11, 10], true⟩])
(.cond (.tmp 34)
.skip
(.exit 2)))
(.seq (.block 3 (.drawn [
⟨some 37, .move (.tmp 0), none, [], false⟩,
⟨some 38, .move (.tmp 9), none, [], false⟩,
⟨some 39, .move (.tmp 0), none, [], false⟩,
⟨some 40, .move (.tmp 9), none, [], false⟩,
⟨some 41, .bin .sub (.tmp 40) (.const (.int .i64 1)), none, [3], false⟩,
⟨some 42, .move (.tmp 0), none, [], false⟩,
⟨some 43, .move (.tmp 9), none, [], false⟩,
⟨some 44, .bin .sub (.tmp 43) (.const (.int .i64 1)), none, [6], false⟩,
⟨some 45, .indexAddr 3 (.tmp 42) (.tmp 44), none, [5, 7, 6], false⟩,
⟨some 46, .load (some 3) (.tmp 45), none, [8, 5, 7, 6], false⟩,
⟨some 47, .move (.tmp 0), none, [], false⟩,
⟨some 48, .move (.tmp 9), none, [], false⟩,
⟨some 49, .indexAddr 3 (.tmp 47) (.tmp 48), none, [10, 11], false⟩,
⟨some 50, .load (some 3) (.tmp 49), none, [12, 10, 11], false⟩,
⟨some 51, .indexAddr 3 (.tmp 37) (.tmp 38), none, [0, 1, 5, 6, 7, 8, 9, 13, 12, 10, 11], true⟩,
⟨none, .store 3 (.tmp 51) (.tmp 46), none, [14, 9, 0, 1, 5, 6, 7, 8, 13, 12, 10, 11], true⟩,
⟨some 52, .indexAddr 3 (.tmp 39) (.tmp 41), none, [2, 4, 0, 1, 3, 5, 6, 7, 8, 9, 10, 11, 12, 13, 14, 15], true⟩,
⟨none, .store 3 (.tmp 52) (.tmp 50), none, [16, 13, 15, 0, 1, 2, 3, 4, 5, 6, 7, 8, 9, 10, 11, 12, 14], true⟩]))
(.region [
⟨some 35, .move (.tmp 9), none, [], true⟩,
⟨some 36, .bin .sub (.tmp 35) (.const (.int .i64 1)), none, [], true⟩,
⟨some 9, .move (.tmp 36), none, [], true⟩])))))))
(.region [
⟨some 15, .move (.tmp 8), none, [], true⟩,
⟨some 16, .bin .add (.tmp 15) (.const (.int .i64 1)), none, [], true⟩,
⟨some 8, .move (.tmp 16), none, [], true⟩])))))) }
theorem ir82_eq : funcC Try.prog 82 = some ir82 := by kernel_rfl
def ir83 : IFunc :=
{ ntmps := 60, results := [], body :=
(.seq (.region [
⟨some 13, .move (.tmp 1), none, [], true⟩,
⟨some 8, .move (.tmp 13), none, [], true⟩])
(.seq (.region [
⟨some 9, .move (.const (.int .i64 0)), none, [], true⟩])
(.seq (.region [
⟨some 14, .move (.tmp 2), none, [], true⟩,
⟨some 15, .move (.tmp 1), none, [], true⟩,
⟨some 16, .bin .sub (.tmp 14) (.tmp 15), none, [], true⟩,
⟨some 10, .move (.tmp 16), none, [], true⟩])
(.seq (.seq (.region [
⟨some 17, .move (.tmp 10), none, [], true⟩,
⟨some 18, .bin .sub (.tmp 17) (.const (.int .i64 1)), none, [], true⟩,
⟨some 19, .bin .quo (.tmp 18) (.const (.int .i64 2)), none, [], true⟩,
⟨some 11, .move (.tmp 19), none, [], true⟩])
(.block 0 (.loop (.seq (.seq (.region [
⟨some 20, .move (.tmp 11), none, [], true⟩,
⟨some 21, .bin .geq (.tmp 20) (.const (.int .i64 0)), none, [], true⟩])
(.cond (.tmp 21)
.skip
(.exit 0)))
(.seq (.block 1 (.region [
⟨some 24, .move (.tmp 0), none, [], true⟩,
⟨some 25, .move (.tmp 11), none, [], true⟩,
⟨some 26, .move (.tmp 10), none, [], true⟩,
⟨some 27, .move (.tmp 8), none, [], true⟩,
⟨some 28, .move (.tmp 3), none, [], true⟩,
⟨some 29, .call (.const (.func (.func 94) #[] #[])) [(.tmp 24), (.tmp 25), (.tmp 26), (.tmp 27), (.tmp 28)], none, [], true⟩]))
(.region [
⟨some 22, .move (.tmp 11), none, [], true⟩,
⟨some 23, .bin .sub (.tmp 22) (.const (.int .i64 1)), none, [], true⟩,
⟨some 11, .move (.tmp 23), none, [], true⟩]))))))
(.seq (.region [
⟨some 30, .move (.tmp 10), none, [], true⟩,
⟨some 31, .bin .sub (.tmp 30) (.const (.int .i64 1)), none, [], true⟩,
⟨some 12, .move (.tmp 31), none, [], true⟩])
(.block 2 (.loop (.seq (.seq (.region [
⟨some 32, .move (.tmp 12), none, [], true⟩,
⟨some 33, .bin .geq (.tmp 32) (.const (.int .i64 0)), none, [], true⟩])
(.cond (.tmp 33)
.skip
(.exit 2)))
(.seq (.block 3 (.seq (.drawn [
⟨some 36, .move (.tmp 0), none, [], false⟩,
⟨some 37, .move (.tmp 8), none, [], false⟩,
⟨some 38, .move (.tmp 0), none, [], false⟩,
⟨some 39, .move (.tmp 8), none, [], false⟩,
⟨some 40, .move (.tmp 12), none, [], false⟩,
⟨some 41, .bin .add (.tmp 39) (.tmp 40), none, [3, 4], false⟩,
⟨some 42, .move (.tmp 0), none, [], false⟩,
⟨some 43, .move (.tmp 8), none, [], false⟩,
⟨some 44, .move (.tmp 12), none, [], false⟩,
⟨some 45, .bin .add (.tmp 43) (.tmp 44), none, [7, 8], false⟩,
⟨some 46, .indexAddr 3 (.tmp 42) (.tmp 45), none, [6, 9, 7, 8], false⟩,
⟨some 47, .load (some 3) (.tmp 46), none, [10, 6, 9, 7, 8], false⟩,
⟨some 48, .move (.tmp 0), none, [], false⟩,
⟨some 49, .move (.tmp 8), none, [], false⟩,
⟨some 50, .indexAddr 3 (.tmp 48) (.tmp 49), none, [12, 13], false⟩,
⟨some 51, .load (some 3) (.tmp 50), none, [14, 12, 13], false⟩,
⟨some 52, .indexAddr 3 (.tmp 36) (.tmp 37), none, [0, 1, 6, 7, 8, 9, 10, 11, 15, 14, 12, 13], true⟩,
⟨none, .store 3 (.tmp 52) (.tmp 47), none, [16, 11, 0, 1, 6, 7, 8, 9, 10, 15, 14, 12, 13], true⟩,
⟨some 53, .indexAddr 3 (.tmp 38) (.tmp 41), none, [2, 5, 0, 1, 3, 4, 6, 7, 8, 9, 10, 11, 12, 13, 14, 15, 16, 17], true⟩,
⟨none, .store 3 (.tmp 53) (.tmp 51), none, [18, 15, 17, 0, 1, 2, 3, 4, 5, 6, 7, 8, 9, 10, 11, 12, 13, 14, 16], true⟩])
(.region [
⟨some 54, .move (.tmp 0), none, [], true⟩,
⟨some 55, .move (.tmp 9), none, [], true⟩,
⟨some 56, .move (.tmp 12), none, [], true⟩,
⟨some 57, .move (.tmp 8), none, [], true⟩,
⟨some 58, .move (.tmp 3), none, [], true⟩,
⟨some 59, .call (.const (.func (.func 94) #[] #[])) [(.tmp 54), (.tmp 55), (.tmp 56), (.tmp 57), (.tmp 58)], none, [], true⟩])))
(.region [
⟨some 34, .move (.tmp 12), none, [], true⟩,
⟨some 35, .bin .sub (.tmp 34) (.const (.int .i64 1)), none, [], true⟩,
⟨some 12, .move (.tmp 35), none, [], true⟩])))))))))) }
theorem ir83_eq : funcC Try.prog 83 = some ir83 := by kernel_rfl
def ir84 : IFunc :=
{ ntmps := 67, results := [], body :=
(.seq (.region [
⟨some 13, .move (.tmp 2), none, [], true⟩,
⟨some 14, .move (.tmp 1), none, [], true⟩,
⟨some 15, .bin .sub (.tmp 13) (.tmp 14), none, [], true⟩,
⟨some 8, .move (.tmp 15), none, [], true⟩])
(.seq (.region [
⟨some 16, .move (.tmp 8), none, [], true⟩,
⟨some 17, .bin .geq (.tmp 16) (.const (.int .i64 8)), none, [], true⟩])
(.cond (.tmp 17)
(.seq (.region [
⟨some 18, .move (.tmp 8), none, [], true⟩,
⟨some 19, .conv .u64 (.tmp 18), none, [], true⟩,
⟨some 9, .box (.const (.int .u64 0)), none, [], true⟩,
⟨none, .store 1 (.tmp 9) (.tmp 19), none, [], true⟩])
(.seq (.region [
⟨some 20, .move (.tmp 8), none, [], true⟩,
⟨some 21, .call (.const (.func (.func 95) #[] #[])) [(.tmp 20)], none, [], true⟩,
⟨some 10, .move (.tmp 21), none, [], true⟩])
(.seq (.region [
⟨some 22, .move (.tmp 1), none, [], true⟩,
⟨some 23, .move (.tmp 8), none, [], true⟩,
⟨some 24, .bin .quo (.tmp 23) (.const (.int .i64 4)), none, [], true⟩,
⟨some 25, .bin .mul (.tmp 24) (.const (.int .i64 2)), none, [], true⟩,
⟨some 26, .bin .add (.tmp 22) (.tmp 25), none, [], true⟩,
⟨some 27, .bin .sub (.tmp 26) (.const (.int .i64 1)), none, [], true⟩,
⟨some 11, .move (.tmp 27), none, [], true⟩])
(.block 0 (.loop (.seq (.seq (.region [
⟨some 28, .move (.tmp 11), none, [], true⟩,
⟨some 29, .move (.tmp 1), none, [], true⟩,
⟨some 30, .move (.tmp 8), none, [], true⟩,
⟨some 31, .bin .quo (.tmp 30) (.const (.int .i64 4)), none, [], true⟩,
⟨some 32, .bin .mul (.tmp 31) (.const (.int .i64 2)), none, [], true⟩,
⟨some 33, .bin .add (.tmp 29) (.tmp 32), none, [], true⟩,
⟨some 34, .bin .add (.tmp 33) (.const (.int .i64 1)), none, [], true⟩,
⟨some 35, .bin .leq (.tmp 28) (.tmp 34), none, [], true⟩])
(.cond (.tmp 35)
.skip
(.exit 0)))
(.seq (.block 1 (.seq (.region [
⟨some 38, .call (.const (.func (.func 96) #[] #[])) [(.tmp 9)], none, [], true⟩,
⟨some 39, .move (.tmp 10), none, [], true⟩,
⟨some 40, .bin .sub (.tmp 39) (.const (.int .u64 1)), none, [], true⟩,
⟨some 41, .bin .and (.tmp 38) (.tmp 40), none, [], true⟩,
⟨some 42, .conv .i64 (.tmp 41), none, [], true⟩,
⟨some 12, .move (.tmp 42), none, [], true⟩])
(.seq (.seq (.region [
⟨some 43, .move (.tmp 12), none, [], true⟩,
⟨some 44, .move (.tmp 8), none, [], true⟩,
⟨some 45, .bin .geq (.tmp 43) (.tmp 44), none, [], true⟩])
(.cond (.tmp 45)
(.region [
⟨some 46, .move (.tmp 12), none, [], true⟩,
⟨some 47, .move (.tmp 8), none, [], true⟩,
⟨some 48, .bin .sub (.tmp 46) (.tmp 47), none, [], true⟩,
⟨some 12, .move (.tmp 48), none, [], true⟩])
.skip))
(.drawn [
⟨some 49, .move (.tmp 0), none, [], false⟩,
⟨some 50, .move (.tmp 11), none, [], false⟩,
⟨some 51, .move (.tmp 0), none, [], false⟩,
⟨some 52, .move (.tmp 1), none, [], false⟩,
⟨some 53, .move (.tmp 12), none, [], false⟩,
⟨some 54, .bin .add (.tmp 52) (.tmp 53), none, [3, 4], false⟩,
⟨some 55, .move (.tmp 0), none, [], false⟩,
⟨some 56, .move (.tmp 1), none, [], false⟩,
⟨some 57, .move (.tmp 12), none, [], false⟩,
⟨some 58, .bin .add (.tmp 56) (.tmp 57), none, [7, 8], false⟩,
⟨some 59, .indexAddr 3 (.tmp 55) (.tmp 58), none, [6, 9, 7, 8], false⟩,
⟨some 60, .load (some 3) (.tmp 59), none, [10, 6, 9, 7, 8], false⟩,
⟨some 61, .move (.tmp 0), none, [], false⟩,
⟨some 62, .move (.tmp 11), none, [], false⟩,
⟨some 63, .indexAddr 3 (.tmp 61) (.tmp 62), none, [12, 13], false⟩,
⟨some 64, .load (some 3) (.tmp 63), none, [14, 12, 13], false⟩,
⟨some 65, .indexAddr 3 (.tmp 49) (.tmp 50), none, [0, 1, 6, 7, 8, 9, 10, 11, 15, 14, 12, 13], true⟩,
⟨none, .store 3 (.tmp 65) (.tmp 60), none, [16, 11, 0, 1, 6, 7, 8, 9, 10, 15, 14, 12, 13], true⟩,
⟨some 66, .indexAddr 3 (.tmp 51) (.tmp 54), none, [2, 5, 0, 1, 3, 4, 6, 7, 8, 9, 10, 11, 12, 13, 14, 15, 16, 17], true⟩,
⟨none, .store 3 (.tmp 66) (.tmp 64), none, [18, 15, 17, 0, 1, 2, 3, 4, 5, 6, 7, 8, 9, 10, 11, 12, 13, 14, 16], true⟩]))))
(.region [
⟨some 36, .move (.tmp 11), none, [], true⟩,
⟨some 37, .bin .add (.tmp 36) (.const (.int .i64 1)), none, [], true⟩,
⟨some 11, .move (.tmp 37), none, [], true⟩]))))))))
.skip))) }
theorem ir84_eq : funcC Try.prog 84 = some ir84 := by kernel_rfl
def ir85 : IFunc :=
{ ntmps := 63, results := [.tmp 8, .tmp 9], body :=
(.seq (.region [
⟨some 8, .move (.const (.int .i64 0)), none, [], true⟩,
⟨some 9, .move (.const (.int .i64 0)), none, [], true⟩])
(.seq (.region [
⟨some 15, .move (.tmp 2), none, [], true⟩,
⟨some 16, .move (.tmp 1), none, [], true⟩,
⟨some 17, .bin .sub (.tmp 15) (.tmp 16), none, [], true⟩,
⟨some 10, .move (.tmp 17), none, [], true⟩])
(.seq (.region [
⟨some 11, .box (.const (.int .i64 0)), none, [], true⟩])
(.seq (.region [
⟨some 18, .move (.tmp 1), none, [], true⟩,
⟨some 19, .move (.tmp 10), none, [], true⟩,
⟨some 20, .bin .quo (.tmp 19) (.const (.int .i64 4)), none, [], true⟩,
⟨some 21, .bin .mul (.tmp 20) (.const (.int .i64 1)), none, [], true⟩,
⟨some 22, .bin .add (.tmp 18) (.tmp 21), none, [], true⟩,
⟨some 12, .move (.tmp 22), none, [], true⟩])
(.seq (.region [
⟨some 23, .move (.tmp 1), none, [], true⟩,
⟨some 24, .move (.tmp 10), none, [], true⟩,
⟨some 25, .bin .quo (.tmp 24) (.const (.int .i64 4)), none, [], true⟩,
⟨some 26, .bin .mul (.tmp 25) (.const (.int .i64 2)), none, [], true⟩,
⟨some 27, .bin .add (.tmp 23) (.tmp 26), none, [], true⟩,
⟨some 13, .move (.tmp 27), none, [], true⟩])
(.seq (.region [
⟨some 28, .move (.tmp 1), none, [], true⟩,
⟨some 29, .move (.tmp 10), none, [], true⟩,
⟨some 30, .bin .quo (.tmp 29) (.const (.int .i64 4)), none, [], true⟩,
⟨some 31, .bin .mul (.tmp 30) (.const (.int .i64 3)), none, [], true⟩,
⟨some 32, .bin .add (.tmp 28) (.tmp 31), none, [], true⟩,
⟨some 14, .move (.tmp 32), none, [], true⟩])
(.seq (.seq (.region [
⟨some 33, .move (.tmp 10), none, [], true⟩,
⟨some 34, .bin .geq (.tmp 33) (.const (.int .i64 8)), none, [], true⟩])
(.cond (.tmp 34)
(.seq (.seq (.region [
⟨some 35, .move (.tmp 10), none, [], true⟩,
⟨some 36, .bin .geq (.tmp 35) (.const (.int .i64 50)), none, [], true⟩])
(.cond (.tmp 36)
(.seq (.region [
⟨some 37, .move (.tmp 0), none, [], true⟩,
⟨some 38, .move (.tmp 12), none, [], true⟩,
⟨some 39, .move (.tmp 3), none, [], true⟩,
⟨some 40, .call (.const (.func (.func 97) #[] #[])) [(.tmp 37), (.tmp 38), (.tmp 11), (.tmp 39)], none, [], true⟩,
⟨some 12, .move (.tmp 40), none, [], true⟩])
(.seq (.region [
⟨some 41, .move (.tmp 0), none, [], true⟩,
⟨some 42, .move (.tmp 13), none, [], true⟩,
⟨some 43, .move (.tmp 3), none, [], true⟩,
⟨some 44, .call (.const (.func (.func 97) #[] #[])) [(.tmp 41), (.tmp 42), (.tmp 11), (.tmp 43)], none, [], true⟩,
⟨some 13, .move (.tmp 44), none, [], true⟩])
(.region [
⟨some 45, .move (.tmp 0), none, [], true⟩,
⟨some 46, .move (.tmp 14), none, [], true⟩,
⟨some 47, .move (.tmp 3), none, [], true⟩,
⟨some 48, .call (.const (.func (.func 97) #[] #[])) [(.tmp 45), (.tmp 46), (.tmp 11), (.tmp 47)], none, [], true⟩,
⟨some 14, .move (.tmp 48), none, [], true⟩])))
.skip))
(.region [
⟨some 49, .move (.tmp 0), none, [], true⟩,
⟨some 50, .move (.tmp 12), none, [], true⟩,
⟨some 51, .move (.tmp 13), none, [], true⟩,
⟨some 52, .move (.tmp 14), none, [], true⟩,
⟨some 53, .move (.tmp 3), none, [], true⟩,
⟨some 54, .call (.const (.func (.func 98) #[] #[])) [(.tmp 49), (.tmp 50), (.tmp 51), (.tmp 52), (.tmp 11), (.tmp 53)], none, [], true⟩,
⟨some 13, .move (.tmp 54), none, [], true⟩]))
.skip))
(.seq (.region [
⟨some 55, .load none (.tmp 11), none, [], true⟩])
(.block 0 (.seq (.region [
⟨some 58, .bin .eql (.tmp 55) (.const (.int .i64 0)), none, [], true⟩,
⟨some 57, .move (.tmp 58), none, [], true⟩])
(.cond (.tmp 57)
(.seq (.region [
⟨some 59, .move (.tmp 13), none, [], true⟩,
⟨some 8, .move (.tmp 59), none, [], true⟩,
⟨some 9, .move (.const (.int .i64 1)), none, [], true⟩])
.ret)
(.seq (.region [
⟨some 61, .bin .eql (.tmp 55) (.const (.int .i64 12)), none, [], true⟩,
⟨some 60, .move (.tmp 61), none, [], true⟩])
(.cond (.tmp 60)
(.seq (.region [
⟨some 62, .move (.tmp 13), none, [], true⟩,
⟨some 8, .move (.tmp 62), none, [], true⟩,
⟨some 9, .move (.const (.int .i64 2)), none, [], true⟩])
.ret)
(.seq (.region [
⟨some 56, .move (.tmp 13), none, [], true⟩,
⟨some 8, .move (.tmp 56), none, [], true⟩,
⟨some 9, .move (.const (.int .i64 0)), none, [], true⟩])
.ret)))))))))))))) }
theorem ir85_eq : funcC Try.prog 85 = some ir85 := by kernel_rfl
def ir86 : IFunc :=
{ ntmps := 34, results := [], body :=
(.seq (.region [
⟨some 10, .move (.tmp 1), none, [], true⟩,
⟨some 8, .move (.tmp 10), none, [], true⟩])
(.seq (.region [
⟨some 11, .move (.tmp 2), none, [], true⟩,
⟨some 12, .bin .sub (.tmp 11) (.const (.int .i64 1)), none, [], true⟩,
⟨some 9, .move (.tmp 12), none, [], true⟩])
(.block 0 (.loop (.seq (.seq (.region [
⟨some 13, .move (.tmp 8), none, [], true⟩,
⟨some 14, .move (.tmp 9), none, [], true⟩,
⟨some 15, .bin .lss (.tmp 13) (.tmp 14), none, [], true⟩])
(.cond (.tmp 15)
.skip
(.exit 0)))
(.block 1 (.seq (.drawn [
⟨some 16, .move (.tmp 0), none, [], false⟩,
⟨some 17, .move (.tmp 8), none, [], false⟩,
⟨some 18, .move (.tmp 0), none, [], false⟩,
⟨some 19, .move (.tmp 9), none, [], false⟩,
⟨some 20, .move (.tmp 0), none, [], false⟩,
⟨some 21, .move (.tmp 9), none, [], false⟩,
⟨some 22, .indexAddr 3 (.tmp 20) (.tmp 21), none, [4, 5], false⟩,
⟨some 23, .load (some 3) (.tmp 22), none, [6, 4, 5], false⟩,
⟨some 24, .move (.tmp 0), none, [], false⟩,
⟨some 25, .move (.tmp 8), none, [], false⟩,
⟨some 26, .indexAddr 3 (.tmp 24) (.tmp 25), none, [8, 9], false⟩,
⟨some 27, .load (some 3) (.tmp 26), none, [10, 8, 9], false⟩,
⟨some 28, .indexAddr 3 (.tmp 16) (.tmp 17), none, [0, 1, 4, 5, 6, 7, 11, 10, 8, 9], true⟩,
⟨none, .store 3 (.tmp 28) (.tmp 23), none, [12, 7, 0, 1, 4, 5, 6, 11, 10, 8, 9], true⟩,
⟨some 29, .indexAddr 3 (.tmp 18) (.tmp 19), none, [2, 3, 0, 1, 4, 5, 6, 7, 8, 9, 10, 11, 12, 13], true⟩,
⟨none, .store 3 (.tmp 29) (.tmp 27), none, [14, 11, 13, 0, 1, 2, 3, 4, 5, 6, 7, 8, 9, 10, 12], true⟩])
(.seq (.region [
⟨some 30, .move (.tmp 8), none, [], true⟩,
⟨some 31, .bin .add (.tmp 30) (.const (.int .i64 1)), none, [], true⟩,
⟨some 8, .move (.tmp 31), none, [], true⟩])
(.region [
⟨some 32, .move (.tmp 9), none, [], true⟩,
⟨some 33, .bin .sub (.tmp 32) (.const (.int .i64 1)), none, [], true⟩,
⟨some 9, .move (.tmp 33), none, [], true⟩]))))))))) }
theorem ir86_eq : funcC Try.prog 86 = some ir86 := by kernel_rfl
def ir87 : IFunc :=
{ ntmps := 141, results := [.tmp 8], body :=
(.seq (.region [
⟨some 8, .move (.const (.bool false)), none, [], true⟩])
(.seq (.region [
⟨some 13, .move (.tmp 1), none, [], true⟩,
⟨some 14, .bin .add (.tmp 13) (.const (.int .i64 1)), none, [], true⟩,
⟨some 9, .move (.tmp 14), none, [], true⟩])
(.seq (.seq (.region [
⟨some 10, .move (.const (.int .i64 0)), none, [], true⟩])
(.block 0 (.loop (.seq (.seq (.region [
⟨some 15, .move (.tmp 10), none, [], true⟩,
⟨some 16, .bin .lss (.tmp 15) (.const (.int .i64 5)), none, [], true⟩])
(.cond (.tmp 16)
.skip
(.exit 0)))
(.seq (.block 1 (.seq (.block 2 (.loop (.seq (.seq (.drawn [
⟨some 19, .move (.tmp 9), none, [], true⟩,
⟨some 20, .move (.tmp 2), none, [], true⟩,
⟨some 21, .bin .lss (.tmp 19) (.tmp 20), none, [0, 1], true⟩,
⟨some 22, .move (.tmp 21), none, [2, 0, 1], true⟩,
⟨some 23, .move (.tmp 3), (some (22, true)), [3, 2, 0, 1], false⟩,
⟨some 24, .move (.tmp 0), (some (22, true)), [3, 2, 0, 1], false⟩,
⟨some 25, .move (.tmp 9), (some (22, true)), [3, 2, 0, 1], false⟩,
⟨some 26, .indexAddr 3 (.tmp 24) (.tmp 25), (some (22, true)), [5, 6, 3, 2, 0, 1], false⟩,
⟨some 27, .load (some 3) (.tmp 26), (some (22, true)), [7, 3, 5, 6, 2, 0, 1], false⟩,
⟨some 28, .move (.tmp 0), (some (22, true)), [3, 2, 0, 1], false⟩,
⟨some 29, .move (.tmp 9), (some (22, true)), [3, 2, 0, 1], false⟩,
⟨some 30, .bin .sub (.tmp 29) (.const (.int .i64 1)), (some (22, true)), [10, 3, 2, 0, 1], false⟩,
⟨some 31, .indexAddr 3 (.tmp 28) (.tmp 30), (some (22, true)), [9, 11, 3, 2, 0, 1, 10], false⟩,
⟨some 32, .load (some 3) (.tmp 31), (some (22, true)), [12, 3, 9, 11, 2, 0, 1, 10], false⟩,
⟨some 33, .call (.tmp 23) [(.tmp 27), (.tmp 32)], (some (22, true)), [4, 8, 13, 3, 2, 0, 1, 7, 5, 6, 12, 9, 11, 10], true⟩,
⟨some 34, .bin .lss (.tmp 33) (.const (.int .i64 0)), (some (22, true)), [14, 3, 4, 8, 13, 2, 0, 1, 7, 5, 6, 12, 9, 11, 10], true⟩,
⟨some 35, .un .not (.tmp 34), (some (22, true)), [15, 3, 14, 4, 8, 13, 2, 0, 1, 7, 5, 6, 12, 9, 11, 10], true⟩,
⟨some 36, .pick (.tmp 22) (.tmp 35) (.const (.bool false)), none, [3, 16, 2, 0, 1, 15, 14, 4, 8, 13, 7, 5, 6, 12, 9, 11, 10], true⟩])
(.cond (.tmp 36)
.skip
(.exit 2)))
(.block 3 (.region [
⟨some 37, .move (.tmp 9), none, [], true⟩,
⟨some 38, .bin .add (.tmp 37) (.const (.int .i64 1)), none, [], true⟩,
⟨some 9, .move (.tmp 38), none, [], true⟩])))))
(.seq (.seq (.region [
⟨some 39, .move (.tmp 9), none, [], true⟩,
⟨some 40, .move (.tmp 2), none, [], true⟩,
⟨some 41, .bin .eql (.tmp 39) (.tmp 40), none, [], true⟩])
(.cond (.tmp 41)
(.seq (.region [
⟨some 8, .move (.const (.bool true)), none, [], true⟩])
.ret)
.skip))
(.seq (.seq (.region [
⟨some 42, .move (.tmp 2), none, [], true⟩,
⟨some 43, .move (.tmp 1), none, [], true⟩,
⟨some 44, .bin .sub (.tmp 42) (.tmp 43), none, [], true⟩,
⟨some 45, .bin .lss (.tmp 44) (.const (.int .i64 50)), none, [], true⟩])
(.cond (.tmp 45)
(.seq (.region [
⟨some 8, .move (.const (.bool false)), none, [], true⟩])
.ret)
.skip))
(.seq (.drawn [
⟨some 46, .move (.tmp 0), none, [], false⟩,
⟨some 47, .move (.tmp 9), none, [], false⟩,
⟨some 48, .move (.tmp 0), none, [], false⟩,
⟨some 49, .move (.tmp 9), none, [], false⟩,
⟨some 50, .bin .sub (.tmp 49) (.const (.int .i64 1)), none, [3], false⟩,
⟨some 51, .move (.tmp 0), none, [], false⟩,
⟨some 52, .move (.tmp 9), none, [], false⟩,
⟨some 53, .bin .sub (.tmp 52) (.const (.int .i64 1)), none, [6], false⟩,
⟨some 54, .indexAddr 3 (.tmp 51) (.tmp 53), none, [5, 7, 6], false⟩,
⟨some 55, .load (some 3) (.tmp 54), none, [8, 5, 7, 6], false⟩,
⟨some 56, .move (.tmp 0), none, [], false⟩,
⟨some 57, .move (.tmp 9), none, [], false⟩,
⟨some 58, .indexAddr 3 (.tmp 56) (.tmp 57), none, [10, 11], false⟩,
⟨some 59, .load (some 3) (.tmp 58), none, [12, 10, 11], false⟩,
⟨some 60, .indexAddr 3 (.tmp 46) (.tmp 47), none, [0, 1, 5, 6, 7, 8, 9, 13, 12, 10, 11], true⟩,
⟨none, .store 3 (.tmp 60) (.tmp 55), none, [14, 9, 0, 1, 5, 6, 7, 8, 13, 12, 10, 11], true⟩,
⟨some 61, .indexAddr 3 (.tmp 48) (.tmp 50), none, [2, 4, 0, 1, 3, 5, 6, 7, 8, 9, 10, 11, 12, 13, 14, 15], true⟩,
⟨none, .store 3 (.tmp 61) (.tmp 59), none, [16, 13, 15, 0, 1, 2, 3, 4, 5, 6, 7, 8, 9, 10, 11, 12, 14], true⟩])
(.seq (.seq (.region [
⟨some 62, .move (.tmp 9), none, [], true⟩,
⟨some 63, .move (.tmp 1), none, [], true⟩,
⟨some 64, .bin .sub (.tmp 62) (.tmp 63), none, [], true⟩,
⟨some 65, .bin .geq (.tmp 64) (.const (.int .i64 2)), none, [], true⟩])
(.cond (.tmp 65)
(.seq (.region [
⟨some 66, .move (.tmp 9), none, [], true⟩,
⟨some 67, .bin .sub (.tmp 66) (.const (.int .i64 1)), none, [], true⟩,
⟨some 11, .move (.tmp 67), none, [], true⟩])
(.block 4 (.loop (.seq (.seq (.region [
⟨some 68, .move (.tmp 11), none, [], true⟩,
⟨some 69, .bin .geq (.tmp 68) (.const (.int .i64 1)), none, [], true⟩])
(.cond (.tmp 69)
.skip
(.exit 4)))
(.seq (.block 5 (.seq (.seq (.drawn [
⟨some 72, .move (.tmp 3), none, [], false⟩,
⟨some 73, .move (.tmp 0), none, [], false⟩,
⟨some 74, .move (.tmp 11), none, [], false⟩,
⟨some 75, .indexAddr 3 (.tmp 73) (.tmp 74), none, [1, 2], false⟩,
⟨some 76, .load (some 3) (.tmp 75), none, [3, 1, 2], false⟩,
⟨some 77, .move (.tmp 0), none, [], false⟩,
⟨some 78, .move (.tmp 11), none, [], false⟩,
⟨some 79, .bin .sub (.tmp 78) (.const (.int .i64 1)), none, [6], false⟩,
⟨some 80, .indexAddr 3 (.tmp 77) (.tmp 79), none, [5, 7, 6], false⟩,
⟨some 81, .load (some 3) (.tmp 80), none, [8, 5, 7, 6], false⟩,
⟨some 82, .call (.tmp 72) [(.tmp 76), (.tmp 81)], none, [0, 4, 9, 3, 1, 2, 8, 5, 7, 6], true⟩,
⟨some 83, .bin .lss (.tmp 82) (.const (.int .i64 0)), none, [10, 0, 4, 9, 3, 1, 2, 8, 5, 7, 6], true⟩,
⟨some 84, .un .not (.tmp 83), none, [11, 10, 0, 4, 9, 3, 1, 2, 8, 5, 7, 6], true⟩])
(.cond (.tmp 84)
(.exit 4)
.skip))
(.drawn [
⟨some 85, .move (.tmp 0), none, [], false⟩,
⟨some 86, .move (.tmp 11), none, [], false⟩,
⟨some 87, .move (.tmp 0), none, [], false⟩,
⟨some 88, .move (.tmp 11), none, [], false⟩,
⟨some 89, .bin .sub (.tmp 88) (.const (.int .i64 1)), none, [3], false⟩,
⟨some 90, .move (.tmp 0), none, [], false⟩,
⟨some 91, .move (.tmp 11), none, [], false⟩,
⟨some 92, .bin .sub (.tmp 91) (.const (.int .i64 1)), none, [6], false⟩,
⟨some 93, .indexAddr 3 (.tmp 90) (.tmp 92), none, [5, 7, 6], false⟩,
⟨some 94, .load (some 3) (.tmp 93), none, [8, 5, 7, 6], false⟩,
⟨some 95, .move (.tmp 0), none, [], false⟩,
⟨some 96, .move (.tmp 11), none, [], false⟩,
⟨some 97, .indexAddr 3 (.tmp 95) (.tmp 96), none, [10, 11], false⟩,
⟨some 98, .load (some 3) (.tmp 97), none, [12, 10, 11], false⟩,
⟨some 99, .indexAddr 3 (.tmp 85) (.tmp 86), none, [0, 1, 5, 6, 7, 8, 9, 13, 12, 10, 11], true⟩,
⟨none, .store 3 (.tmp 99) (.tmp 94), none, [14, 9, 0, 1, 5, 6, 7, 8, 13, 12, 10, 11], true⟩,
⟨some 100, .indexAddr 3 (.tmp 87) (.tmp 89), none, [2, 4, 0, 1, 3, 5, 6, 7, 8, 9, 10, 11, 12, 13, 14, 15], true⟩,
⟨none, .store 3 (.tmp 100) (.tmp 98), none, [16, 13, 15, 0, 1, 2, 3, 4, 5, 6, 7, 8, 9, 10, 11, 12, 14], true⟩])))
(.region [
⟨some 70, .move (.tmp 11), none, [], true⟩,
⟨some 71, .bin .sub (.tmp 70) (.const (.int .i64 1)), none, [], true⟩,
⟨some 11, .move (.tmp 71), none, [], true⟩]))))))
.skip))
(.seq (.region [
⟨some 101, .move (.tmp 2), none, [], true⟩,
⟨some 102, .move (.tmp 9), none, [], true⟩,
⟨some 103, .bin .sub (.tmp 101) (.tmp 102), none, [], true⟩,
⟨some 104, .bin .geq (.tmp 103) (.const (.int .i64 2)), none, [], true⟩])
(.cond (.tmp 104)
(.seq (.region [
⟨some 105, .move (.tmp 9), none, [], true⟩,
⟨some 106, .bin .add (.tmp 105) (.const (.int .i64 1)), none, [], true⟩,
⟨some 12, .move (.tmp 106), none, [], true⟩])
(.block 6 (.loop (.seq (.seq (.region [
⟨some 107, .move (.tmp 12), none, [], true⟩,
⟨some 108, .move (.tmp 2), none, [], true⟩,
⟨some 109, .bin .lss (.tmp 107) (.tmp 108), none, [], true⟩])
(.cond (.tmp 109)
.skip
(.exit 6)))
(.seq (.block 7 (.seq (.seq (.drawn [
⟨some 112, .move (.tmp 3), none, [], false⟩,
⟨some 113, .move (.tmp 0), none, [], false⟩,
⟨some 114, .move (.tmp 12), none, [], false⟩,
⟨some 115, .indexAddr 3 (.tmp 113) (.tmp 114), none, [1, 2], false⟩,
⟨some 116, .load (some 3) (.tmp 115), none, [3, 1, 2], false⟩,
⟨some 117, .move (.tmp 0), none, [], false⟩,
⟨some 118, .move (.tmp 12), none, [], false⟩,
⟨some 119, .bin .sub (.tmp 118) (.const (.int .i64 1)), none, [6], false⟩,
⟨some 120, .indexAddr 3 (.tmp 117) (.tmp 119), none, [5, 7, 6], false⟩,
⟨some 121, .load (some 3) (.tmp 120), none, [8, 5, 7, 6], false⟩,
⟨some 122, .call (.tmp 112) [(.tmp 116), (.tmp 121)], none, [0, 4, 9, 3, 1, 2, 8, 5, 7, 6], true⟩,
⟨some 123, .bin .lss (.tmp 122) (.const (.int .i64 0)), none, [10, 0, 4, 9, 3, 1, 2, 8, 5, 7, 6], true⟩,
⟨some 124, .un .not (.tmp 123), none, [11, 10, 0, 4, 9, 3, 1, 2, 8, 5, 7, 6], true⟩])
(.cond (.tmp 124)
(.exit 6)
.skip))
(.drawn [
⟨some 125, .move (.tmp 0), none, [], false⟩,
⟨some 126, .move (.tmp 12), none, [], false⟩,
⟨some 127, .move (.tmp 0), none, [], false⟩,
⟨some 128, .move (.tmp 12), none, [], false⟩,
⟨some 129, .bin .sub (.tmp 128) (.const (.int .i64 1)), none, [3], false⟩,
⟨some 130, .move (.tmp 0), none, [], false⟩,
⟨some 131, .move (.tmp 12), none, [], false⟩,
⟨some 132, .bin .sub (.tmp 131) (.const (.int .i64 1)), none, [6], false⟩,
⟨some 133, .indexAddr 3 (.tmp 130) (.tmp 132), none, [5, 7, 6], false⟩,
⟨some 134, .load (some 3) (.tmp 133), none, [8, 5, 7, 6], false⟩,
⟨some 135, .move (.tmp 0), none, [], false⟩,
⟨some 136, .move (.tmp 12), none, [], false⟩,
⟨some 137, .indexAddr 3 (.tmp 135) (.tmp 136), none, [10, 11], false⟩,
⟨some 138, .load (some 3) (.tmp 137), none, [12, 10, 11], false⟩,
⟨some 139, .indexAddr 3 (.tmp 125) (.tmp 126), none, [0, 1, 5, 6, 7, 8, 9, 13, 12, 10, 11], true⟩,
⟨none, .store 3 (.tmp 139) (.tmp 134), none, [14, 9, 0, 1, 5, 6, 7, 8, 13, 12, 10, 11], true⟩,
⟨some 140, .indexAddr 3 (.tmp 127) (.tmp 129), none, [2, 4, 0, 1, 3, 5, 6, 7, 8, 9, 10, 11, 12, 13, 14, 15], true⟩,
⟨none, .store 3 (.tmp 140) (.tmp 138), none, [16, 13, 15, 0, 1, 2, 3, 4, 5, 6, 7, 8, 9, 10, 11, 12, 14], true⟩])))
(.region [
⟨some 110, .move (.tmp 12), none, [], true⟩,
⟨some 111, .bin .add (.tmp 110) (.const (.int .i64 1)), none, [], true⟩,
⟨some 12, .move (.tmp 111), none, [], true⟩]))))))
.skip))))))))
(.region [
⟨some 17, .move (.tmp 10), none, [], true⟩,
⟨some 18, .bin .add (.tmp 17) (.const (.int .i64 1)), none, [], true⟩,
⟨some 10, .move (.tmp 18), none, [], true⟩]))))))
(.seq (.region [
⟨some 8, .move (.const (.bool false)), none, [], true⟩])
.ret)))) }
theorem ir87_eq : funcC Try.prog 87 = some ir87 := by kernel_rfl
def ir88 : IFunc :=
{ ntmps := 90, results := [.tmp 10], body :=
(.seq (.region [
⟨some 10, .move (.const (.int .i64 0)), none, [], true⟩])
(.seq (.drawn [
⟨some 13, .move (.tmp 0), none, [], false⟩,
⟨some 14, .move (.tmp 1), none, [], false⟩,
⟨some 15, .move (.tmp 0), none, [], false⟩,
⟨some 16, .move (.tmp 3), none, [], false⟩,
⟨some 17, .move (.tmp 0), none, [], false⟩,
⟨some 18, .move (.tmp 3), none, [], false⟩,
⟨some 19, .indexAddr 3 (.tmp 17) (.tmp 18), none, [4, 5], false⟩,
⟨some 20, .load (some 3) (.tmp 19), none, [6, 4, 5], false⟩,
⟨some 21, .move (.tmp 0), none, [], false⟩,
⟨some 22, .move (.tmp 1), none, [], false⟩,
⟨some 23, .indexAddr 3 (.tmp 21) (.tmp 22), none, [8, 9], false⟩,
⟨some 24, .load (some 3) (.tmp 23), none, [10, 8, 9], false⟩,
⟨some 25, .indexAddr 3 (.tmp 13) (.tmp 14), none, [0, 1, 4, 5, 6, 7, 11, 10, 8, 9], true⟩,
⟨none, .store 3 (.tmp 25) (.tmp 20), none, [12, 7, 0, 1, 4, 5, 6, 11, 10, 8, 9], true⟩,
⟨some 26, .indexAddr 3 (.tmp 15) (.tmp 16), none, [2, 3, 0, 1, 4, 5, 6, 7, 8, 9, 10, 11, 12, 13], true⟩,
⟨none, .store 3 (.tmp 26) (.tmp 24), none, [14, 11, 13, 0, 1, 2, 3, 4, 5, 6, 7, 8, 9, 10, 12], true⟩])
(.seq (.region [
⟨some 27, .move (.tmp 1), none, [], true⟩,
⟨some 28, .bin .add (.tmp 27) (.const (.int .i64 1)), none, [], true⟩,
⟨some 29, .move (.tmp 2), none, [], true⟩,
⟨some 30, .bin .sub (.tmp 29) (.const (.int .i64 1)), none, [], true⟩,
⟨some 11, .move (.tmp 28), none, [], true⟩,
⟨some 12, .move (.tmp 30), none, [], true⟩])
(.seq (.block 0 (.loop (.block 1 (.seq (.block 2 (.loop (.seq (.seq (.drawn [
⟨some 31, .move (.tmp 11), none, [], true⟩,
⟨some 32, .move (.tmp 12), none, [], true⟩,
⟨some 33, .bin .leq (.tmp 31) (.tmp 32), none, [0, 1], true⟩,
⟨some 34, .move (.tmp 33), none, [2, 0, 1], true⟩,
⟨some 35, .move (.tmp 4), (some (34, true)), [3, 2, 0, 1], false⟩,
⟨some 36, .move (.tmp 0), (some (34, true)), [3, 2, 0, 1], false⟩,
⟨some 37, .move (.tmp 1), (some (34, true)), [3, 2, 0, 1], false⟩,
⟨some 38, .indexAddr 3 (.tmp 36) (.tmp 37), (some (34, true)), [5, 6, 3, 2, 0, 1], false⟩,
⟨some 39, .load (some 3) (.tmp 38), (some (34, true)), [7, 3, 5, 6, 2, 0, 1], false⟩,
⟨some 40, .move (.tmp 0), (some (34, true)), [3, 2, 0, 1], false⟩,
⟨some 41, .move (.tmp 11), (some (34, true)), [3, 2, 0, 1], false⟩,
⟨some 42, .indexAddr 3 (.tmp 40) (.tmp 41), (some (34, true)), [9, 10, 3, 2, 0, 1], false⟩,
⟨some 43, .load (some 3) (.tmp 42), (some (34, true)), [11, 3, 9, 10, 2, 0, 1], false⟩,
⟨some 44, .call (.tmp 35) [(.tmp 39), (.tmp 43)], (some (34, true)), [4, 8, 12, 3, 2, 0, 1, 7, 5, 6, 11, 9, 10], true⟩,
⟨some 45, .bin .lss (.tmp 44) (.const (.int .i64 0)), (some (34, true)), [13, 3, 4, 8, 12, 2, 0, 1, 7, 5, 6, 11, 9, 10], true⟩,
⟨some 46, .un .not (.tmp 45), (some (34, true)), [14, 3, 13, 4, 8, 12, 2, 0, 1, 7, 5, 6, 11, 9, 10], true⟩,
⟨some 47, .pick (.tmp 34) (.tmp 46) (.const (.bool false)), none, [3, 15, 2, 0, 1, 14, 13, 4, 8, 12, 7, 5, 6, 11, 9, 10], true⟩])
(.cond (.tmp 47)
.skip
(.exit 2)))
(.block 3 (.region [
⟨some 48, .move (.tmp 11), none, [], true⟩,
⟨some 49, .bin .add (.tmp 48) (.const (.int .i64 1)), none, [], true⟩,
⟨some 11, .move (.tmp 49), none, [], true⟩])))))
(.seq (.block 4 (.loop (.seq (.seq (.drawn [
⟨some 50, .move (.tmp 11), none, [], true⟩,
⟨some 51, .move (.tmp 12), none, [], true⟩,
⟨some 52, .bin .leq (.tmp 50) (.tmp 51), none, [0, 1], true⟩,
⟨some 53, .move (.tmp 52), none, [2, 0, 1], true⟩,
⟨some 54, .move (.tmp 4), (some (53, true)), [3, 2, 0, 1], false⟩,
⟨some 55, .move (.tmp 0), (some (53, true)), [3, 2, 0, 1], false⟩,
⟨some 56, .move (.tmp 1), (some (53, true)), [3, 2, 0, 1], false⟩,
⟨some 57, .indexAddr 3 (.tmp 55) (.tmp 56), (some (53, true)), [5, 6, 3, 2, 0, 1], false⟩,
⟨some 58, .load (some 3) (.tmp 57), (some (53, true)), [7, 3, 5, 6, 2, 0, 1], false⟩,
⟨some 59, .move (.tmp 0), (some (53, true)), [3, 2, 0, 1], false⟩,
⟨some 60, .move (.tmp 12), (some (53, true)), [3, 2, 0, 1], false⟩,
⟨some 61, .indexAddr 3 (.tmp 59) (.tmp 60), (some (53, true)), [9, 10, 3, 2, 0, 1], false⟩,
⟨some 62, .load (some 3) (.tmp 61), (some (53, true)), [11, 3, 9, 10, 2, 0, 1], false⟩,
⟨some 63, .call (.tmp 54) [(.tmp 58), (.tmp 62)], (some (53, true)), [4, 8, 12, 3, 2, 0, 1, 7, 5, 6, 11, 9, 10], true⟩,
⟨some 64, .bin .lss (.tmp 63) (.const (.int .i64 0)), (some (53, true)), [13, 3, 4, 8, 12, 2, 0, 1, 7, 5, 6, 11, 9, 10], true⟩,
⟨some 65, .pick (.tmp 53) (.tmp 64) (.const (.bool false)), none, [3, 14, 2, 0, 1, 13, 4, 8, 12, 7, 5, 6, 11, 9, 10], true⟩])
(.cond (.tmp 65)
.skip
(.exit 4)))
(.block 5 (.region [
⟨some 66, .move (.tmp 12), none, [], true⟩,
⟨some 67, .bin .sub (.tmp 66) (.const (.int .i64 1)), none, [], true⟩,
⟨some 12, .move (.tmp 67), none, [], true⟩])))))
(.seq (.seq (.region [
⟨some 68, .move (.tmp 11), none, [], true⟩,
⟨some 69, .move (.tmp 12), none, [], true⟩,
⟨some 70, .bin .gtr (.tmp 68) (.tmp 69), none, [], true⟩])
(.cond (.tmp 70)
(.exit 0)
.skip))
(.seq (.drawn [
⟨some 71, .move (.tmp 0), none, [], false⟩,
⟨some 72, .move (.tmp 11), none, [], false⟩,
⟨some 73, .move (.tmp 0), none, [], false⟩,
⟨some 74, .move (.tmp 12), none, [], false⟩,
⟨some 75, .move (.tmp 0), none, [], false⟩,
⟨some 76, .move (.tmp 12), none, [], false⟩,
⟨some 77, .indexAddr 3 (.tmp 75) (.tmp 76), none, [4, 5], false⟩,
⟨some 78, .load (some 3) (.tmp 77), none, [6, 4, 5], false⟩,
⟨some 79, .move (.tmp 0), none, [], false⟩,
⟨some 80, .move (.tmp 11), none, [], false⟩,
⟨some 81, .indexAddr 3 (.tmp 79) (.tmp 80), none, [8, 9], false⟩,
⟨some 82, .load (some 3) (.tmp 81), none, [10, 8, 9], false⟩,
⟨some 83, .indexAddr 3 (.tmp 71) (.tmp 72), none, [0, 1, 4, 5, 6, 7, 11, 10, 8, 9], true⟩,
⟨none, .store 3 (.tmp 83) (.tmp 78), none, [12, 7, 0, 1, 4, 5, 6, 11, 10, 8, 9], true⟩,
⟨some 84, .indexAddr 3 (.tmp 73) (.tmp 74), none, [2, 3, 0, 1, 4, 5, 6, 7, 8, 9, 10, 11, 12, 13], true⟩,
⟨none, .store 3 (.tmp 84) (.tmp 82), none, [14, 11, 13, 0, 1, 2, 3, 4, 5, 6, 7, 8, 9, 10, 12], true⟩])
(.seq (.region [
⟨some 85, .move (.tmp 11), none, [], true⟩,
⟨some 86, .bin .add (.tmp 85) (.const (.int .i64 1)), none, [], true⟩,
⟨some 11, .move (.tmp 86), none, [], true⟩])
(.region [
⟨some 87, .move (.tmp 12), none, [], true⟩,
⟨some 88, .bin .sub (.tmp 87) (.const (.int .i64 1)), none, [], true⟩,
⟨some 12, .move (.tmp 88), none, [], true⟩])))))))))
(.seq (.region [
⟨some 89, .move (.tmp 11), none, [], true⟩,
⟨some 10, .move (.tmp 89), none, [], true⟩])
.ret))))) }
theorem ir88_eq : funcC Try.prog 88 = some ir88 := by kernel_rfl
def ir89 : IFunc :=
{ ntmps := 178, results := [.tmp 10, .tmp 11], body :=
(.seq (.region [
⟨some 10, .move (.const (.int .i64 0)), none, [], true⟩,
⟨some 11, .move (.const (.bool false)), none, [], true⟩])
(.seq (.drawn [
⟨some 14, .move (.tmp 0), none, [], false⟩,
⟨some 15, .move (.tmp 1), none, [], false⟩,
⟨some 16, .move (.tmp 0), none, [], false⟩,
⟨some 17, .move (.tmp 3), none, [], false⟩,
⟨some 18, .move (.tmp 0), none, [], false⟩,
⟨some 19, .move (.tmp 3), none, [], false⟩,
⟨some 20, .indexAddr 3 (.tmp 18) (.tmp 19), none, [4, 5], false⟩,
⟨some 21, .load (some 3) (.tmp 20), none, [6, 4, 5], false⟩,
⟨some 22, .move (.tmp 0), none, [], false⟩,
⟨some 23, .move (.tmp 1), none, [], false⟩,
⟨some 24, .indexAddr 3 (.tmp 22) (.tmp 23), none, [8, 9], false⟩,
⟨some 25, .load (some 3) (.tmp 24), none, [10, 8, 9], false⟩,
⟨some 26, .indexAddr 3 (.tmp 14) (.tmp 15), none, [0, 1, 4, 5, 6, 7, 11, 10, 8, 9], true⟩,
⟨none, .store 3 (.tmp 26) (.tmp 21), none, [12, 7, 0, 1, 4, 5, 6, 11, 10, 8, 9], true⟩,
⟨some 27, .indexAddr 3 (.tmp 16) (.tmp 17), none, [2, 3, 0, 1, 4, 5, 6, 7, 8, 9, 10, 11, 12, 13], true⟩,
⟨none, .store 3 (.tmp 27) (.tmp 25), none, [14, 11, 13, 0, 1, 2, 3, 4, 5, 6, 7, 8, 9, 10, 12], true⟩])
(.seq (.region [
⟨some 28, .move (.tmp 1), none, [], true⟩,
⟨some 29, .bin .add (.tmp 28) (.const (.int .i64 1)), none, [], true⟩,
⟨some 30, .move (.tmp 2), none, [], true⟩,
⟨some 31, .bin .sub (.tmp 30) (.const (.int .i64 1)), none, [], true⟩,
⟨some 12, .move (.tmp 29), none, [], true⟩,
⟨some 13, .move (.tmp 31), none, [], true⟩])
(.seq (.block 0 (.loop (.seq (.seq (.drawn [
⟨some 32, .move (.tmp 12), none, [], true⟩,
⟨some 33, .move (.tmp 13), none, [], true⟩,
⟨some 34, .bin .leq (.tmp 32) (.tmp 33), none, [0, 1], true⟩,
⟨some 35, .move (.tmp 34), none, [2, 0, 1], true⟩,
⟨some 36, .move (.tmp 4), (some (35, true)), [3, 2, 0, 1], false⟩,
⟨some 37, .move (.tmp 0), (some (35, true)), [3, 2, 0, 1], false⟩,
⟨some 38, .move (.tmp 12), (some (35, true)), [3, 2, 0, 1], false⟩,
⟨some 39, .indexAddr 3 (.tmp 37) (.tmp 38), (some (35, true)), [5, 6, 3, 2, 0, 1], false⟩,
⟨some 40, .load (some 3) (.tmp 39), (some (35, true)), [7, 3, 5, 6, 2, 0, 1], false⟩,
⟨some 41, .move (.tmp 0), (some (35, true)), [3, 2, 0, 1], false⟩,
⟨some 42, .move (.tmp 1), (some (35, true)), [3, 2, 0, 1], false⟩,
⟨some 43, .indexAddr 3 (.tmp 41) (.tmp 42), (some (35, true)), [9, 10, 3, 2, 0, 1], false⟩,
⟨some 44, .load (some 3) (.tmp 43), (some (35, true)), [11, 3, 9, 10, 2, 0, 1], false⟩,
⟨some 45, .call (.tmp 36) [(.tmp 40), (.tmp 44)], (some (35, true)), [4, 8, 12, 3, 2, 0, 1, 7, 5, 6, 11, 9, 10], true⟩,
⟨some 46, .bin .lss (.tmp 45) (.const (.int .i64 0)), (some (35, true)), [13, 3, 4, 8, 12, 2, 0, 1, 7, 5, 6, 11, 9, 10], true⟩,
⟨some 47, .pick (.tmp 35) (.tmp 46) (.const (.bool false)), none, [3, 14, 2, 0, 1, 13, 4, 8, 12, 7, 5, 6, 11, 9, 10], true⟩])
(.cond (.tmp 47)
.skip
(.exit 0)))
(.block 1 (.region [
⟨some 48, .move (.tmp 12), none, [], true⟩,
⟨some 49, .bin .add (.tmp 48) (.const (.int .i64 1)), none, [], true⟩,
⟨some 12, .move (.tmp 49), none, [], true⟩])))))
(.seq (.block 2 (.loop (.seq (.seq (.drawn [
⟨some 50, .move (.tmp 12), none, [], true⟩,
⟨some 51, .move (.tmp 13), none, [], true⟩,
⟨some 52, .bin .leq (.tmp 50) (.tmp 51), none, [0, 1], true⟩,
⟨some 53, .move (.tmp 52), none, [2, 0, 1], true⟩,
⟨some 54, .move (.tmp 4), (some (53, true)), [3, 2, 0, 1], false⟩,
⟨some 55, .move (.tmp 0), (some (53, true)), [3, 2, 0, 1], false⟩,
⟨some 56, .move (.tmp 13), (some (53, true)), [3, 2, 0, 1], false⟩,
⟨some 57, .indexAddr 3 (.tmp 55) (.tmp 56), (some (53, true)), [5, 6, 3, 2, 0, 1], false⟩,
⟨some 58, .load (some 3) (.tmp 57), (some (53, true)), [7, 3, 5, 6, 2, 0, 1], false⟩,
⟨some 59, .move (.tmp 0), (some (53, true)), [3, 2, 0, 1], false⟩,
⟨some 60, .move (.tmp 1), (some (53, true)), [3, 2, 0, 1], false⟩,
⟨some 61, .indexAddr 3 (.tmp 59) (.tmp 60), (some (53, true)), [9, 10, 3, 2, 0, 1], false⟩,
⟨some 62, .load (some 3) (.tmp 61), (some (53, true)), [11, 3, 9, 10, 2, 0, 1], false⟩,
⟨some 63, .call (.tmp 54) [(.tmp 58), (.tmp 62)], (some (53, true)), [4, 8, 12, 3, 2, 0, 1, 7, 5, 6, 11, 9, 10], true⟩,
⟨some 64, .bin .lss (.tmp 63) (.const (.int .i64 0)), (some (53, true)), [13, 3, 4, 8, 12, 2, 0, 1, 7, 5, 6, 11, 9, 10], true⟩,
⟨some 65, .un .not (.tmp 64), (some (53, true)), [14, 3, 13, 4, 8, 12, 2, 0, 1, 7, 5, 6, 11, 9, 10], true⟩,
⟨some 66, .pick (.tmp 53) (.tmp 65) (.const (.bool false)), none, [3, 15, 2, 0, 1, 14, 13, 4, 8, 12, 7, 5, 6, 11, 9, 10], true⟩])
(.cond (.tmp 66)
.skip
(.exit 2)))
(.block 3 (.region [
⟨some 67, .move (.tmp 13), none, [], true⟩,
⟨some 68, .bin .sub (.tmp 67) (.const (.int .i64 1)), none, [], true⟩,
⟨some 13, .move (.tmp 68), none, [], true⟩])))))
(.seq (.seq (.region [
⟨some 69, .move (.tmp 12), none, [], true⟩,
⟨some 70, .move (.tmp 13), none, [], true⟩,
⟨some 71, .bin .gtr (.tmp 69) (.tmp 70), none, [], true⟩])
(.cond (.tmp 71)
(.seq (.drawn [
⟨some 72, .move (.tmp 0), none, [], false⟩,
⟨some 73, .move (.tmp 13), none, [], false⟩,
⟨some 74, .move (.tmp 0), none, [], false⟩,
⟨some 75, .move (.tmp 1), none, [], false⟩,
⟨some 76, .move (.tmp 0), none, [], false⟩,
⟨some 77, .move (.tmp 1), none, [], false⟩,
⟨some 78, .indexAddr 3 (.tmp 76) (.tmp 77), none, [4, 5], false⟩,
⟨some 79, .load (some 3) (.tmp 78), none, [6, 4, 5], false⟩,
⟨some 80, .move (.tmp 0), none, [], false⟩,
⟨some 81, .move (.tmp 13), none, [], false⟩,
⟨some 82, .indexAddr 3 (.tmp 80) (.tmp 81), none, [8, 9], false⟩,
⟨some 83, .load (some 3) (.tmp 82), none, [10, 8, 9], false⟩,
⟨some 84, .indexAddr 3 (.tmp 72) (.tmp 73), none, [0, 1, 4, 5, 6, 7, 11, 10, 8, 9], true⟩,
⟨none, .store 3 (.tmp 84) (.tmp 79), none, [12, 7, 0, 1, 4, 5, 6, 11, 10, 8, 9], true⟩,
⟨some 85, .indexAddr 3 (.tmp 74) (.tmp 75), none, [2, 3, 0, 1, 4, 5, 6, 7, 8, 9, 10, 11, 12, 13], true⟩,
⟨none, .store 3 (.tmp 85) (.tmp 83), none, [14, 11, 13, 0, 1, 2, 3, 4, 5, 6, 7, 8, 9, 10, 12], true⟩])
(.seq (.region [
⟨some 86, .move (.tmp 13), none, [], true⟩,
⟨some 10, .move (.tmp 86), none, [], true⟩,
⟨some 11, .move (.const (.bool true)), none, [], true⟩])
.ret))
.skip))
(.seq (.drawn [
⟨some 87, .move (.tmp 0), none, [], false⟩,
⟨some 88, .move (.tmp 12), none, [], false⟩,
⟨some 89, .move (.tmp 0), none, [], false⟩,
⟨some 90, .move (.tmp 13), none, [], false⟩,
⟨some 91, .move (.tmp 0), none, [], false⟩,
⟨some 92, .move (.tmp 13), none, [], false⟩,
⟨some 93, .indexAddr 3 (.tmp 91) (.tmp 92), none, [4, 5], false⟩,
⟨some 94, .load (some 3) (.tmp 93), none, [6, 4, 5], false⟩,
⟨some 95, .move (.tmp 0), none, [], false⟩,
⟨some 96, .move (.tmp 12), none, [], false⟩,
⟨some 97, .indexAddr 3 (.tmp 95) (.tmp 96), none, [8, 9], false⟩,
⟨some 98, .load (some 3) (.tmp 97), none, [10, 8, 9], false⟩,
⟨some 99, .indexAddr 3 (.tmp 87) (.tmp 88), none, [0, 1, 4, 5, 6, 7, 11, 10, 8, 9], true⟩,
⟨none, .store 3 (.tmp 99) (.tmp 94), none, [12, 7, 0, 1, 4, 5, 6, 11, 10, 8, 9], true⟩,
⟨some 100, .indexAddr 3 (.tmp 89) (.tmp 90), none, [2, 3, 0, 1, 4, 5, 6, 7, 8, 9, 10, 11, 12, 13], true⟩,
⟨none, .store 3 (.tmp 100) (.tmp 98), none, [14, 11, 13, 0, 1, 2, 3, 4, 5, 6, 7, 8, 9, 10, 12], true⟩])
(.seq (.region [
⟨some 101, .move (.tmp 12), none, [], true⟩,
⟨some 102, .bin .add (.tmp 101) (.const (.int .i64 1)), none, [], true⟩,
⟨some 12, .move (.tmp 102), none, [], true⟩])
(.seq (.region [
⟨some 103, .move (.tmp 13), none, [], true⟩,
⟨some 104, .bin .sub (.tmp 103) (.const (.int .i64 1)), none, [], true⟩,
⟨some 13, .move (.tmp 104), none, [], true⟩])
(.seq (.block 4 (.loop (.block 5 (.seq (.block 6 (.loop (.seq (.seq (.drawn [
⟨some 105, .move (.tmp 12), none, [], true⟩,
⟨some 106, .move (.tmp 13), none, [], true⟩,
⟨some 107, .bin .leq (.tmp 105) (.tmp 106), none, [0, 1], true⟩,
⟨some 108, .move (.tmp 107), none, [2, 0, 1], true⟩,
⟨some 109, .move (.tmp 4), (some (108, true)), [3, 2, 0, 1], false⟩,
⟨some 110, .move (.tmp 0), (some (108, true)), [3, 2, 0, 1], false⟩,
⟨some 111, .move (.tmp 12), (some (108, true)), [3, 2, 0, 1], false⟩,
⟨some 112, .indexAddr 3 (.tmp 110) (.tmp 111), (some (108, true)), [5, 6, 3, 2, 0, 1], false⟩,
⟨some 113, .load (some 3) (.tmp 112), (some (108, true)), [7, 3, 5, 6, 2, 0, 1], false⟩,
⟨some 114, .move (.tmp 0), (some (108, true)), [3, 2, 0, 1], false⟩,
⟨some 115, .move (.tmp 1), (some (108, true)), [3, 2, 0, 1], false⟩,
⟨some 116, .indexAddr 3 (.tmp 114) (.tmp 115), (some (108, true)), [9, 10, 3, 2, 0, 1], false⟩,
⟨some 117, .load (some 3) (.tmp 116), (some (108, true)), [11, 3, 9, 10, 2, 0, 1], false⟩,
⟨some 118, .call (.tmp 109) [(.tmp 113), (.tmp 117)], (some (108, true)), [4, 8, 12, 3, 2, 0, 1, 7, 5, 6, 11, 9, 10], true⟩,
⟨some 119, .bin .lss (.tmp 118) (.const (.int .i64 0)), (some (108, true)), [13, 3, 4, 8, 12, 2, 0, 1, 7, 5, 6, 11, 9, 10], true⟩,
⟨some 120, .pick (.tmp 108) (.tmp 119) (.const (.bool false)), none, [3, 14, 2, 0, 1, 13, 4, 8, 12, 7, 5, 6, 11, 9, 10], true⟩])
(.cond (.tmp 120)
.skip
(.exit 6)))
(.block 7 (.region [
⟨some 121, .move (.tmp 12), none, [], true⟩,
⟨some 122, .bin .add (.tmp 121) (.const (.int .i64 1)), none, [], true⟩,
⟨some 12, .move (.tmp 122), none, [], true⟩])))))
(.seq (.block 8 (.loop (.seq (.seq (.drawn [
⟨some 123, .move (.tmp 12), none, [], true⟩,
⟨some 124, .move (.tmp 13), none, [], true⟩,
⟨some 125, .bin .leq (.tmp 123) (.tmp 124), none, [0, 1], true⟩,
⟨some 126, .move (.tmp 125), none, [2, 0, 1], true⟩,
⟨some 127, .move (.tmp 4), (some (126, true)), [3, 2, 0, 1], false⟩,
⟨some 128, .move (.tmp 0), (some (126, true)), [3, 2, 0, 1], false⟩,
⟨some 129, .move (.tmp 13), (some (126, true)), [3, 2, 0, 1], false⟩,
⟨some 130, .indexAddr 3 (.tmp 128) (.tmp 129), (some (126, true)), [5, 6, 3, 2, 0, 1], false⟩,
⟨some 131, .load (some 3) (.tmp 130), (some (126, true)), [7, 3, 5, 6, 2, 0, 1], false⟩,
⟨some 132, .move (.tmp 0), (some (126, true)), [3, 2, 0, 1], false⟩,
⟨some 133, .move (.tmp 1), (some (126, true)), [3, 2, 0, 1], false⟩,
⟨some 134, .indexAddr 3 (.tmp 132) (.tmp 133), (some (126, true)), [9, 10, 3, 2, 0, 1], false⟩,
⟨some 135, .load (some 3) (.tmp 134), (some (126, true)), [11, 3, 9, 10, 2, 0, 1], false⟩,
⟨some 136, .call (.tmp 127) [(.tmp 131), (.tmp 135)], (some (126, true)), [4, 8, 12, 3, 2, 0, 1, 7, 5, 6, 11, 9, 10], true⟩,
⟨some 137, .bin .lss (.tmp 136) (.const (.int .i64 0)), (some (126, true)), [13, 3, 4, 8, 12, 2, 0, 1, 7, 5, 6, 11, 9, 10], true⟩,
⟨some 138, .un .not (.tmp 137), (some (126, true)), [14, 3, 13, 4, 8, 12, 2, 0, 1, 7, 5, 6, 11, 9, 10], true⟩,
⟨some 139, .pick (.tmp 126) (.tmp 138) (.const (.bool false)), none, [3, 15, 2, 0, 1, 14, 13, 4, 8, 12, 7, 5, 6, 11, 9, 10], true⟩])
(.cond (.tmp 139)
.skip
(.exit 8)))
(.block 9 (.region [
⟨some 140, .move (.tmp 13), none, [], true⟩,
⟨some 141, .bin .sub (.tmp 140) (.const (.int .i64 1)), none, [], true⟩,
⟨some 13, .move (.tmp 141), none, [], true⟩])))))
(.seq (.seq (.region [
⟨some 142, .move (.tmp 12), none, [], true⟩,
⟨some 143, .move (.tmp 13), none, [], true⟩,
⟨some 144, .bin .gtr (.tmp 142) (.tmp 143), none, [], true⟩])
(.cond (.tmp 144)
(.exit 4)
.skip))
(.seq (.drawn [
⟨some 145, .move (.tmp 0), none, [], false⟩,
⟨some 146, .move (.tmp 12), none, [], false⟩,
⟨some 147, .move (.tmp 0), none, [], false⟩,
⟨some 148, .move (.tmp 13), none, [], false⟩,
⟨some 149, .move (.tmp 0), none, [], false⟩,
⟨some 150, .move (.tmp 13), none, [], false⟩,
⟨some 151, .indexAddr 3 (.tmp 149) (.tmp 150), none, [4, 5], false⟩,
⟨some 152, .load (some 3) (.tmp 151), none, [6, 4, 5], false⟩,
⟨some 153, .move (.tmp 0), none, [], false⟩,
⟨some 154, .move (.tmp 12), none, [], false⟩,
⟨some 155, .indexAddr 3 (.tmp 153) (.tmp 154), none, [8, 9], false⟩,
⟨some 156, .load (some 3) (.tmp 155), none, [10, 8, 9], false⟩,
⟨some 157, .indexAddr 3 (.tmp 145) (.tmp 146), none, [0, 1, 4, 5, 6, 7, 11, 10, 8, 9], true⟩,
⟨none, .store 3 (.tmp 157) (.tmp 152), none, [12, 7, 0, 1, 4, 5, 6, 11, 10, 8, 9], true⟩,
⟨some 158, .indexAddr 3 (.tmp 147) (.tmp 148), none, [2, 3, 0, 1, 4, 5, 6, 7, 8, 9, 10, 11, 12, 13], true⟩,
⟨none, .store 3 (.tmp 158) (.tmp 156), none, [14, 11, 13, 0, 1, 2, 3, 4, 5, 6, 7, 8, 9, 10, 12], true⟩])
(.seq (.region [
⟨some 159, .move (.tmp 12), none, [], true⟩,
⟨some 160, .bin .add (.tmp 159) (.const (.int .i64 1)), none, [], true⟩,
⟨some 12, .move (.tmp 160), none, [], true⟩])
(.region [
⟨some 161, .move (.tmp 13), none, [], true⟩,
⟨some 162, .bin .sub (.tmp 161) (.const (.int .i64 1)), none, [], true⟩,
⟨some 13, .move (.tmp 162), none, [], true⟩])))))))))
(.seq (.drawn [
⟨some 163, .move (.tmp 0), none, [], false⟩,
⟨some 164, .move (.tmp 13), none, [], false⟩,
⟨some 165, .move (.tmp 0), none, [], false⟩,
⟨some 166, .move (.tmp 1), none, [], false⟩,
⟨some 167, .move (.tmp 0), none, [], false⟩,
⟨some 168, .move (.tmp 1), none, [], false⟩,
⟨some 169, .indexAddr 3 (.tmp 167) (.tmp 168), none, [4, 5], false⟩,
⟨some 170, .load (some 3) (.tmp 169), none, [6, 4, 5], false⟩,
⟨some 171, .move (.tmp 0), none, [], false⟩,
⟨some 172, .move (.tmp 13), none, [], false⟩,
⟨some 173, .indexAddr 3 (.tmp 171) (.tmp 172), none, [8, 9], false⟩,
⟨some 174, .load (some 3) (.tmp 173), none, [10, 8, 9], false⟩,
⟨some 175, .indexAddr 3 (.tmp 163) (.tmp 164), none, [0, 1, 4, 5, 6, 7, 11, 10, 8, 9], true⟩,
⟨none, .store 3 (.tmp 175) (.tmp 170), none, [12, 7, 0, 1, 4, 5, 6, 11, 10, 8, 9], true⟩,
⟨some 176, .indexAddr 3 (.tmp 165) (.tmp 166), none, [2, 3, 0, 1, 4, 5, 6, 7, 8, 9, 10, 11, 12, 13], true⟩,
⟨none, .store 3 (.tmp 176) (.tmp 174), none, [14, 11, 13, 0, 1, 2, 3, 4, 5, 6, 7, 8, 9, 10, 12], true⟩])
(.seq (.region [
⟨some 177, .move (.tmp 13), none, [], true⟩,
⟨some 10, .move (.tmp 177), none, [], true⟩,
⟨some 11, .move (.const (.bool false)), none, [], true⟩])
.ret)))))))))))) }
theorem ir89_eq : funcC Try.prog 89 = some ir89 := by kernel_rfl
def ir90 : IFunc :=
{ ntmps := 19, results := [.tmp 2], body :=
(.seq (.region [
⟨some 2, .move (.const (.int .i64 0)), none, [], true⟩])
(.seq (.seq (.region [
⟨some 3, .move (.tmp 0), none, [], true⟩,
⟨some 4, .bin .geq (.tmp 3) (.const (.int .u32 65536)), none, [], true⟩])
(.cond (.tmp 4)
(.seq (.region [
⟨some 5, .move (.tmp 0), none, [], true⟩,
⟨some 6, .bin .shr (.tmp 5) (.const (.int .u64 16)), none, [], true⟩,
⟨some 0, .move (.tmp 6), none, [], true⟩])
(.region [
⟨some 2, .move (.const (.int .i64 16)), none, [], true⟩]))
.skip))
(.seq (.seq (.region [
⟨some 7, .move (.tmp 0), none, [], true⟩,
⟨some 8, .bin .geq (.tmp 7) (.const (.int .u32 256)), none, [], true⟩])
(.cond (.tmp 8)
(.seq (.region [
⟨some 9, .move (.tmp 0), none, [], true⟩,
⟨some 10, .bin .shr (.tmp 9) (.const (.int .u64 8)), none, [], true⟩,
⟨some 0, .move (.tmp 10), none, [], true⟩])
(.region [
⟨some 11, .move (.tmp 2), none, [], true⟩,
⟨some 12, .bin .add (.tmp 11) (.const (.int .i64 8)), none, [], true⟩,
⟨some 2, .move (.tmp 12), none, [], true⟩]))
.skip))
(.seq (.region [
⟨some 13, .move (.tmp 2), none, [], true⟩,
⟨some 14, .move (.tmp 0), none, [], true⟩,
⟨some 15, .conv .u8 (.tmp 14), none, [], true⟩,
⟨some 16, .indexStr (.const (.string ⟨#[0, 1, 2, 2, 3, 3, 3, 3, 4, 4, 4, 4, 4, 4, 4, 4, 5, 5, 5, 5, 5, 5, 5, 5, 5, 5, 5, 5, 5, 5, 5, 5, 6, 6, 6, 6, 6, 6, 6, 6, 6, 6, 6, 6, 6, 6, 6, 6, 6, 6, 6, 6, 6, 6, 6, 6, 6, 6, 6, 6, 6, 6, 6, 6, 7, 7, 7, 7, 7, 7, 7, 7, 7, 7, 7, 7, 7, 7, 7, 7, 7, 7, 7, 7, 7, 7, 7, 7, 7, 7, 7, 7, 7, 7, 7, 7, 7, 7, 7, 7, 7, 7, 7, 7, 7, 7, 7, 7, 7, 7, 7, 7, 7, 7, 7, 7, 7, 7, 7, 7, 7, 7, 7, 7, 7, 7, 7, 7, 8, 8, 8, 8, 8, 8, 8, 8, 8, 8, 8, 8, 8, 8, 8, 8, 8, 8, 8, 8, 8, 8, 8, 8, 8, 8, 8, 8, 8, 8, 8, 8, 8, 8, 8, 8, 8, 8, 8, 8, 8, 8, 8, 8, 8, 8, 8, 8, 8, 8, 8, 8, 8, 8, 8, 8, 8, 8, 8, 8, 8, 8, 8, 8, 8, 8, 8, 8, 8, 8, 8, 8, 8, 8, 8, 8, 8, 8, 8, 8, 8, 8, 8, 8, 8, 8, 8, 8, 8, 8, 8, 8, 8, 8, 8, 8, 8, 8, 8, 8, 8, 8, 8, 8, 8, 8, 8, 8, 8, 8, 8, 8, 8, 8, 8, 8, 8, 8, 8, 8, 8, 8, 8, 8, 8, 8, 8, 8]⟩)) (.tmp 15), none, [], true⟩,
⟨some 17, .conv .i64 (.tmp 16), none, [], true⟩,
⟨some 18, .bin .add (.tmp 13) (.tmp 17), none, [], true⟩,
⟨some 2, .move (.tmp 18), none, [], true⟩])
.ret)))) }
theorem ir90_eq : funcC Try.prog 90 = some ir90 := by kernel_rfl
def ir91 : IFunc :=
{ ntmps := 25, results := [.tmp 2], body :=
(.seq (.region [
⟨some 2, .move (.const (.int .i64 0)), none, [], true⟩])
(.seq (.seq (.region [
⟨some 3, .move (.tmp 0), none, [], true⟩,
⟨some 4, .bin .geq (.tmp 3) (.const (.int .u64 4294967296)), none, [], true⟩])
(.cond (.tmp 4)
(.seq (.region [
⟨some 5, .move (.tmp 0), none, [], true⟩,
⟨some 6, .bin .shr (.tmp 5) (.const (.int .u64 32)), none, [], true⟩,
⟨some 0, .move (.tmp 6), none, [], true⟩])
(.region [
⟨some 2, .move (.const (.int .i64 32)), none, [], true⟩]))
.skip))
(.seq (.seq (.region [
⟨some 7, .move (.tmp 0), none, [], true⟩,
⟨some 8, .bin .geq (.tmp 7) (.const (.int .u64 65536)), none, [], true⟩])
(.cond (.tmp 8)
(.seq (.region [
⟨some 9, .move (.tmp 0), none, [], true⟩,
⟨some 10, .bin .shr (.tmp 9) (.const (.int .u64 16)), none, [], true⟩,
⟨some 0, .move (.tmp 10), none, [], true⟩])
(.region [
⟨some 11, .move (.tmp 2), none, [], true⟩,
⟨some 12, .bin .add (.tmp 11) (.const (.int .i64 16)), none, [], true⟩,
⟨some 2, .move (.tmp 12), none, [], true⟩]))
.skip))
(.seq (.seq (.region [
⟨some 13, .move (.tmp 0), none, [], true⟩,
⟨some 14, .bin .geq (.tmp 13) (.const (.int .u64 256)), none, [], true⟩])
(.cond (.tmp 14)
(.seq (.region [
⟨some 15, .move (.tmp 0), none, [], true⟩,
⟨some 16, .bin .shr (.tmp 15) (.const (.int .u64 8)), none, [], true⟩,
⟨some 0, .move (.tmp 16), none, [], true⟩])
(.region [
⟨some 17, .move (.tmp 2), none, [], true⟩,
⟨some 18, .bin .add (.tmp 17) (.const (.int .i64 8)), none, [], true⟩,
⟨some 2, .move (.tmp 18), none, [], true⟩]))
.skip))
(.seq (.region [
⟨some 19, .move (.tmp 2), none, [], true⟩,
⟨some 20, .move (.tmp 0), none, [], true⟩,
⟨some 21, .conv .u8 (.tmp 20), none, [], true⟩,
⟨some 22, .indexStr (.const (.string ⟨#[0, 1, 2, 2, 3, 3, 3, 3, 4, 4, 4, 4, 4, 4, 4, 4, 5, 5, 5, 5, 5, 5, 5, 5, 5, 5, 5, 5, 5, 5, 5, 5, 6, 6, 6, 6, 6, 6, 6, 6, 6, 6, 6, 6, 6, 6, 6, 6, 6, 6, 6, 6, 6, 6, 6, 6, 6, 6, 6, 6, 6, 6, 6, 6, 7, 7, 7, 7, 7, 7, 7, 7, 7, 7, 7, 7, 7, 7, 7, 7, 7, 7, 7, 7, 7, 7, 7, 7, 7, 7, 7, 7, 7, 7, 7, 7, 7, 7, 7, 7, 7, 7, 7, 7, 7, 7, 7, 7, 7, 7, 7, 7, 7, 7, 7, 7, 7, 7, 7, 7, 7, 7, 7, 7, 7, 7, 7, 7, 8, 8, 8, 8, 8, 8, 8, 8, 8, 8, 8, 8, 8, 8, 8, 8, 8, 8, 8, 8, 8, 8, 8, 8, 8, 8, 8, 8, 8, 8, 8, 8, 8, 8, 8, 8, 8, 8, 8, 8, 8, 8, 8, 8, 8, 8, 8, 8, 8, 8, 8, 8, 8, 8, 8, 8, 8, 8, 8, 8, 8, 8, 8, 8, 8, 8, 8, 8, 8, 8, 8, 8, 8, 8, 8, 8, 8, 8, 8, 8, 8, 8, 8, 8, 8, 8, 8, 8, 8, 8, 8, 8, 8, 8, 8, 8, 8, 8, 8, 8, 8, 8, 8, 8, 8, 8, 8, 8, 8, 8, 8, 8, 8, 8, 8, 8, 8, 8, 8, 8, 8, 8, 8, 8, 8, 8, 8, 8]⟩)) (.tmp 21), none, [], true⟩,
⟨some 23, .conv .i64 (.tmp 22), none, [], true⟩,
⟨some 24, .bin .add (.tmp 19) (.tmp 23), none, [], true⟩,
⟨some 2, .move (.tmp 24), none, [], true⟩])
.ret))))) }
theorem ir91_eq : funcC Try.prog 91 = some ir91 := by kernel_rfl
def ir92 : IFunc :=
{ ntmps := 6, results := [.tmp 2], body :=
(.seq (.region [
⟨some 2, .move (.const (.bool false)), none, [], true⟩])
(.seq (.region [
⟨some 3, .move (.tmp 0), none, [], true⟩,
⟨some 4, .move (.tmp 0), none, [], true⟩,
⟨some 5, .bin .neq (.tmp 3) (.tmp 4), none, [], true⟩,
⟨some 2, .move (.tmp 5), none, [], true⟩])
.ret)) }
theorem ir92_eq : funcC Try.prog 92 = some ir92 := by kernel_rfl
def ir93 : IFunc :=
{ ntmps := 6, results := [.tmp 2], body :=
(.seq (.region [
⟨some 2, .move (.const (.bool false)), none, [], true⟩])
(.seq (.region [
⟨some 3, .move (.tmp 0), none, [], true⟩,
⟨some 4, .move (.tmp 0), none, [], true⟩,
⟨some 5, .bin .neq (.tmp 3) (.tmp 4), none, [], true⟩,
⟨some 2, .move (.tmp 5), none, [], true⟩])
.ret)) }
theorem ir93_eq : funcC Try.prog 93 = some ir93 := by kernel_rfl
def ir94 : IFunc :=
{ ntmps := 82, results := [], body :=
(.seq (.region [
⟨some 12, .move (.tmp 1), none, [], true⟩,
⟨some 10, .move (.tmp 12), none, [], true⟩])
(.block 0 (.loop (.block 1 (.seq (.region [
⟨some 13, .move (.tmp 10), none, [], true⟩,
⟨some 14, .bin .mul (.const (.int .i64 2)) (.tmp 13), none, [], true⟩,
⟨some 15, .bin .add (.tmp 14) (.const (.int .i64 1)), none, [], true⟩,
⟨some 11, .move (.tmp 15), none, [], true⟩])
(.seq (.seq (.region [
⟨some 16, .move (.tmp 11), none, [], true⟩,
⟨some 17, .move (.tmp 2), none, [], true⟩,
⟨some 18, .bin .geq (.tmp 16) (.tmp 17), none, [], true⟩])
(.cond (.tmp 18)
(.exit 0)
.skip))
(.seq (.seq (.drawn [
⟨some 19, .move (.tmp 11), none, [], true⟩,
⟨some 20, .bin .add (.tmp 19) (.const (.int .i64 1)), none, [0], true⟩,
⟨some 21, .move (.tmp 2), none, [], true⟩,
⟨some 22, .bin .lss (.tmp 20) (.tmp 21), none, [1, 2, 0], true⟩,
⟨some 23, .move (.tmp 22), none, [3, 1, 2, 0], true⟩,
⟨some 24, .move (.tmp 4), (some (23, true)), [4, 3, 1, 2, 0], false⟩,
⟨some 25, .move (.tmp 0), (some (23, true)), [4, 3, 1, 2, 0], false⟩,
⟨some 26, .move (.tmp 3), (some (23, true)), [4, 3, 1, 2, 0], false⟩,
⟨some 27, .move (.tmp 11), (some (23, true)), [4, 3, 1, 2, 0], false⟩,
⟨some 28, .bin .add (.tmp 26) (.tmp 27), (some (23, true)), [7, 8, 4, 3, 1, 2, 0], false⟩,
⟨some 29, .indexAddr 3 (.tmp 25) (.tmp 28), (some (23, true)), [6, 9, 4, 3, 1, 2, 0, 7, 8], false⟩,
⟨some 30, .load (some 3) (.tmp 29), (some (23, true)), [10, 4, 6, 9, 3, 1, 2, 0, 7, 8], false⟩,
⟨some 31, .move (.tmp 0), (some (23, true)), [4, 3, 1, 2, 0], false⟩,
⟨some 32, .move (.tmp 3), (some (23, true)), [4, 3, 1, 2, 0], false⟩,
⟨some 33, .move (.tmp 11), (some (23, true)), [4, 3, 1, 2, 0], false⟩,
⟨some 34, .bin .add (.tmp 32) (.tmp 33), (some (23, true)), [13, 14, 4, 3, 1, 2, 0], false⟩,
⟨some 35, .bin .add (.tmp 34) (.const (.int .i64 1)), (some (23, true)), [15, 4, 13, 14, 3, 1, 2, 0], false⟩,
⟨some 36, .indexAddr 3 (.tmp 31) (.tmp 35), (some (23, true)), [12, 16, 4, 3, 1, 2, 0, 15, 13, 14], false⟩,
⟨some 37, .load (some 3) (.tmp 36), (some (23, true)), [17, 4, 12, 16, 3, 1, 2, 0, 15, 13, 14], false⟩,
⟨some 38, .call (.tmp 24) [(.tmp 30), (.tmp 37)], (some (23, true)), [5, 11, 18, 4, 3, 1, 2, 0, 10, 6, 9, 7, 8, 17, 12, 16, 15, 13, 14], true⟩,
⟨some 39, .bin .lss (.tmp 38) (.const (.int .i64 0)), (some (23, true)), [19, 4, 5, 11, 18, 3, 1, 2, 0, 10, 6, 9, 7, 8, 17, 12, 16, 15, 13, 14], true⟩,
⟨some 40, .pick (.tmp 23) (.tmp 39) (.const (.bool false)), none, [4, 20, 3, 1, 2, 0, 19, 5, 11, 18, 10, 6, 9, 7, 8, 17, 12, 16, 15, 13, 14], true⟩])
(.cond (.tmp 40)
(.region [
⟨some 41, .move (.tmp 11), none, [], true⟩,
⟨some 42, .bin .add (.tmp 41) (.const (.int .i64 1)), none, [], true⟩,
⟨some 11, .move (.tmp 42), none, [], true⟩])
.skip))
(.seq (.seq (.drawn [
⟨some 43, .move (.tmp 4), none, [], false⟩,
⟨some 44, .move (.tmp 0), none, [], false⟩,
⟨some 45, .move (.tmp 3), none, [], false⟩,
⟨some 46, .move (.tmp 10), none, [], false⟩,
⟨some 47, .bin .add (.tmp 45) (.tmp 46), none, [2, 3], false⟩,
⟨some 48, .indexAddr 3 (.tmp 44) (.tmp 47), none, [1, 4, 2, 3], false⟩,
⟨some 49, .load (some 3) (.tmp 48), none, [5, 1, 4, 2, 3], false⟩,
⟨some 50, .move (.tmp 0), none, [], false⟩,
⟨some 51, .move (.tmp 3), none, [], false⟩,
⟨some 52, .move (.tmp 11), none, [], false⟩,
⟨some 53, .bin .add (.tmp 51) (.tmp 52), none, [8, 9], false⟩,
⟨some 54, .indexAddr 3 (.tmp 50) (.tmp 53), none, [7, 10, 8, 9], false⟩,
⟨some 55, .load (some 3) (.tmp 54), none, [11, 7, 10, 8, 9], false⟩,
⟨some 56, .call (.tmp 43) [(.tmp 49), (.tmp 55)], none, [0, 6, 12, 5, 1, 4, 2, 3, 11, 7, 10, 8, 9], true⟩,
⟨some 57, .bin .lss (.tmp 56) (.const (.int .i64 0)), none, [13, 0, 6, 12, 5, 1, 4, 2, 3, 11, 7, 10, 8, 9], true⟩,
⟨some 58, .un .not (.tmp 57), none, [14, 13, 0, 6, 12, 5, 1, 4, 2, 3, 11, 7, 10, 8, 9], true⟩])
(.cond (.tmp 58)
.ret
.skip))
(.seq (.drawn [
⟨some 59, .move (.tmp 0), none, [], false⟩,
⟨some 60, .move (.tmp 3), none, [], false⟩,
⟨some 61, .move (.tmp 10), none, [], false⟩,
⟨some 62, .bin .add (.tmp 60) (.tmp 61), none, [1, 2], false⟩,
⟨some 63, .move (.tmp 0), none, [], false⟩,
⟨some 64, .move (.tmp 3), none, [], false⟩,
⟨some 65, .move (.tmp 11), none, [], false⟩,
⟨some 66, .bin .add (.tmp 64) (.tmp 65), none, [5, 6], false⟩,
⟨some 67, .move (.tmp 0), none, [], false⟩,
⟨some 68, .move (.tmp 3), none, [], false⟩,
⟨some 69, .move (.tmp 11), none, [], false⟩,
⟨some 70, .bin .add (.tmp 68) (.tmp 69), none, [9, 10], false⟩,
⟨some 71, .indexAddr 3 (.tmp 67) (.tmp 70), none, [8, 11, 9, 10], false⟩,
⟨some 72, .load (some 3) (.tmp 71), none, [12, 8, 11, 9, 10], false⟩,
⟨some 73, .move (.tmp 0), none, [], false⟩,
⟨some 74, .move (.tmp 3), none, [], false⟩,
⟨some 75, .move (.tmp 10), none, [], false⟩,
⟨some 76, .bin .add (.tmp 74) (.tmp 75), none, [15, 16], false⟩,
⟨some 77, .indexAddr 3 (.tmp 73) (.tmp 76), none, [14, 17, 15, 16], false⟩,
⟨some 78, .load (some 3) (.tmp 77), none, [18, 14, 17, 15, 16], false⟩,
⟨some 79, .indexAddr 3 (.tmp 59) (.tmp 62), none, [0, 3, 1, 2, 8, 9, 10, 11, 12, 13, 19, 18, 14, 17, 15, 16], true⟩,
⟨none, .store 3 (.tmp 79) (.tmp 72), none, [20, 13, 0, 1, 2, 3, 8, 9, 10, 11, 12, 19, 18, 14, 17, 15, 16], true⟩,
⟨some 80, .indexAddr 3 (.tmp 63) (.tmp 66), none, [4, 7, 0, 1, 2, 3, 5, 6, 8, 9, 10, 11, 12, 13, 14, 15, 16, 17, 18, 19, 20, 21], true⟩,
⟨none, .store 3 (.tmp 80) (.tmp 78), none, [22, 19, 21, 0, 1, 2, 3, 4, 5, 6, 7, 8, 9, 10, 11, 12, 13, 14, 15, 16, 17, 18, 20], true⟩])
(.region [
⟨some 81, .move (.tmp 11), none, [], true⟩,
⟨some 10, .move (.tmp 81), none, [], true⟩])))))))))) }
theorem ir94_eq : funcC Try.prog 94 = some ir94 := by kernel_rfl
def ir95 : IFunc :=
{ ntmps := 7, results := [.tmp 2], body :=
(.seq (.region [
⟨some 2, .move (.const (.int .u64 0)), none, [], true⟩])
(.seq (.region [
⟨some 3, .move (.tmp 0), none, [], true⟩,
⟨some 4, .conv .u64 (.tmp 3), none, [], true⟩,
⟨some 5, .call (.const (.func (.func 78) #[] #[])) [(.tmp 4)], none, [], true⟩,
⟨some 6, .bin .shl (.const (.int .u64 1)) (.tmp 5), none, [], true⟩,
⟨some 2, .move (.tmp 6), none, [], true⟩])
.ret)) }
theorem ir95_eq : funcC Try.prog 95 = some ir95 := by kernel_rfl
def ir96 : IFunc :=
{ ntmps := 33, results := [.tmp 2], body :=
(.seq (.region [
⟨some 2, .move (.const (.int .u64 0)), none, [], true⟩])
(.seq (.drawn [
⟨some 3, .move (.tmp 0), none, [], false⟩,
⟨some 4, .nilCheck (.tmp 3), none, [0], false⟩,
⟨some 5, .load none (.tmp 4), none, [1, 0], false⟩,
⟨some 6, .move (.tmp 0), none, [], false⟩,
⟨some 7, .nilCheck (.tmp 6), none, [3], false⟩,
⟨some 8, .load none (.tmp 7), none, [4, 3], false⟩,
⟨some 9, .bin .shl (.tmp 8) (.const (.int .u64 13)), none, [5, 4, 3], false⟩,
⟨some 10, .bin .xor (.tmp 5) (.tmp 9), none, [2, 6, 1, 0, 5, 4, 3], true⟩,
⟨some 11, .nilCheck (.tmp 3), none, [0, 1, 2, 3, 4, 5, 6, 7], true⟩,
⟨none, .store 1 (.tmp 11) (.tmp 10), none, [8, 7, 0, 1, 2, 3, 4, 5, 6], true⟩])
(.seq (.drawn [
⟨some 12, .move (.tmp 0), none, [], false⟩,
⟨some 13, .nilCheck (.tmp 12), none, [0], false⟩,
⟨some 14, .load none (.tmp 13), none, [1, 0], false⟩,
⟨some 15, .move (.tmp 0), none, [], false⟩,
⟨some 16, .nilCheck (.tmp 15), none, [3], false⟩,
⟨some 17, .load none (.tmp 16), none, [4, 3], false⟩,
⟨some 18, .bin .shr (.tmp 17) (.const (.int .u64 7)), none, [5, 4, 3], false⟩,
⟨some 19, .bin .xor (.tmp 14) (.tmp 18), none, [2, 6, 1, 0, 5, 4, 3], true⟩,
⟨some 20, .nilCheck (.tmp 12), none, [0, 1, 2, 3, 4, 5, 6, 7], true⟩,
⟨none, .store 1 (.tmp 20) (.tmp 19), none, [8, 7, 0, 1, 2, 3, 4, 5, 6], true⟩])
(.seq (.drawn [
⟨some 21, .move (.tmp 0), none, [], false⟩,
⟨some 22, .nilCheck (.tmp 21), none, [0], false⟩,
⟨some 23, .load none (.tmp 22), none, [1, 0], false⟩,
⟨some 24, .move (.tmp 0), none, [], false⟩,
⟨some 25, .nilCheck (.tmp 24), none, [3], false⟩,
⟨some 26, .load none (.tmp 25), none, [4, 3], false⟩,
⟨some 27, .bin .shl (.tmp 26) (.const (.int .u64 17)), none, [5, 4, 3], false⟩,
⟨some 28, .bin .xor (.tmp 23) (.tmp 27), none, [2, 6, 1, 0, 5, 4, 3], true⟩,
⟨some 29, .nilCheck (.tmp 21), none, [0, 1, 2, 3, 4, 5, 6, 7], true⟩,
⟨none, .store 1 (.tmp 29) (.tmp 28), none, [8, 7, 0, 1, 2, 3, 4, 5, 6], true⟩])
(.seq (.region [
⟨some 30, .move (.tmp 0), none, [], true⟩,
⟨some 31, .nilCheck (.tmp 30), none, [], true⟩,
⟨some 32, .load none (.tmp 31), none, [], true⟩,
⟨some 2, .move (.tmp 32), none, [], true⟩])
.ret))))) }
theorem ir96_eq : funcC Try.prog 96 = some ir96 := by kernel_rfl
def ir97 : IFunc :=
{ ntmps := 18, results := [.tmp 8], body :=
(.seq (.region [
⟨some 8, .move (.const (.int .i64 0)), none, [], true⟩])
(.seq (.region [
⟨some 9, .move (.tmp 0), none, [], true⟩,
⟨some 10, .move (.tmp 1), none, [], true⟩,
⟨some 11, .bin .sub (.tmp 10) (.const (.int .i64 1)), none, [], true⟩,
⟨some 12, .move (.tmp 1), none, [], true⟩,
⟨some 13, .move (.tmp 1), none, [], true⟩,
⟨some 14, .bin .add (.tmp 13) (.const (.int .i64 1)), none, [], true⟩,
⟨some 15, .move (.tmp 2), none, [], true⟩,
⟨some 16, .move (.tmp 3), none, [], true⟩,
⟨some 17, .call (.const (.func (.func 98) #[] #[])) [(.tmp 9), (.tmp 11), (.tmp 12), (.tmp 14), (.tmp 15), (.tmp 16)], none, [], true⟩,
⟨some 8, .move (.tmp 17), none, [], true⟩])
.ret)) }
theorem ir97_eq : funcC Try.prog 97 = some ir97 := by kernel_rfl
def ir98 : IFunc :=
{ ntmps := 41, results := [.tmp 12], body :=
(.seq (.region [
⟨some 12, .move (.const (.int .i64 0)), none, [], true⟩])
(.seq (.region [
⟨some 14, .move (.tmp 0), none, [], true⟩,
⟨some 15, .move (.tmp 1), none, [], true⟩,
⟨some 16, .move (.tmp 2), none, [], true⟩,
⟨some 17, .move (.tmp 4), none, [], true⟩,
⟨some 18, .move (.tmp 5), none, [], true⟩,
⟨some 19, .call (.const (.func (.func 99) #[] #[])) [(.tmp 14), (.tmp 15), (.tmp 16), (.tmp 17), (.tmp 18)], none, [], true⟩,
⟨some 13, .move (.tmp 19), none, [], true⟩,
⟨some 20, .extract (.tmp 13) 0, none, [], true⟩,
⟨some 21, .extract (.tmp 13) 1, none, [], true⟩,
⟨some 1, .move (.tmp 20), none, [], true⟩,
⟨some 2, .move (.tmp 21), none, [], true⟩])
(.seq (.region [
⟨some 23, .move (.tmp 0), none, [], true⟩,
⟨some 24, .move (.tmp 2), none, [], true⟩,
⟨some 25, .move (.tmp 3), none, [], true⟩,
⟨some 26, .move (.tmp 4), none, [], true⟩,
⟨some 27, .move (.tmp 5), none, [], true⟩,
⟨some 28, .call (.const (.func (.func 99) #[] #[])) [(.tmp 23), (.tmp 24), (.tmp 25), (.tmp 26), (.tmp 27)], none, [], true⟩,
⟨some 22, .move (.tmp 28), none, [], true⟩,
⟨some 29, .extract (.tmp 22) 0, none, [], true⟩,
⟨some 30, .extract (.tmp 22) 1, none, [], true⟩,
⟨some 2, .move (.tmp 29), none, [], true⟩,
⟨some 3, .move (.tmp 30), none, [], true⟩])
(.seq (.region [
⟨some 32, .move (.tmp 0), none, [], true⟩,
⟨some 33, .move (.tmp 1), none, [], true⟩,
⟨some 34, .move (.tmp 2), none, [], true⟩,
⟨some 35, .move (.tmp 4), none, [], true⟩,
⟨some 36, .move (.tmp 5), none, [], true⟩,
⟨some 37, .call (.const (.func (.func 99) #[] #[])) [(.tmp 32), (.tmp 33), (.tmp 34), (.tmp 35), (.tmp 36)], none, [], true⟩,
⟨some 31, .move (.tmp 37), none, [], true⟩,
⟨some 38, .extract (.tmp 31) 0, none, [], true⟩,
⟨some 39, .extract (.tmp 31) 1, none, [], true⟩,
⟨some 1, .move (.tmp 38), none, [], true⟩,
⟨some 2, .move (.tmp 39), none, [], true⟩])
(.seq (.region [
⟨some 40, .move (.tmp 2), none, [], true⟩,
⟨some 12, .move (.tmp 40), none, [], true⟩])
.ret))))) }
theorem ir98_eq : funcC Try.prog 98 = some ir98 := by kernel_rfl
def ir99 : IFunc :=
{ ntmps := 32, results := [.tmp 10, .tmp 11], body :=
(.seq (.region [
⟨some 10, .move (.const (.int .i64 0)), none, [], true⟩,
⟨some 11, .move (.const (.int .i64 0)), none, [], true⟩])
(.seq (.seq (.drawn [
⟨some 12, .move (.tmp 4), none, [], false⟩,
⟨some 13, .move (.tmp 0), none, [], false⟩,
⟨some 14, .move (.tmp 2), none, [], false⟩,
⟨some 15, .indexAddr 3 (.tmp 13) (.tmp 14), none, [1, 2], false⟩,
⟨some 16, .load (some 3) (.tmp 15), none, [3, 1, 2], false⟩,
⟨some 17, .move (.tmp 0), none, [], false⟩,
⟨some 18, .move (.tmp 1), none, [], false⟩,
⟨some 19, .indexAddr 3 (.tmp 17) (.tmp 18), none, [5, 6], false⟩,
⟨some 20, .load (some 3) (.tmp 19), none, [7, 5, 6], false⟩,
⟨some 21, .call (.tmp 12) [(.tmp 16), (.tmp 20)], none, [0, 4, 8, 3, 1, 2, 7, 5, 6], true⟩,
⟨some 22, .bin .lss (.tmp 21) (.const (.int .i64 0)), none, [9, 0, 4, 8, 3, 1, 2, 7, 5, 6], true⟩])
(.cond (.tmp 22)
(.seq (.region [
⟨some 23, .move (.tmp 3), none, [], true⟩,
⟨some 24, .nilCheck (.tmp 23), none, [], true⟩,
⟨some 25, .load none (.tmp 24), none, [], true⟩,
⟨some 26, .bin .add (.tmp 25) (.const (.int .i64 1)), none, [], true⟩,
⟨some 27, .nilCheck (.tmp 23), none, [], true⟩,
⟨none, .store 1 (.tmp 27) (.tmp 26), none, [], true⟩])
(.seq (.region [
⟨some 28, .move (.tmp 2), none, [], true⟩,
⟨some 29, .move (.tmp 1), none, [], true⟩,
⟨some 10, .move (.tmp 28), none, [], true⟩,
⟨some 11, .move (.tmp 29), none, [], true⟩])
.ret))
.skip))
(.seq (.region [
⟨some 30, .move (.tmp 1), none, [], true⟩,
⟨some 31, .move (.tmp 2), none, [], true⟩,
⟨some 10, .move (.tmp 30), none, [], true⟩,
⟨some 11, .move (.tmp 31), none, [], true⟩])
.ret))) }
theorem ir99_eq : funcC Try.prog 99 = some ir99 := by kernel_rfl
def table : List (Option IFunc) :=
  [none, none, none, some ir3, none, none, none, none, none, some ir9, some ir10, some ir11, some ir12, some ir13, some ir14, some ir15, some ir16, some ir17, some ir18, some ir19, none, none, none, none, some ir24, some ir25, some ir26, some ir27, some ir28, some ir29, some ir30, some ir31, some ir32, some ir33, some ir34, some ir35, some ir36, some ir37, some ir38, some ir39, some ir40, some ir41, some ir42, some ir43, none, none, none, none, none, none, none, none, none, some ir53, some ir54, some ir55, some ir56, some ir57, some ir58, none, none, none, none, none, none, none, some ir66, some ir67, some ir68, some ir69, some ir70, none, none, some ir73, some ir74, some ir75, some ir76, some ir77, some ir78, some ir79, some ir80, some ir81, some ir82, some ir83, some ir84, some ir85, some ir86, some ir87, some ir88, some ir89, some ir90, some ir91, some ir92, some ir93, some ir94, some ir95, some ir96, some ir97, some ir98, some ir99]
def env : Env := fun g => (table[g]?).join
theorem env_ok : ∀ g F, env g = some F → funcC Try.prog g = some F := by
  intro g F h
  match g with
  | 0 => cases h
  | 1 => cases h
  | 2 => cases h
  | 3 => cases h; exact ir3_eq
  | 4 => cases h
  | 5 => cases h
  | 6 => cases h
  | 7 => cases h
  | 8 => cases h
  | 9 => cases h; exact ir9_eq
  | 10 => cases h; exact ir10_eq
  | 11 => cases h; exact ir11_eq
  | 12 => cases h; exact ir12_eq
  | 13 => cases h; exact ir13_eq
  | 14 => cases h; exact ir14_eq
  | 15 => cases h; exact ir15_eq
  | 16 => cases h; exact ir16_eq
  | 17 => cases h; exact ir17_eq
  | 18 => cases h; exact ir18_eq
  | 19 => cases h; exact ir19_eq
  | 20 => cases h
  | 21 => cases h
  | 22 => cases h
  | 23 => cases h
  | 24 => cases h; exact ir24_eq
  | 25 => cases h; exact ir25_eq
  | 26 => cases h; exact ir26_eq
  | 27 => cases h; exact ir27_eq
  | 28 => cases h; exact ir28_eq
  | 29 => cases h; exact ir29_eq
  | 30 => cases h; exact ir30_eq
  | 31 => cases h; exact ir31_eq
  | 32 => cases h; exact ir32_eq
  | 33 => cases h; exact ir33_eq
  | 34 => cases h; exact ir34_eq
  | 35 => cases h; exact ir35_eq
  | 36 => cases h; exact ir36_eq
  | 37 => cases h; exact ir37_eq
  | 38 => cases h; exact ir38_eq
  | 39 => cases h; exact ir39_eq
  | 40 => cases h; exact ir40_eq
  | 41 => cases h; exact ir41_eq
  | 42 => cases h; exact ir42_eq
  | 43 => cases h; exact ir43_eq
  | 44 => cases h
  | 45 => cases h
  | 46 => cases h
  | 47 => cases h
  | 48 => cases h
  | 49 => cases h
  | 50 => cases h
  | 51 => cases h
  | 52 => cases h
  | 53 => cases h; exact ir53_eq
  | 54 => cases h; exact ir54_eq
  | 55 => cases h; exact ir55_eq
  | 56 => cases h; exact ir56_eq
  | 57 => cases h; exact ir57_eq
  | 58 => cases h; exact ir58_eq
  | 59 => cases h
  | 60 => cases h
  | 61 => cases h
  | 62 => cases h
  | 63 => cases h
  | 64 => cases h
  | 65 => cases h
  | 66 => cases h; exact ir66_eq
  | 67 => cases h; exact ir67_eq
  | 68 => cases h; exact ir68_eq
  | 69 => cases h; exact ir69_eq
  | 70 => cases h; exact ir70_eq
  | 71 => cases h
  | 72 => cases h
  | 73 => cases h; exact ir73_eq
  | 74 => cases h; exact ir74_eq
  | 75 => cases h; exact ir75_eq
  | 76 => cases h; exact ir76_eq
  | 77 => cases h; exact ir77_eq
  | 78 => cases h; exact ir78_eq
  | 79 => cases h; exact ir79_eq
  | 80 => cases h; exact ir80_eq
  | 81 => cases h; exact ir81_eq
  | 82 => cases h; exact ir82_eq
  | 83 => cases h; exact ir83_eq
  | 84 => cases h; exact ir84_eq
  | 85 => cases h; exact ir85_eq
  | 86 => cases h; exact ir86_eq
  | 87 => cases h; exact ir87_eq
  | 88 => cases h; exact ir88_eq
  | 89 => cases h; exact ir89_eq
  | 90 => cases h; exact ir90_eq
  | 91 => cases h; exact ir91_eq
  | 92 => cases h; exact ir92_eq
  | 93 => cases h; exact ir93_eq
  | 94 => cases h; exact ir94_eq
  | 95 => cases h; exact ir95_eq
  | 96 => cases h; exact ir96_eq
  | 97 => cases h; exact ir97_eq
  | 98 => cases h; exact ir98_eq
  | 99 => cases h; exact ir99_eq
  | g + 100 => simp [env, table] at h
end Go.Proofs.Ytmpnldmdchchjaa
