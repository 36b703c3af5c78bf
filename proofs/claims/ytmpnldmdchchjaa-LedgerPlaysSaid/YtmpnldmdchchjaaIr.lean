import Derived.Test.YtmpnldmdchchjaaChecked
import Derived.Test.YtmpnldmdchchjaaFa
import Derived.KernelRfl
import Derived.Test.YtmpnldmdchchjaaIrb
namespace Go.Proofs.Ytmpnldmdchchjaa
open Go Go.Ideal
def ir43 : IFunc :=
{ ntmps := 44, results := [.cell 2 (some 2), .tmp 3], body :=
(.seq (.region [
oB 1 0,
oT 2 (.box (.const (.agg #[(.int .i64 0), (.int .u32 0)]))),
oT 3 (.move (.const (.bool false)))])
(.seq (.seq (.region [
oF 7 2 1,
oL 8 7,
oT 9 (.lenSlice (oO 8)),
oT 10 (.bin .neq (oO 9) (.const (.int .i64 5)))])
(.cond (oO 10)
(.seq (.region [
oT 11 (.build [(.int .i64 0), (.int .u32 0)] []),
oS 2 2 11,
oT 3 (.move (.const (.bool false)))])
.ret)
.skip))
(.seq (.region [
oF 12 2 1,
oL 13 12,
oT 14 (.indexAddr 1 (oO 13) (.const (.int .i64 0))),
oL 15 14,
oT 16 (.conv .i64 (oO 15)),
oT 17 (.build [(.int .i64 0), (.int .u32 0)] [(0, 1, (oO 16))]),
oT 4 (.box (.const (.agg #[(.int .i64 0), (.int .u32 0)]))),
oS 2 4 17])
(.seq (.seq (.region [
oF 18 2 1,
oL 19 18,
oT 20 (.indexAddr 1 (oO 19) (.const (.int .i64 0))),
oL 21 20,
oT 22 (.bin .eql (oO 21) (.const (.int .u8 255)))])
(.cond (oO 22)
(.region [
oF 23 0 4,
oY (.store 1 (oO 23) (.const (.int .i64 (-1))))])
.skip))
(.seq (.seq (.region [
oF 24 2 1,
oL 25 24,
oT 26 (.slice 1 (oO 25) (some (.const (.int .i64 1))) none none),
oT 27 (.lenSlice (oO 26)),
oI 28 0])
(.block 0 (.loop (.seq (.region [
oT 29 (.bin .lss (oO 28) (oO 27))])
(.seq (.cond (oO 29)
.skip
(.exit 0))
(.seq (.block 1 (.seq (.region [
oA 30 1 26 28,
oL 31 30,
oM 6 31])
(.region [
oF 32 1 4,
oL 33 32,
oT 34 (.bin .shl (oO 33) (.const (.int .u64 8))),
oM 35 6,
oT 36 (.conv .u32 (oO 35)),
oT 37 (.bin .or (oO 34) (oO 36)),
oF 38 1 4,
oS 1 38 37])))
(.region [
oT 39 (.bin .add (oO 28) (.const (.int .i64 1))),
oM 28 39])))))))
(.seq (.drawn [
oU 40 (.load (some 2) (oO 4)),
oU 41 (.load (some 2) (oO 4)),
oU 42 (.call (.const (.func (.func 33) #[] #[])) []),
oH 43 (.eqAgg true [.int, .int] (oO 41) (oO 42)) [1,2] false,
⟨none, .store 2 (.tmp 2) (.tmp 40), none, [0, 2], false⟩,
oH 3 (.move (oO 43)) [3,4,0,1,2] true])
.ret)))))) }
theorem ir43_eq : funcC Try.prog 43 = some ir43 := by kernel_rfl
def ir44 : IFunc :=
{ ntmps := 29, results := [.tmp 4], body :=
(.seq (.region [
oT 4 (.move (.const (.bool false)))])
(.seq (.drawn [
oM 5 1,
oH 6 (.bin .geq (oO 5) (.const (.int .i64 0))) [0] true,
oH 7 (.move (oO 6)) [1,0] true,
oJ 8 7 true (.move (oO 1)) [2,1,0] false,
oJ 9 7 true (.move (oO 0)) [2,1,0] true,
oJ 10 7 true (.nilCheck (oO 9)) [4,2,1,0] true,
oJ 11 7 true (.fieldAddr 2 (oO 10)) [5,2,4,1,0] true,
oJ 12 7 true (.load none (oO 11)) [6,2,5,4,1,0] true,
oJ 13 7 true (.lenSlice (oO 12)) [7,2,6,5,4,1,0] true,
oJ 14 7 true (.bin .lss (oO 8) (oO 13)) [3,8,2,1,0,7,6,5,4] true,
oH 15 (.pick (oO 7) (oO 14) (.const (.bool false))) [2,9,1,0,3,8,7,6,5,4] true,
oH 16 (.move (oO 15)) [10,2,9,1,0,3,8,7,6,5,4] true,
oJ 17 16 true (.move (oO 1)) [11,10,2,9,1,0,3,8,7,6,5,4] false,
oJ 18 16 true (.move (oO 0)) [11,10,2,9,1,0,3,8,7,6,5,4] false,
oJ 19 16 true (.nilCheck (oO 18)) [13,11,10,2,9,1,0,3,8,7,6,5,4] false,
oJ 20 16 true (.fieldAddr 1 (oO 19)) [14,11,13,10,2,9,1,0,3,8,7,6,5,4] false,
oJ 21 16 true (.load none (oO 20)) [15,11,14,13,10,2,9,1,0,3,8,7,6,5,4] false,
oJ 22 16 true (.bin .rem (oO 17) (oO 21)) [12,16,11,10,2,9,1,0,3,8,7,6,5,4,15,14,13] false,
oJ 23 16 true (.move (oO 0)) [11,10,2,9,1,0,3,8,7,6,5,4] false,
oJ 24 16 true (.nilCheck (oO 23)) [18,11,10,2,9,1,0,3,8,7,6,5,4] false,
oJ 25 16 true (.fieldAddr 0 (oO 24)) [19,11,18,10,2,9,1,0,3,8,7,6,5,4] false,
oJ 26 16 true (.load none (oO 25)) [20,11,19,18,10,2,9,1,0,3,8,7,6,5,4] false,
oJ 27 16 true (.bin .eql (oO 22) (oO 26)) [17,21,11,12,16,10,2,9,1,0,3,8,7,6,5,4,15,14,13,20,19,18] true,
oH 28 (.pick (oO 16) (oO 27) (.const (.bool false))) [11,22,10,2,9,1,0,3,8,7,6,5,4,17,21,12,16,15,14,13,20,19,18] true,
oH 4 (.move (oO 28)) [23,11,0,1,2,3,4,5,6,7,8,9,10,12,13,14,15,16,17,18,19,20,21,22] true])
.ret)) }
theorem ir44_eq : funcC Try.prog 44 = some ir44 := by kernel_rfl
def ir45 : IFunc :=
{ ntmps := 65, results := [.cell 6 (some 3), .tmp 7], body :=
(.seq (.region [
oT 6 (.box (.const (.agg #[(.int .i64 0), (.int .i64 0), (.slice none 0 0)]))),
oI 7 0])
(.seq (.seq (.region [
oM 8 0,
oM 9 1,
oX 10 44 [8,9],
oT 11 (.un .not (oO 10)),
oM 12 11,
oP 13 12 false 0,
oP 14 12 false 2,
oG 15 12 false (.call (.const (.func (.func 59) #[] #[])) [(oO 13), (oO 14)]),
oG 16 12 false (.un .not (oO 15)),
oT 17 (.pick (oO 12) (.const (.bool true)) (oO 16))])
(.cond (oO 17)
(.seq (.region [
oT 18 (.build [(.int .i64 0), (.int .i64 0), (.slice none 0 0)] []),
oS 3 6 18,
oI 7 2])
.ret)
.skip))
(.seq (.seq (.region [
oM 19 0,
oC 20 19,
oF 21 2 20,
oL 22 21,
oM 23 1,
oA 24 3 22 23,
oF 25 0 24,
oL 26 25,
oT 27 (.bin .neq (oO 26) (.const (.int .i64 (-1)))),
oM 28 27,
oP 29 28 false 0,
oG 30 28 false (.nilCheck (oO 29)),
oR 31 28 false 2 30,
oQ 32 28 false 31,
oP 33 28 false 1,
oG 34 28 false (.indexAddr 3 (oO 32) (oO 33)),
oR 35 28 false 1 34,
oQ 36 28 false 35,
oG 37 28 false (.bin .neq (oO 36) (.const (.int .u32 0))),
oT 38 (.pick (oO 28) (.const (.bool true)) (oO 37))])
(.cond (oO 38)
(.seq (.region [
oT 39 (.build [(.int .i64 0), (.int .i64 0), (.slice none 0 0)] []),
oS 3 6 39,
oI 7 140])
.ret)
.skip))
(.seq (.drawn [
oN 40 0,
oH 41 (.nilCheck (oO 40)) [0] false,
oH 42 (.fieldAddr 2 (oO 41)) [1,0] false,
oH 43 (.load none (oO 42)) [2,1,0] false,
oN 44 1,
oN 45 2,
oN 46 0,
oH 47 (.nilCheck (oO 46)) [6] false,
oH 48 (.fieldAddr 2 (oO 47)) [7,6] false,
oH 49 (.load none (oO 48)) [8,7,6] false,
oN 50 1,
oH 51 (.indexAddr 3 (oO 49) (oO 50)) [9,10,8,7,6] false,
oH 52 (.fieldAddr 2 (oO 51)) [11,9,10,8,7,6] false,
oH 53 (.load none (oO 52)) [12,11,9,10,8,7,6] false,
oH 54 (.build [(.int .i64 0), (.int .u32 0), (.slice none 0 0)] [(0, 1, (oO 45)), (1, 1, (.const (.int .u32 1))), (2, 1, (oO 53))]) [5,13,12,11,9,10,8,7,6] false,
oH 55 (.indexAddr 3 (oO 43) (oO 44)) [3,4,0,1,2,5,6,7,8,9,10,11,12,13,14] true,
⟨none, .store 3 (.tmp 55) (.tmp 54), none, [15, 14, 0, 1, 2, 3, 4, 5, 6, 7, 8, 9, 10, 11, 12, 13], true⟩])
(.seq (.region [
oM 56 1,
oM 57 0,
oC 58 57,
oF 59 2 58,
oL 60 59,
oM 61 1,
oA 62 3 60 61,
oK 63 3 62,
oX 64 60 [56,63],
oS 3 6 64,
oI 7 0])
.ret))))) }
theorem ir45_eq : funcC Try.prog 45 = some ir45 := by kernel_rfl
def ir46 : IFunc :=
{ ntmps := 34, results := [], body :=
(.seq (.seq (.region [
oM 5 0,
oM 6 1,
oX 7 59 [5,6],
oT 8 (.un .not (oO 7))])
(.cond (oO 8)
.ret
.skip))
(.seq (.seq (.region [
oI 4 0])
(.block 0 (.loop (.seq (.seq (.region [
oM 9 4,
oM 10 0,
oC 11 10,
oF 12 2 11,
oL 13 12,
oT 14 (.lenSlice (oO 13)),
oT 15 (.bin .lss (oO 9) (oO 14))])
(.cond (oO 15)
.skip
(.exit 0)))
(.seq (.block 1 (.region [
oM 18 0,
oM 19 4,
oM 20 1,
oX 21 61 [18,19,20]]))
(.region [
oM 16 4,
oT 17 (.bin .add (oO 16) (.const (.int .i64 1))),
oM 4 17]))))))
(.seq (.region [
oM 22 1,
oM 23 0,
oC 24 23,
oF 25 0 24,
oL 26 25,
oT 27 (.bin .neq (oO 22) (oO 26))])
(.cond (oO 27)
(.region [
oM 28 0,
oC 29 28,
oF 30 3 29,
oL 31 30,
oM 32 1,
oA 33 1 31 32,
oY (.store 1 (oO 33) (.const (.int .i64 0)))])
.skip)))) }
theorem ir46_eq : funcC Try.prog 46 = some ir46 := by kernel_rfl
def ir47 : IFunc :=
{ ntmps := 96, results := [.cell 6 (some 3), .tmp 7], body :=
(.seq (.region [
oT 6 (.box (.const (.agg #[(.slice none 0 0), (.slice none 0 0), (.slice none 0 0)]))),
oI 7 0])
(.seq (.region [
oT 8 (.box (.const (.agg #[(.slice none 0 0), (.slice none 0 0), (.slice none 0 0)])))])
(.seq (.seq (.region [
oM 13 0,
oM 14 1,
oX 15 59 [13,14],
oT 16 (.un .not (oO 15))])
(.cond (oO 16)
(.seq (.region [
oK 17 3 8,
oS 3 6 17,
oI 7 2])
.ret)
.skip))
(.seq (.seq (.region [
oI 9 0])
(.block 0 (.loop (.seq (.seq (.region [
oM 18 9,
oM 19 0,
oC 20 19,
oF 21 2 20,
oL 22 21,
oT 23 (.lenSlice (oO 22)),
oT 24 (.bin .lss (oO 18) (oO 23))])
(.cond (oO 24)
.skip
(.exit 0)))
(.seq (.block 1 (.region [
oM 27 0,
oM 28 9,
oM 29 1,
oX 30 61 [27,28,29]]))
(.region [
oM 25 9,
oT 26 (.bin .add (oO 25) (.const (.int .i64 1))),
oM 9 26]))))))
(.seq (.seq (.region [
oI 10 0])
(.block 2 (.loop (.seq (.seq (.region [
oM 31 10,
oM 32 0,
oC 33 32,
oF 34 2 33,
oL 35 34,
oT 36 (.lenSlice (oO 35)),
oT 37 (.bin .lss (oO 31) (oO 36))])
(.cond (oO 37)
.skip
(.exit 2)))
(.seq (.block 3 (.seq (.region [
oT 11 (.move (.const (.bool false)))])
(.seq (.seq (.region [
oI 12 0])
(.block 4 (.loop (.seq (.seq (.region [
oM 40 12,
oM 41 2,
oT 42 (.lenSlice (oO 41)),
oT 43 (.bin .lss (oO 40) (oO 42))])
(.cond (oO 43)
.skip
(.exit 4)))
(.seq (.block 5 (.drawn [
oM 46 11,
oH 47 (.move (oO 46)) [0] true,
oJ 48 47 false (.move (oO 2)) [1,0] true,
oJ 49 47 false (.move (oO 12)) [1,0] true,
oJ 50 47 false (.indexAddr 2 (oO 48) (oO 49)) [2,3,1,0] true,
oJ 51 47 false (.fieldAddr 0 (oO 50)) [4,1,2,3,0] true,
oJ 52 47 false (.load none (oO 51)) [5,1,4,2,3,0] true,
oJ 53 47 false (.move (oO 10)) [1,0] false,
oJ 54 47 false (.bin .eql (oO 52) (oO 53)) [6,7,1,5,4,2,3,0] true,
oJ 55 47 false (.move (oO 54)) [8,1,6,7,5,4,2,3,0] true,
oJ 56 55 true (.move (oO 2)) [9,8,1,6,7,5,4,2,3,0] false,
oJ 57 55 true (.move (oO 12)) [9,8,1,6,7,5,4,2,3,0] false,
oJ 58 55 true (.indexAddr 2 (oO 56) (oO 57)) [10,11,9,8,1,6,7,5,4,2,3,0] false,
oJ 59 55 true (.fieldAddr 1 (oO 58)) [12,9,10,11,8,1,6,7,5,4,2,3,0] false,
oJ 60 55 true (.load none (oO 59)) [13,9,12,10,11,8,1,6,7,5,4,2,3,0] false,
oJ 61 55 true (.move (oO 0)) [9,8,1,6,7,5,4,2,3,0] false,
oJ 62 55 true (.nilCheck (oO 61)) [15,9,8,1,6,7,5,4,2,3,0] false,
oJ 63 55 true (.fieldAddr 2 (oO 62)) [16,9,15,8,1,6,7,5,4,2,3,0] false,
oJ 64 55 true (.load none (oO 63)) [17,9,16,15,8,1,6,7,5,4,2,3,0] false,
oJ 65 55 true (.move (oO 10)) [9,8,1,6,7,5,4,2,3,0] false,
oJ 66 55 true (.indexAddr 3 (oO 64) (oO 65)) [18,19,9,17,16,15,8,1,6,7,5,4,2,3,0] false,
oJ 67 55 true (.fieldAddr 1 (oO 66)) [20,9,18,19,17,16,15,8,1,6,7,5,4,2,3,0] false,
oJ 68 55 true (.load none (oO 67)) [21,9,20,18,19,17,16,15,8,1,6,7,5,4,2,3,0] false,
oJ 69 55 true (.bin .eql (oO 60) (oO 68)) [14,22,9,13,12,10,11,8,1,6,7,5,4,2,3,0,21,20,18,19,17,16,15] true,
oJ 70 47 false (.pick (oO 55) (oO 69) (.const (.bool false))) [9,23,1,8,6,7,5,4,2,3,0,14,22,13,12,10,11,21,20,18,19,17,16,15] true,
oH 71 (.pick (oO 47) (.const (.bool true)) (oO 70)) [1,24,0,9,23,8,6,7,5,4,2,3,14,22,13,12,10,11,21,20,18,19,17,16,15] true,
oH 11 (.move (oO 71)) [25,9,0,1,2,3,4,5,6,7,8,10,11,12,13,14,15,16,17,18,19,20,21,22,23,24] true]))
(.region [
oM 44 12,
oT 45 (.bin .add (oO 44) (.const (.int .i64 1))),
oM 12 45]))))))
(.seq (.region [
oM 72 0,
oC 73 72,
oF 74 2 73,
oL 75 74,
oM 76 10,
oA 77 3 75 76,
oF 78 0 77,
oL 79 78,
oM 80 1,
oT 81 (.bin .eql (oO 79) (oO 80)),
oM 82 81,
oP 83 82 true 11,
oG 84 82 true (.un .not (oO 83)),
oT 85 (.pick (oO 82) (oO 84) (.const (.bool false)))])
(.cond (oO 85)
(.region [
oM 86 0,
oM 87 10,
oX 88 62 [86,87,8]])
.skip)))))
(.region [
oM 38 10,
oT 39 (.bin .add (oO 38) (.const (.int .i64 1))),
oM 10 39]))))))
(.seq (.region [
oM 89 0,
oC 90 89,
oF 91 3 90,
oL 92 91,
oM 93 1,
oA 94 1 92 93,
oY (.store 1 (oO 94) (.const (.int .i64 1)))])
(.seq (.region [
oK 95 3 8,
oS 3 6 95,
oI 7 0])
.ret))))))) }
theorem ir47_eq : funcC Try.prog 47 = some ir47 := by kernel_rfl
def ir48 : IFunc :=
{ ntmps := 88, results := [.tmp 4], body :=
(.seq (.region [
oB 2 0,
oB 3 1,
oT 4 (.move (.const (.bool false)))])
(.seq (.seq (.region [
oF 6 0 2,
oL 7 6,
oF 8 0 3,
oL 9 8,
oX 10 19 [7,9],
oT 11 (.un .not (oO 10)),
oM 12 11,
oR 13 12 false 1 2,
oQ 14 12 false 13,
oG 15 12 false (.lenSlice (oO 14)),
oR 16 12 false 1 3,
oQ 17 12 false 16,
oG 18 12 false (.lenSlice (oO 17)),
oG 19 12 false (.bin .neq (oO 15) (oO 18)),
oT 20 (.pick (oO 12) (.const (.bool true)) (oO 19)),
oM 21 20,
oR 22 21 false 2 2,
oQ 23 21 false 22,
oG 24 21 false (.lenSlice (oO 23)),
oR 25 21 false 2 3,
oQ 26 21 false 25,
oG 27 21 false (.lenSlice (oO 26)),
oG 28 21 false (.bin .neq (oO 24) (oO 27)),
oT 29 (.pick (oO 21) (.const (.bool true)) (oO 28)),
oM 30 29,
oR 31 30 false 1 2,
oQ 32 30 false 31,
oG 33 30 false (.lenSlice (oO 32)),
oR 34 30 false 2 2,
oQ 35 30 false 34,
oG 36 30 false (.lenSlice (oO 35)),
oG 37 30 false (.bin .neq (oO 33) (oO 36)),
oT 38 (.pick (oO 30) (.const (.bool true)) (oO 37))])
(.cond (oO 38)
(.seq (.region [
oT 4 (.move (.const (.bool false)))])
.ret)
.skip))
(.seq (.seq (.region [
oI 5 0])
(.block 0 (.loop (.seq (.seq (.region [
oM 39 5,
oF 40 1 2,
oL 41 40,
oT 42 (.lenSlice (oO 41)),
oT 43 (.bin .lss (oO 39) (oO 42))])
(.cond (oO 43)
.skip
(.exit 0)))
(.seq (.block 1 (.seq (.drawn [
oU 46 (.fieldAddr 1 (oO 2)),
oH 47 (.load none (oO 46)) [0] false,
oN 48 5,
oH 49 (.indexAddr 10 (oO 47) (oO 48)) [1,2,0] false,
oH 50 (.fieldAddr 0 (oO 49)) [3,1,2,0] false,
oH 51 (.load none (oO 50)) [4,3,1,2,0] false,
oU 52 (.fieldAddr 1 (oO 3)),
oH 53 (.load none (oO 52)) [6] false,
oN 54 5,
oH 55 (.indexAddr 10 (oO 53) (oO 54)) [7,8,6] false,
oH 56 (.fieldAddr 0 (oO 55)) [9,7,8,6] false,
oH 57 (.load none (oO 56)) [10,9,7,8,6] false,
oH 58 (.bin .neq (oO 51) (oO 57)) [5,11,4,3,1,2,0,10,9,7,8,6] true,
oH 59 (.move (oO 58)) [12,5,11,4,3,1,2,0,10,9,7,8,6] true,
oJ 60 59 false (.fieldAddr 1 (oO 2)) [13,12,5,11,4,3,1,2,0,10,9,7,8,6] false,
oJ 61 59 false (.load none (oO 60)) [14,13,12,5,11,4,3,1,2,0,10,9,7,8,6] false,
oJ 62 59 false (.move (oO 5)) [13,12,5,11,4,3,1,2,0,10,9,7,8,6] false,
oJ 63 59 false (.indexAddr 10 (oO 61) (oO 62)) [15,16,13,14,12,5,11,4,3,1,2,0,10,9,7,8,6] false,
oJ 64 59 false (.fieldAddr 1 (oO 63)) [17,13,15,16,14,12,5,11,4,3,1,2,0,10,9,7,8,6] false,
oJ 65 59 false (.load (some 9) (oO 64)) [18,13,17,15,16,14,12,5,11,4,3,1,2,0,10,9,7,8,6] false,
oJ 66 59 false (.fieldAddr 1 (oO 3)) [13,12,5,11,4,3,1,2,0,10,9,7,8,6] false,
oJ 67 59 false (.load none (oO 66)) [20,13,12,5,11,4,3,1,2,0,10,9,7,8,6] false,
oJ 68 59 false (.move (oO 5)) [13,12,5,11,4,3,1,2,0,10,9,7,8,6] false,
oJ 69 59 false (.indexAddr 10 (oO 67) (oO 68)) [21,22,13,20,12,5,11,4,3,1,2,0,10,9,7,8,6] false,
oJ 70 59 false (.fieldAddr 1 (oO 69)) [23,13,21,22,20,12,5,11,4,3,1,2,0,10,9,7,8,6] false,
oJ 71 59 false (.load (some 9) (oO 70)) [24,13,23,21,22,20,12,5,11,4,3,1,2,0,10,9,7,8,6] false,
oJ 72 59 false (.call (.const (.func (.func 29) #[] #[])) [(oO 65), (oO 71)]) [19,25,13,18,17,15,16,14,12,5,11,4,3,1,2,0,10,9,7,8,6,24,23,21,22,20] true,
oJ 73 59 false (.un .not (oO 72)) [26,13,19,25,18,17,15,16,14,12,5,11,4,3,1,2,0,10,9,7,8,6,24,23,21,22,20] true,
oH 74 (.pick (oO 59) (.const (.bool true)) (oO 73)) [13,27,12,5,11,4,3,1,2,0,10,9,7,8,6,26,19,25,18,17,15,16,14,24,23,21,22,20] true,
oH 75 (.move (oO 74)) [28,26,13,27,12,5,11,4,3,1,2,0,10,9,7,8,6,19,25,18,17,15,16,14,24,23,21,22,20] true,
oJ 76 75 false (.fieldAddr 2 (oO 2)) [29,28,26,13,27,12,5,11,4,3,1,2,0,10,9,7,8,6,19,25,18,17,15,16,14,24,23,21,22,20] false,
oJ 77 75 false (.load none (oO 76)) [30,29,28,26,13,27,12,5,11,4,3,1,2,0,10,9,7,8,6,19,25,18,17,15,16,14,24,23,21,22,20] false,
oJ 78 75 false (.move (oO 5)) [29,28,26,13,27,12,5,11,4,3,1,2,0,10,9,7,8,6,19,25,18,17,15,16,14,24,23,21,22,20] false,
oJ 79 75 false (.indexAddr 1 (oO 77) (oO 78)) [31,32,29,30,28,26,13,27,12,5,11,4,3,1,2,0,10,9,7,8,6,19,25,18,17,15,16,14,24,23,21,22,20] false,
oJ 80 75 false (.load none (oO 79)) [33,29,31,32,30,28,26,13,27,12,5,11,4,3,1,2,0,10,9,7,8,6,19,25,18,17,15,16,14,24,23,21,22,20] false,
oJ 81 75 false (.fieldAddr 2 (oO 3)) [29,28,26,13,27,12,5,11,4,3,1,2,0,10,9,7,8,6,19,25,18,17,15,16,14,24,23,21,22,20] false,
oJ 82 75 false (.load none (oO 81)) [35,29,28,26,13,27,12,5,11,4,3,1,2,0,10,9,7,8,6,19,25,18,17,15,16,14,24,23,21,22,20] false,
oJ 83 75 false (.move (oO 5)) [29,28,26,13,27,12,5,11,4,3,1,2,0,10,9,7,8,6,19,25,18,17,15,16,14,24,23,21,22,20] false,
oJ 84 75 false (.indexAddr 1 (oO 82) (oO 83)) [36,37,29,35,28,26,13,27,12,5,11,4,3,1,2,0,10,9,7,8,6,19,25,18,17,15,16,14,24,23,21,22,20] false,
oJ 85 75 false (.load none (oO 84)) [38,29,36,37,35,28,26,13,27,12,5,11,4,3,1,2,0,10,9,7,8,6,19,25,18,17,15,16,14,24,23,21,22,20] false,
oJ 86 75 false (.bin .neq (oO 80) (oO 85)) [34,39,29,33,31,32,30,28,26,13,27,12,5,11,4,3,1,2,0,10,9,7,8,6,19,25,18,17,15,16,14,24,23,21,22,20,38,36,37,35] true,
oH 87 (.pick (oO 75) (.const (.bool true)) (oO 86)) [29,40,28,26,13,27,12,5,11,4,3,1,2,0,10,9,7,8,6,19,25,18,17,15,16,14,24,23,21,22,20,34,39,33,31,32,30,38,36,37,35] true])
(.cond (oO 87)
(.seq (.region [
oT 4 (.move (.const (.bool false)))])
.ret)
.skip)))
(.region [
oM 44 5,
oT 45 (.bin .add (oO 44) (.const (.int .i64 1))),
oM 5 45]))))))
(.seq (.region [
oT 4 (.move (.const (.bool true)))])
.ret)))) }
theorem ir48_eq : funcC Try.prog 48 = some ir48 := by kernel_rfl
def ir49 : IFunc :=
{ ntmps := 124, results := [.cell 10 (some 3), .tmp 11], body :=
(.seq (.region [
oT 10 (.box (.const (.agg #[(.slice none 0 0), (.slice none 0 0), (.slice none 0 0)]))),
oI 11 0])
(.seq (.region [
oT 12 (.box (.const (.agg #[(.slice none 0 0), (.slice none 0 0), (.slice none 0 0)])))])
(.seq (.seq (.region [
oM 17 0,
oM 18 1,
oX 19 59 [17,18],
oT 20 (.un .not (oO 19)),
oM 21 20,
oP 22 21 false 0,
oP 23 21 false 2,
oG 24 21 false (.call (.const (.func (.func 44) #[] #[])) [(oO 22), (oO 23)]),
oG 25 21 false (.un .not (oO 24)),
oT 26 (.pick (oO 21) (.const (.bool true)) (oO 25)),
oM 27 26,
oP 28 27 false 4,
oG 29 27 false (.bin .lss (oO 28) (.const (.int .i64 0))),
oT 30 (.pick (oO 27) (.const (.bool true)) (oO 29)),
oM 31 30,
oP 32 31 false 4,
oG 33 31 false (.bin .gtr (oO 32) (.const (.int .i64 15))),
oT 34 (.pick (oO 31) (.const (.bool true)) (oO 33))])
(.cond (oO 34)
(.seq (.region [
oK 35 3 12,
oS 3 10 35,
oI 11 2])
.ret)
.skip))
(.seq (.seq (.region [
oM 36 0,
oC 37 36,
oF 38 3 37,
oL 39 38,
oM 40 1,
oA 41 1 39 40,
oL 42 41,
oT 43 (.bin .eql (oO 42) (.const (.int .i64 0)))])
(.cond (oO 43)
(.seq (.region [
oK 44 3 12,
oS 3 10 44,
oI 11 140])
.ret)
.skip))
(.seq (.region [
oM 45 1,
oM 46 3,
oM 47 4,
oT 48 (.build [(.int .i64 0), (.int .u64 0), (.int .i64 0)] [(0, 1, (oO 45)), (1, 1, (oO 46)), (2, 1, (oO 47))]),
oT 13 (.box (.const (.agg #[(.int .i64 0), (.int .u64 0), (.int .i64 0)]))),
oS 3 13 48])
(.seq (.region [
oM 49 0,
oC 50 49,
oF 51 2 50,
oL 52 51,
oM 53 2,
oA 54 3 52 53,
oK 55 3 54,
oT 14 (.box (.const (.agg #[(.int .i64 0), (.int .u32 0), (.slice none 0 0)]))),
oS 3 14 55])
(.seq (.seq (.region [
oF 56 0 14,
oL 57 56,
oM 58 1,
oT 59 (.bin .eql (oO 57) (oO 58))])
(.cond (oO 59)
(.seq (.region [
oM 60 1,
oM 61 2,
oF 62 1 14,
oL 63 62,
oM 64 3,
oT 65 (.build [(.int .i64 0), (.int .i64 0), (.int .u32 0), (.int .u64 0), (.int .i64 0), (.int .i64 0), (.int .i64 0), (.int .i64 0), (.slice none 0 0)] [(0, 1, (.const (.int .i64 2))), (1, 1, (oO 61)), (2, 1, (oO 63)), (3, 1, (oO 64))]),
oX 66 63 [12,60,65]])
(.seq (.region [
oK 67 3 12,
oS 3 10 67,
oI 11 0])
.ret))
.skip))
(.seq (.seq (.region [
oF 68 0 14,
oL 69 68,
oT 70 (.bin .eql (oO 69) (.const (.int .i64 (-1))))])
(.cond (oO 70)
(.seq (.region [
oM 71 0,
oM 72 2,
oK 73 3 13,
oX 74 64 [71,72,73,12]])
(.seq (.region [
oK 75 3 12,
oS 3 10 75,
oI 11 0])
.ret))
.skip))
(.seq (.region [
oF 77 2 14,
oL 78 77,
oK 79 3 13,
oX 80 65 [78,79],
oM 76 80,
oE 81 76 0,
oE 82 76 1,
oM 15 81,
oM 16 82])
(.seq (.seq (.region [
oM 83 16,
oT 84 (.un .not (oO 83))])
(.cond (oO 84)
(.seq (.region [
oM 85 1,
oM 86 2,
oM 87 3,
oT 88 (.build [(.int .i64 0), (.int .i64 0), (.int .u32 0), (.int .u64 0), (.int .i64 0), (.int .i64 0), (.int .i64 0), (.int .i64 0), (.slice none 0 0)] [(0, 1, (.const (.int .i64 5))), (1, 1, (oO 86)), (3, 1, (oO 87)), (7, 1, (.const (.int .i64 (-1))))]),
oX 89 63 [12,85,88]])
(.seq (.region [
oK 90 3 12,
oS 3 10 90,
oI 11 0])
.ret))
.skip))
(.seq (.region [
oM 91 15,
oF 92 2 14,
oS 1 92 91])
(.seq (.drawn [
oN 93 0,
oH 94 (.nilCheck (oO 93)) [0] false,
oH 95 (.fieldAddr 2 (oO 94)) [1,0] false,
oH 96 (.load none (oO 95)) [2,1,0] false,
oN 97 2,
oU 98 (.load (some 3) (oO 14)),
oH 99 (.indexAddr 3 (oO 96) (oO 97)) [3,4,0,1,2,5] true,
⟨none, .store 3 (.tmp 99) (.tmp 98), none, [6, 5, 0, 1, 2, 3, 4], true⟩])
(.seq (.region [
oM 100 1,
oM 101 2,
oM 102 3,
oF 103 0 14,
oL 104 103,
oT 105 (.build [(.int .i64 0), (.int .i64 0), (.int .u32 0), (.int .u64 0), (.int .i64 0), (.int .i64 0), (.int .i64 0), (.int .i64 0), (.slice none 0 0)] [(0, 1, (.const (.int .i64 5))), (1, 1, (oO 101)), (3, 1, (oO 102)), (7, 1, (oO 104))]),
oX 106 63 [12,100,105]])
(.seq (.drawn [
oU 107 (.fieldAddr 0 (oO 14)),
oH 108 (.load none (oO 107)) [0] false,
oN 109 2,
oN 110 15,
oH 111 (.indexAddr 3 (oO 110) (.const (.int .i64 0))) [3] false,
oH 112 (.fieldAddr 2 (oO 111)) [4,3] false,
oH 113 (.load none (oO 112)) [5,4,3] false,
oH 114 (.build [(.int .i64 0), (.int .i64 0), (.int .u32 0), (.int .u64 0), (.int .i64 0), (.int .i64 0), (.int .i64 0), (.int .i64 0), (.slice none 0 0)] [(0, 1, (.const (.int .i64 8))), (1, 1, (oO 109)), (4, 1, (oO 113))]) [2,6,5,4,3] false,
oH 115 (.call (.const (.func (.func 63) #[] #[])) [(oO 12), (oO 108), (oO 114)]) [1,7,0,2,6,5,4,3] true])
(.seq (.region [
oF 116 0 14,
oL 117 116,
oM 118 2,
oF 119 1 14,
oL 120 119,
oT 121 (.build [(.int .i64 0), (.int .i64 0), (.int .u32 0), (.int .u64 0), (.int .i64 0), (.int .i64 0), (.int .i64 0), (.int .i64 0), (.slice none 0 0)] [(0, 1, (.const (.int .i64 10))), (1, 1, (oO 118)), (2, 1, (oO 120))]),
oX 122 63 [12,117,121]])
(.seq (.region [
oK 123 3 12,
oS 3 10 123,
oI 11 0])
.ret)))))))))))))))) }
theorem ir49_eq : funcC Try.prog 49 = some ir49 := by kernel_rfl
def ir50 : IFunc :=
{ ntmps := 48, results := [.cell 8 (some 3), .tmp 9], body :=
(.seq (.region [
oT 8 (.box (.const (.agg #[(.slice none 0 0), (.slice none 0 0), (.slice none 0 0)]))),
oI 9 0])
(.seq (.region [
oT 10 (.box (.const (.agg #[(.slice none 0 0), (.slice none 0 0), (.slice none 0 0)])))])
(.seq (.seq (.region [
oM 11 0,
oM 12 1,
oX 13 59 [11,12],
oT 14 (.un .not (oO 13)),
oM 15 14,
oP 16 15 false 0,
oP 17 15 false 2,
oG 18 15 false (.call (.const (.func (.func 44) #[] #[])) [(oO 16), (oO 17)]),
oG 19 15 false (.un .not (oO 18)),
oT 20 (.pick (oO 15) (.const (.bool true)) (oO 19))])
(.cond (oO 20)
(.seq (.region [
oK 21 3 10,
oS 3 8 21,
oI 9 2])
.ret)
.skip))
(.seq (.seq (.region [
oM 22 0,
oC 23 22,
oF 24 2 23,
oL 25 24,
oM 26 2,
oA 27 3 25 26,
oF 28 0 27,
oL 29 28,
oM 30 1,
oT 31 (.bin .eql (oO 29) (oO 30)),
oM 32 31,
oP 33 32 true 0,
oG 34 32 true (.nilCheck (oO 33)),
oR 35 32 true 2 34,
oQ 36 32 true 35,
oP 37 32 true 2,
oG 38 32 true (.indexAddr 3 (oO 36) (oO 37)),
oR 39 32 true 1 38,
oQ 40 32 true 39,
oP 41 32 true 3,
oG 42 32 true (.bin .eql (oO 40) (oO 41)),
oT 43 (.pick (oO 32) (oO 42) (.const (.bool false)))])
(.cond (oO 43)
(.region [
oM 44 0,
oM 45 2,
oX 46 62 [44,45,10]])
.skip))
(.seq (.region [
oK 47 3 10,
oS 3 8 47,
oI 9 0])
.ret))))) }
theorem ir50_eq : funcC Try.prog 50 = some ir50 := by kernel_rfl
def ir51 : IFunc :=
{ ntmps := 52, results := [.tmp 2], body :=
(.seq (.region [
oT 2 (.move (.const (.slice none 0 0)))])
(.seq (.region [
oT 3 (.move (.const (.slice none 0 0)))])
(.seq (.seq (.region [
oI 4 0])
(.block 0 (.loop (.seq (.seq (.region [
oM 5 4,
oM 6 0,
oC 7 6,
oF 8 2 7,
oL 9 8,
oT 10 (.lenSlice (oO 9)),
oT 11 (.bin .lss (oO 5) (oO 10))])
(.cond (oO 11)
.skip
(.exit 0)))
(.seq (.block 1 (.seq (.region [
oM 14 0,
oM 15 4,
oX 16 44 [14,15],
oM 17 16,
oP 18 17 true 0,
oG 19 17 true (.nilCheck (oO 18)),
oR 20 17 true 2 19,
oQ 21 17 true 20,
oP 22 17 true 4,
oG 23 17 true (.indexAddr 3 (oO 21) (oO 22)),
oR 24 17 true 0 23,
oQ 25 17 true 24,
oG 26 17 true (.bin .neq (oO 25) (.const (.int .i64 (-1)))),
oP 27 17 true 26,
oP 28 27 false 0,
oG 29 27 false (.nilCheck (oO 28)),
oR 30 27 false 2 29,
oQ 31 27 false 30,
oP 32 27 false 4,
oG 33 27 false (.indexAddr 3 (oO 31) (oO 32)),
oR 34 27 false 1 33,
oQ 35 27 false 34,
oG 36 27 false (.bin .gtr (oO 35) (.const (.int .u32 0))),
oG 37 17 true (.pick (oO 27) (.const (.bool true)) (oO 36)),
oT 38 (.pick (oO 17) (oO 37) (.const (.bool false)))])
(.cond (oO 38)
(.region [
oM 39 3,
oM 40 4,
oM 41 0,
oC 42 41,
oF 43 2 42,
oL 44 43,
oM 45 4,
oA 46 3 44 45,
oK 47 3 46,
oX 48 60 [40,47],
oT 49 (.buildSlice 3 1 [(.int .i64 0), (.int .i64 0), (.slice none 0 0)] [(0, (oO 48))]),
oT 50 (.append 3 40 (oO 39) (oO 49)),
oM 3 50])
.skip)))
(.region [
oM 12 4,
oT 13 (.bin .add (oO 12) (.const (.int .i64 1))),
oM 4 13]))))))
(.seq (.region [
oM 51 3,
oM 2 51])
.ret)))) }
theorem ir51_eq : funcC Try.prog 51 = some ir51 := by kernel_rfl
def ir52 : IFunc :=
{ ntmps := 26, results := [.tmp 4], body :=
(.seq (.region [
oT 4 (.move (.const (.bool false)))])
(.seq (.seq (.region [
oM 6 0,
oT 7 (.lenSlice (oO 6)),
oM 8 1,
oT 9 (.lenSlice (oO 8)),
oT 10 (.bin .neq (oO 7) (oO 9))])
(.cond (oO 10)
(.seq (.region [
oT 4 (.move (.const (.bool false)))])
.ret)
.skip))
(.seq (.seq (.region [
oI 5 0])
(.block 0 (.loop (.seq (.seq (.region [
oM 11 5,
oM 12 0,
oT 13 (.lenSlice (oO 12)),
oT 14 (.bin .lss (oO 11) (oO 13))])
(.cond (oO 14)
.skip
(.exit 0)))
(.seq (.block 1 (.seq (.drawn [
oN 17 0,
oN 18 5,
oH 19 (.indexAddr 3 (oO 17) (oO 18)) [0,1] false,
oH 20 (.load (some 3) (oO 19)) [2,0,1] false,
oN 21 1,
oN 22 5,
oH 23 (.indexAddr 3 (oO 21) (oO 22)) [4,5] false,
oH 24 (.load (some 3) (oO 23)) [6,4,5] false,
oH 25 (.eqAgg true [.int, .int, .int] (oO 20) (oO 24)) [3,7,2,0,1,6,4,5] true])
(.cond (oO 25)
(.seq (.region [
oT 4 (.move (.const (.bool false)))])
.ret)
.skip)))
(.region [
oM 15 5,
oT 16 (.bin .add (oO 15) (.const (.int .i64 1))),
oM 5 16]))))))
(.seq (.region [
oT 4 (.move (.const (.bool true)))])
.ret)))) }
theorem ir52_eq : funcC Try.prog 52 = some ir52 := by kernel_rfl
def ir53 : IFunc :=
{ ntmps := 10, results := [.tmp 2], body :=
(.seq (.region [
oT 2 (.move (.const (.slice none 0 0)))])
(.seq (.seq (.region [
oM 3 0,
oT 4 (.eqPtr false (oO 3) (.const (.pointer none)))])
(.cond (oO 4)
(.seq (.region [
oT 2 (.move (.const (.slice none 0 0)))])
.ret)
.skip))
(.seq (.region [
oM 5 0,
oC 6 5,
oF 7 0 6,
oL 8 7,
oX 9 66 [8],
oM 2 9])
.ret))) }
theorem ir53_eq : funcC Try.prog 53 = some ir53 := by kernel_rfl
def ir54 : IFunc :=
{ ntmps := 24, results := [.tmp 4], body :=
(.seq (.region [
oT 4 (.move (.const (.bool false)))])
(.seq (.region [
oM 6 0,
oM 7 1,
oX 8 67 [6,7],
oM 5 8])
(.seq (.seq (.region [
oM 9 5,
oT 10 (.bin .geq (oO 9) (.const (.int .i64 0)))])
(.cond (oO 10)
(.region [
oM 11 0,
oM 12 0,
oC 13 12,
oF 14 0 13,
oL 15 14,
oM 16 5,
oM 17 5,
oT 18 (.bin .add (oO 17) (.const (.int .i64 1))),
oX 19 68 [15,16,18],
oC 20 11,
oF 21 0 20,
oS 1 21 19])
.skip))
(.seq (.region [
oM 22 5,
oT 23 (.bin .geq (oO 22) (.const (.int .i64 0))),
oM 4 23])
.ret)))) }
theorem ir54_eq : funcC Try.prog 54 = some ir54 := by kernel_rfl
def ir55 : IFunc :=
{ ntmps := 24, results := [], body :=
(.seq .skip
(.seq (.region [
oL 4 1,
oC 5 4,
oF 6 0 5,
oL 7 6,
oM 3 7])
(.block 0 (.loop (.seq (.seq (.region [
oM 8 3,
oL 9 1,
oC 10 9,
oF 11 2 10,
oL 12 11,
oT 13 (.bin .lss (oO 8) (oO 12))])
(.cond (oO 13)
.skip
(.exit 0)))
(.seq (.block 1 (.seq (.region [
oM 20 0,
oM 21 3,
oT 22 (.call (oO 20) [(oO 21)]),
oT 23 (.un .not (oO 22))])
(.cond (oO 23)
(.exit 0)
.skip)))
(.region [
oM 14 3,
oL 15 1,
oC 16 15,
oF 17 1 16,
oL 18 17,
oT 19 (.bin .add (oO 14) (oO 18)),
oM 3 19]))))))) }
theorem ir55_eq : funcC Try.prog 55 = some ir55 := by kernel_rfl
def ir56 : IFunc :=
{ ntmps := 19, results := [.tmp 4], body :=
(.seq (.region [
oB 3 1,
oI 4 0])
(.seq (.seq (.region [
oM 6 0,
oT 7 (.lenSlice (oO 6)),
oI 8 0])
(.block 0 (.loop (.seq (.region [
oT 9 (.bin .lss (oO 8) (oO 7))])
(.seq (.cond (oO 9)
.skip
(.exit 0))
(.seq (.block 1 (.seq (.region [
oM 10 8,
oM 5 10])
(.seq (.drawn [
oU 11 (.load (some 2) (oO 3)),
oN 12 0,
oN 13 5,
oH 14 (.indexAddr 2 (oO 12) (oO 13)) [1,2] false,
oH 15 (.load (some 2) (oO 14)) [3,1,2] false,
oH 16 (.eqAgg false [.int, .int] (oO 11) (oO 15)) [0,4,3,1,2] true])
(.cond (oO 16)
(.seq (.region [
oM 17 5,
oM 4 17])
.ret)
.skip))))
(.region [
oT 18 (.bin .add (oO 8) (.const (.int .i64 1))),
oM 8 18])))))))
(.seq (.region [
oI 4 (-1)])
.ret))) }
theorem ir56_eq : funcC Try.prog 56 = some ir56 := by kernel_rfl
def ir57 : IFunc :=
{ ntmps := 12, results := [.cell 2 (some 3), .cell 3 none], body :=
(.seq (.region [
oT 2 (.box (.const (.agg #[(.int .i64 0), (.int .u64 0), (.int .i64 0)]))),
oT 3 (.box (.const (.bool false)))])
(.seq (.seq (.region [
oM 6 0,
oX 7 69 [6]])
(.block 0 (.rangeFunc (.tmp 7) [8, 9]
(.region [
oT 5 (.box (.const (.agg #[(.int .i64 0), (.int .u64 0), (.int .i64 0)]))),
oS 3 5 9])
(.block 1 (.seq (.region [
oK 10 3 5,
oS 3 2 10,
oY (.store 1 (oO 3) (.const (.bool true)))])
.ret)))))
(.seq (.region [
oT 11 (.build [(.int .i64 0), (.int .u64 0), (.int .i64 0)] []),
oS 3 2 11,
oY (.store 1 (oO 3) (.const (.bool false)))])
.ret))) }
theorem ir57_eq : funcC Try.prog 57 = some ir57 := by kernel_rfl
def ir58 : IFunc :=
{ ntmps := 78, results := [.tmp 4, .tmp 5], body :=
(.seq (.region [
oB 3 1,
oT 4 (.move (.const (.bool false))),
oI 5 0])
(.seq (.block 0 (.seq (.region [
oM 8 0,
oT 9 (.eqPtr false (oO 8) (.const (.pointer none))),
oM 7 9])
(.cond (oO 7)
(.seq (.region [
oT 4 (.move (.const (.bool false))),
oI 5 1])
.ret)
(.seq (.region [
oF 11 0 3,
oL 12 11,
oT 13 (.bin .lss (oO 12) (.const (.int .i64 0))),
oM 14 13,
oR 15 14 false 0 3,
oQ 16 14 false 15,
oG 17 14 false (.bin .geq (oO 16) (.const (.int .i64 64))),
oT 18 (.pick (oO 14) (.const (.bool true)) (oO 17)),
oM 19 18,
oR 20 19 false 2 3,
oQ 21 19 false 20,
oG 22 19 false (.bin .lss (oO 21) (.const (.int .i64 0))),
oT 23 (.pick (oO 19) (.const (.bool true)) (oO 22)),
oM 24 23,
oR 25 24 false 2 3,
oQ 26 24 false 25,
oG 27 24 false (.bin .gtr (oO 26) (.const (.int .i64 15))),
oT 28 (.pick (oO 24) (.const (.bool true)) (oO 27)),
oM 10 28])
(.cond (oO 10)
(.seq (.region [
oT 4 (.move (.const (.bool false))),
oI 5 2])
.ret)
.skip)))))
(.seq (.region [
oM 29 0,
oF 30 0 3,
oL 31 30,
oX 32 67 [29,31],
oM 6 32])
(.seq (.block 1 (.seq (.region [
oM 34 6,
oT 35 (.bin .lss (oO 34) (.const (.int .i64 0))),
oM 36 35,
oP 37 36 true 0,
oG 38 36 true (.nilCheck (oO 37)),
oR 39 36 true 0 38,
oQ 40 36 true 39,
oG 41 36 true (.lenSlice (oO 40)),
oG 42 36 true (.bin .geq (oO 41) (.const (.int .i64 8))),
oT 43 (.pick (oO 36) (oO 42) (.const (.bool false))),
oM 33 43])
(.cond (oO 33)
(.seq (.region [
oT 4 (.move (.const (.bool false))),
oI 5 0])
.ret)
(.seq (.region [
oM 45 6,
oT 46 (.bin .lss (oO 45) (.const (.int .i64 0))),
oM 44 46])
(.cond (oO 44)
(.drawn [
oN 47 0,
oN 48 0,
oH 49 (.nilCheck (oO 48)) [1] false,
oH 50 (.fieldAddr 0 (oO 49)) [2,1] false,
oH 51 (.load none (oO 50)) [3,2,1] false,
oU 52 (.load (some 3) (oO 3)),
oH 53 (.buildSlice 3 1 [(.int .i64 0), (.int .u64 0), (.int .i64 0)] [(0, (oO 52))]) [5] false,
oH 54 (.append 3 24 (oO 51) (oO 53)) [4,6,3,2,1,5] true,
oH 55 (.nilCheck (oO 47)) [0,1,2,3,4,5,6,7] true,
oH 56 (.fieldAddr 0 (oO 55)) [8,0,1,2,3,4,5,6,7] true,
⟨none, .store 1 (.tmp 56) (.tmp 54), none, [9, 7, 0, 1, 2, 3, 4, 5, 6, 8], true⟩])
(.seq (.drawn [
oN 58 0,
oH 59 (.nilCheck (oO 58)) [0] false,
oH 60 (.fieldAddr 0 (oO 59)) [1,0] false,
oH 61 (.load none (oO 60)) [2,1,0] false,
oN 62 6,
oH 63 (.indexAddr 3 (oO 61) (oO 62)) [3,4,2,1,0] false,
oH 64 (.fieldAddr 2 (oO 63)) [5,3,4,2,1,0] false,
oH 65 (.load none (oO 64)) [6,5,3,4,2,1,0] false,
oU 66 (.fieldAddr 2 (oO 3)),
oH 67 (.load none (oO 66)) [8] false,
oH 68 (.bin .lss (oO 65) (oO 67)) [7,9,6,5,3,4,2,1,0,8] true,
oH 57 (.move (oO 68)) [10,7,9,6,5,3,4,2,1,0,8] true])
(.cond (oO 57)
(.drawn [
oN 69 0,
oH 70 (.nilCheck (oO 69)) [0] false,
oH 71 (.fieldAddr 0 (oO 70)) [1,0] false,
oH 72 (.load none (oO 71)) [2,1,0] false,
oN 73 6,
oU 74 (.load (some 3) (oO 3)),
oH 75 (.indexAddr 3 (oO 72) (oO 73)) [3,4,0,1,2,5] true,
⟨none, .store 3 (.tmp 75) (.tmp 74), none, [6, 5, 0, 1, 2, 3, 4], true⟩])
.skip)))))))
(.seq (.region [
oM 76 0,
oX 77 70 [76]])
(.seq (.region [
oT 4 (.move (.const (.bool true))),
oI 5 0])
.ret)))))) }
theorem ir58_eq : funcC Try.prog 58 = some ir58 := by kernel_rfl
def ir59 : IFunc :=
{ ntmps := 15, results := [.tmp 4], body :=
(.seq (.region [
oT 4 (.move (.const (.bool false)))])
(.seq (.region [
oM 5 1,
oT 6 (.bin .geq (oO 5) (.const (.int .i64 0))),
oM 7 6,
oP 8 7 true 1,
oP 9 7 true 0,
oG 10 7 true (.nilCheck (oO 9)),
oR 11 7 true 1 10,
oQ 12 7 true 11,
oG 13 7 true (.bin .lss (oO 8) (oO 12)),
oT 14 (.pick (oO 7) (oO 13) (.const (.bool false))),
oM 4 14])
.ret)) }
theorem ir59_eq : funcC Try.prog 59 = some ir59 := by kernel_rfl
def ir60 : IFunc :=
{ ntmps := 44, results := [.cell 4 (some 3)], body :=
(.seq (.region [
oB 3 1,
oT 4 (.box (.const (.agg #[(.int .i64 0), (.int .i64 0), (.slice none 0 0)])))])
(.seq (.seq (.region [
oF 7 0 3,
oL 8 7,
oT 9 (.bin .eql (oO 8) (.const (.int .i64 (-1)))),
oM 10 9,
oR 11 10 true 1 3,
oQ 12 10 true 11,
oG 13 10 true (.bin .eql (oO 12) (.const (.int .u32 0))),
oT 14 (.pick (oO 10) (oO 13) (.const (.bool false)))])
(.cond (oO 14)
(.seq (.region [
oM 15 0,
oT 16 (.build [(.int .i64 0), (.int .i64 0), (.slice none 0 0)] [(0, 1, (.const (.int .i64 3))), (1, 1, (oO 15))]),
oS 3 4 16])
.ret)
.skip))
(.seq (.region [
oI 5 255])
(.seq (.seq (.region [
oF 17 0 3,
oL 18 17,
oT 19 (.bin .geq (oO 18) (.const (.int .i64 0)))])
(.cond (oO 19)
(.region [
oF 20 0 3,
oL 21 20,
oM 5 21])
.skip))
(.seq (.region [
oF 22 1 3,
oL 23 22,
oT 24 (.conv .i64 (oO 23)),
oM 6 24])
(.seq (.region [
oM 25 0,
oM 26 5,
oT 27 (.conv .u8 (oO 26)),
oM 28 6,
oT 29 (.bin .quo (oO 28) (.const (.int .i64 16777216))),
oT 30 (.conv .u8 (oO 29)),
oM 31 6,
oT 32 (.bin .quo (oO 31) (.const (.int .i64 65536))),
oT 33 (.bin .rem (oO 32) (.const (.int .i64 256))),
oT 34 (.conv .u8 (oO 33)),
oM 35 6,
oT 36 (.bin .quo (oO 35) (.const (.int .i64 256))),
oT 37 (.bin .rem (oO 36) (.const (.int .i64 256))),
oT 38 (.conv .u8 (oO 37)),
oM 39 6,
oT 40 (.bin .rem (oO 39) (.const (.int .i64 256))),
oT 41 (.conv .u8 (oO 40)),
oT 42 (.buildSlice 1 5 [(.int .u8 0)] [(0, (oO 27)), (1, (oO 30)), (2, (oO 34)), (3, (oO 38)), (4, (oO 41))]),
oT 43 (.build [(.int .i64 0), (.int .i64 0), (.slice none 0 0)] [(0, 1, (.const (.int .i64 3))), (1, 1, (oO 25)), (2, 1, (oO 42))]),
oS 3 4 43])
.ret)))))) }
theorem ir60_eq : funcC Try.prog 60 = some ir60 := by kernel_rfl
def ir61 : IFunc :=
{ ntmps := 48, results := [], body :=
(.seq (.region [
oM 9 0,
oC 10 9,
oF 11 2 10,
oL 12 11,
oM 13 1,
oA 14 3 12 13,
oK 15 3 14,
oT 6 (.box (.const (.agg #[(.int .i64 0), (.int .u32 0), (.slice none 0 0)]))),
oS 3 6 15])
(.seq (.region [
oT 7 (.move (.const (.slice none 0 0)))])
(.seq (.seq (.region [
oI 8 0])
(.block 0 (.loop (.seq (.seq (.region [
oM 16 8,
oF 17 2 6,
oL 18 17,
oT 19 (.lenSlice (oO 18)),
oT 20 (.bin .lss (oO 16) (oO 19))])
(.cond (oO 20)
.skip
(.exit 0)))
(.seq (.block 1 (.seq (.region [
oF 23 2 6,
oL 24 23,
oM 25 8,
oA 26 3 24 25,
oF 27 0 26,
oL 28 27,
oM 29 2,
oT 30 (.bin .neq (oO 28) (oO 29))])
(.cond (oO 30)
(.region [
oM 31 7,
oF 32 2 6,
oL 33 32,
oM 34 8,
oA 35 3 33 34,
oK 36 3 35,
oT 37 (.buildSlice 3 1 [(.int .i64 0), (.int .u64 0), (.int .i64 0)] [(0, (oO 36))]),
oT 38 (.append 3 24 (oO 31) (oO 37)),
oM 7 38])
.skip)))
(.region [
oM 21 8,
oT 22 (.bin .add (oO 21) (.const (.int .i64 1))),
oM 8 22]))))))
(.seq (.region [
oM 39 7,
oF 40 2 6,
oS 1 40 39])
(.drawn [
oN 41 0,
oH 42 (.nilCheck (oO 41)) [0] false,
oH 43 (.fieldAddr 2 (oO 42)) [1,0] false,
oH 44 (.load none (oO 43)) [2,1,0] false,
oN 45 1,
oU 46 (.load (some 3) (oO 6)),
oH 47 (.indexAddr 3 (oO 44) (oO 45)) [3,4,0,1,2,5] true,
⟨none, .store 3 (.tmp 47) (.tmp 46), none, [6, 5, 0, 1, 2, 3, 4], true⟩]))))) }
theorem ir61_eq : funcC Try.prog 61 = some ir61 := by kernel_rfl
def ir62 : IFunc :=
{ ntmps := 66, results := [], body :=
(.seq (.region [
oM 10 0,
oC 11 10,
oF 12 2 11,
oL 13 12,
oM 14 1,
oA 15 3 13 14,
oK 16 3 15,
oT 6 (.box (.const (.agg #[(.int .i64 0), (.int .u32 0), (.slice none 0 0)]))),
oS 3 6 16])
(.seq (.region [
oF 17 0 6,
oY (.store 1 (oO 17) (.const (.int .i64 (-1))))])
(.seq (.drawn [
oN 18 0,
oH 19 (.nilCheck (oO 18)) [0] false,
oH 20 (.fieldAddr 2 (oO 19)) [1,0] false,
oH 21 (.load none (oO 20)) [2,1,0] false,
oN 22 1,
oU 23 (.load (some 3) (oO 6)),
oH 24 (.indexAddr 3 (oO 21) (oO 22)) [3,4,0,1,2,5] true,
⟨none, .store 3 (.tmp 24) (.tmp 23), none, [6, 5, 0, 1, 2, 3, 4], true⟩])
(.seq (.region [
oM 25 0,
oM 26 1,
oM 27 2,
oX 28 71 [25,26,27]])
(.seq (.region [
oI 7 0])
(.block 0 (.loop (.seq (.seq (.region [
oM 29 7,
oT 30 (.bin .lss (oO 29) (.const (.int .i64 9))),
oM 31 30,
oP 32 31 true 0,
oG 33 31 true (.nilCheck (oO 32)),
oR 34 31 true 2 33,
oQ 35 31 true 34,
oP 36 31 true 1,
oG 37 31 true (.indexAddr 3 (oO 35) (oO 36)),
oR 38 31 true 2 37,
oQ 39 31 true 38,
oG 40 31 true (.lenSlice (oO 39)),
oG 41 31 true (.bin .gtr (oO 40) (.const (.int .i64 0))),
oT 42 (.pick (oO 31) (oO 41) (.const (.bool false)))])
(.cond (oO 42)
.skip
(.exit 0)))
(.seq (.block 1 (.seq (.region [
oM 45 0,
oC 46 45,
oF 47 2 46,
oL 48 47,
oM 49 1,
oA 50 3 48 49,
oF 51 2 50,
oL 52 51,
oT 53 (.indexAddr 3 (oO 52) (.const (.int .i64 0))),
oK 54 3 53,
oT 8 (.box (.const (.agg #[(.int .i64 0), (.int .u64 0), (.int .i64 0)]))),
oS 3 8 54])
(.seq (.region [
oM 55 0,
oM 56 1,
oF 57 0 8,
oL 58 57,
oX 59 61 [55,56,58]])
(.seq (.region [
oM 60 0,
oM 61 1,
oK 62 3 8,
oM 63 2,
oX 64 64 [60,61,62,63],
oM 9 64])
(.seq (.region [
oM 65 9])
(.cond (oO 65)
.ret
.skip))))))
(.region [
oM 43 7,
oT 44 (.bin .add (oO 43) (.const (.int .i64 1))),
oM 7 44])))))))))) }
theorem ir62_eq : funcC Try.prog 62 = some ir62 := by kernel_rfl
def ir63 : IFunc :=
{ ntmps := 32, results := [], body :=
(.seq (.region [
oB 5 2])
(.seq (.drawn [
oN 6 0,
oN 7 0,
oH 8 (.nilCheck (oO 7)) [1] false,
oH 9 (.fieldAddr 1 (oO 8)) [2,1] false,
oH 10 (.load none (oO 9)) [3,2,1] false,
oN 11 1,
oU 12 (.load (some 9) (oO 5)),
oH 13 (.build [(.int .i64 0), (.int .i64 0), (.int .i64 0), (.int .u32 0), (.int .u64 0), (.int .i64 0), (.int .i64 0), (.int .i64 0), (.int .i64 0), (.slice none 0 0)] [(0, 1, (oO 11)), (1, 9, (oO 12))]) [5,6] false,
oH 14 (.buildSlice 10 1 [(.int .i64 0), (.int .i64 0), (.int .i64 0), (.int .u32 0), (.int .u64 0), (.int .i64 0), (.int .i64 0), (.int .i64 0), (.int .i64 0), (.slice none 0 0)] [(0, (oO 13))]) [7,5,6] false,
oH 15 (.append 10 96 (oO 10) (oO 14)) [4,8,3,2,1,7,5,6] true,
oH 16 (.nilCheck (oO 6)) [0,1,2,3,4,5,6,7,8,9] true,
oH 17 (.fieldAddr 1 (oO 16)) [10,0,1,2,3,4,5,6,7,8,9] true,
⟨none, .store 1 (.tmp 17) (.tmp 15), none, [11, 9, 0, 1, 2, 3, 4, 5, 6, 7, 8, 10], true⟩])
(.drawn [
oN 18 0,
oN 19 0,
oH 20 (.nilCheck (oO 19)) [1] false,
oH 21 (.fieldAddr 2 (oO 20)) [2,1] false,
oH 22 (.load none (oO 21)) [3,2,1] false,
oN 23 0,
oH 24 (.nilCheck (oO 23)) [5] false,
oH 25 (.fieldAddr 0 (oO 24)) [6,5] false,
oH 26 (.load none (oO 25)) [7,6,5] false,
oH 27 (.lenSlice (oO 26)) [8,7,6,5] false,
oH 28 (.buildSlice 1 1 [(.int .i64 0)] [(0, (oO 27))]) [9,8,7,6,5] false,
oH 29 (.append 1 8 (oO 22) (oO 28)) [4,10,3,2,1,9,8,7,6,5] true,
oH 30 (.nilCheck (oO 18)) [0,1,2,3,4,5,6,7,8,9,10,11] true,
oH 31 (.fieldAddr 2 (oO 30)) [12,0,1,2,3,4,5,6,7,8,9,10,11] true,
⟨none, .store 1 (.tmp 31) (.tmp 29), none, [13, 11, 0, 1, 2, 3, 4, 5, 6, 7, 8, 9, 10, 12], true⟩]))) }
theorem ir63_eq : funcC Try.prog 63 = some ir63 := by kernel_rfl
def ir64 : IFunc :=
{ ntmps := 56, results := [.tmp 8], body :=
(.seq (.region [
oB 6 2,
oT 8 (.move (.const (.bool false)))])
(.seq (.region [
oM 10 0,
oC 11 10,
oF 12 2 11,
oL 13 12,
oM 14 1,
oA 15 3 13 14,
oK 16 3 15,
oT 9 (.box (.const (.agg #[(.int .i64 0), (.int .u32 0), (.slice none 0 0)]))),
oS 3 9 16])
(.seq (.seq (.region [
oF 17 1 9,
oL 18 17,
oT 19 (.bin .eql (oO 18) (.const (.int .u32 4294967295)))])
(.cond (oO 19)
(.seq (.region [
oM 20 3,
oF 21 0 6,
oL 22 21,
oM 23 1,
oF 24 1 6,
oL 25 24,
oT 26 (.build [(.int .i64 0), (.int .i64 0), (.int .u32 0), (.int .u64 0), (.int .i64 0), (.int .i64 0), (.int .i64 0), (.int .i64 0), (.slice none 0 0)] [(0, 1, (.const (.int .i64 5))), (1, 1, (oO 23)), (3, 1, (oO 25)), (7, 1, (.const (.int .i64 (-1))))]),
oX 27 63 [20,22,26]])
(.seq (.region [
oT 8 (.move (.const (.bool false)))])
.ret))
.skip))
(.seq (.region [
oF 28 0 6,
oL 29 28,
oF 30 0 9,
oS 1 30 29])
(.seq (.region [
oF 31 1 9,
oL 32 31,
oT 33 (.bin .add (oO 32) (.const (.int .u32 1))),
oF 34 1 9,
oS 1 34 33])
(.seq (.drawn [
oN 35 0,
oH 36 (.nilCheck (oO 35)) [0] false,
oH 37 (.fieldAddr 2 (oO 36)) [1,0] false,
oH 38 (.load none (oO 37)) [2,1,0] false,
oN 39 1,
oU 40 (.load (some 3) (oO 9)),
oH 41 (.indexAddr 3 (oO 38) (oO 39)) [3,4,0,1,2,5] true,
⟨none, .store 3 (.tmp 41) (.tmp 40), none, [6, 5, 0, 1, 2, 3, 4], true⟩])
(.seq (.region [
oM 42 0,
oM 43 1,
oM 44 3,
oX 45 71 [42,43,44]])
(.seq (.region [
oM 46 3,
oF 47 0 6,
oL 48 47,
oM 49 1,
oF 50 1 9,
oL 51 50,
oF 52 1 6,
oL 53 52,
oT 54 (.build [(.int .i64 0), (.int .i64 0), (.int .u32 0), (.int .u64 0), (.int .i64 0), (.int .i64 0), (.int .i64 0), (.int .i64 0), (.slice none 0 0)] [(0, 1, (.const (.int .i64 2))), (1, 1, (oO 49)), (2, 1, (oO 51)), (3, 1, (oO 53))]),
oX 55 63 [46,48,54]])
(.seq (.region [
oT 8 (.move (.const (.bool true)))])
.ret))))))))) }
theorem ir64_eq : funcC Try.prog 64 = some ir64 := by kernel_rfl
def ir65 : IFunc :=
{ ntmps := 79, results := [.tmp 4, .tmp 5], body :=
(.seq (.region [
oB 3 1,
oT 4 (.move (.const (.slice none 0 0))),
oT 5 (.move (.const (.bool false)))])
(.seq (.region [
oT 6 (.move (.const (.slice none 0 0)))])
(.seq (.seq (.region [
oI 7 0])
(.block 0 (.loop (.seq (.seq (.region [
oM 11 7,
oM 12 0,
oT 13 (.lenSlice (oO 12)),
oT 14 (.bin .lss (oO 11) (oO 13))])
(.cond (oO 14)
.skip
(.exit 0)))
(.seq (.block 1 (.seq (.seq (.drawn [
oN 17 0,
oN 18 7,
oH 19 (.indexAddr 3 (oO 17) (oO 18)) [0,1] false,
oH 20 (.fieldAddr 0 (oO 19)) [2,0,1] false,
oH 21 (.load none (oO 20)) [3,2,0,1] false,
oU 22 (.fieldAddr 0 (oO 3)),
oH 23 (.load none (oO 22)) [5] false,
oH 24 (.bin .neq (oO 21) (oO 23)) [4,6,3,2,0,1,5] true])
(.cond (oO 24)
(.seq (.region [
oM 25 6,
oM 26 0,
oM 27 7,
oA 28 3 26 27,
oK 29 3 28,
oT 30 (.buildSlice 3 1 [(.int .i64 0), (.int .u64 0), (.int .i64 0)] [(0, (oO 29))]),
oT 31 (.append 3 24 (oO 25) (oO 30)),
oM 6 31])
(.exit 1))
.skip))
(.seq (.drawn [
oN 32 0,
oN 33 7,
oH 34 (.indexAddr 3 (oO 32) (oO 33)) [0,1] false,
oH 35 (.fieldAddr 2 (oO 34)) [2,0,1] false,
oH 36 (.load none (oO 35)) [3,2,0,1] false,
oU 37 (.fieldAddr 2 (oO 3)),
oH 38 (.load none (oO 37)) [5] false,
oH 39 (.bin .geq (oO 36) (oO 38)) [4,6,3,2,0,1,5] true])
(.cond (oO 39)
(.seq (.region [
oM 40 0,
oM 4 40,
oT 5 (.move (.const (.bool true)))])
.ret)
.skip))))
(.region [
oM 15 7,
oT 16 (.bin .add (oO 15) (.const (.int .i64 1))),
oM 7 16]))))))
(.seq (.seq (.region [
oM 41 6,
oT 42 (.lenSlice (oO 41)),
oT 43 (.bin .geq (oO 42) (.const (.int .i64 8)))])
(.cond (oO 43)
(.seq (.region [
oM 44 0,
oM 4 44,
oT 5 (.move (.const (.bool false)))])
.ret)
.skip))
(.seq (.region [
oT 8 (.move (.const (.slice none 0 0)))])
(.seq (.region [
oT 9 (.move (.const (.bool false)))])
(.seq (.seq (.region [
oI 10 0])
(.block 2 (.loop (.seq (.seq (.region [
oM 45 10,
oM 46 6,
oT 47 (.lenSlice (oO 46)),
oT 48 (.bin .lss (oO 45) (oO 47))])
(.cond (oO 48)
.skip
(.exit 2)))
(.seq (.block 3 (.seq (.seq (.drawn [
oM 51 9,
oH 52 (.un .not (oO 51)) [0] true,
oH 53 (.move (oO 52)) [1,0] true,
oJ 54 53 true (.load (some 3) (oO 3)) [2,1,0] false,
oJ 55 53 true (.move (oO 6)) [2,1,0] false,
oJ 56 53 true (.move (oO 10)) [2,1,0] false,
oJ 57 53 true (.indexAddr 3 (oO 55) (oO 56)) [4,5,2,1,0] false,
oJ 58 53 true (.load (some 3) (oO 57)) [6,2,4,5,1,0] false,
oJ 59 53 true (.call (.const (.func (.func 72) #[] #[])) [(oO 54), (oO 58)]) [3,7,2,1,0,6,4,5] true,
oH 60 (.pick (oO 53) (oO 59) (.const (.bool false))) [2,8,1,0,3,7,6,4,5] true])
(.cond (oO 60)
(.seq (.region [
oM 61 8,
oK 62 3 3,
oT 63 (.buildSlice 3 1 [(.int .i64 0), (.int .u64 0), (.int .i64 0)] [(0, (oO 62))]),
oT 64 (.append 3 24 (oO 61) (oO 63)),
oM 8 64])
(.region [
oT 9 (.move (.const (.bool true)))]))
.skip))
(.region [
oM 65 8,
oM 66 6,
oM 67 10,
oA 68 3 66 67,
oK 69 3 68,
oT 70 (.buildSlice 3 1 [(.int .i64 0), (.int .u64 0), (.int .i64 0)] [(0, (oO 69))]),
oT 71 (.append 3 24 (oO 65) (oO 70)),
oM 8 71])))
(.region [
oM 49 10,
oT 50 (.bin .add (oO 49) (.const (.int .i64 1))),
oM 10 50]))))))
(.seq (.seq (.region [
oM 72 9,
oT 73 (.un .not (oO 72))])
(.cond (oO 73)
(.region [
oM 74 8,
oK 75 3 3,
oT 76 (.buildSlice 3 1 [(.int .i64 0), (.int .u64 0), (.int .i64 0)] [(0, (oO 75))]),
oT 77 (.append 3 24 (oO 74) (oO 76)),
oM 8 77])
.skip))
(.seq (.region [
oM 78 8,
oM 4 78,
oT 5 (.move (.const (.bool true)))])
.ret))))))))) }
theorem ir65_eq : funcC Try.prog 65 = some ir65 := by kernel_rfl
def ir66 : IFunc :=
{ ntmps := 8, results := [.tmp 2], body :=
(.seq (.region [
oT 2 (.move (.const (.slice none 0 0)))])
(.seq (.seq (.region [
oM 3 0,
oT 4 (.eqSlice false (oO 3) (.const (.slice none 0 0)))])
(.cond (oO 4)
(.seq (.region [
oT 2 (.move (.const (.slice none 0 0)))])
.ret)
.skip))
(.seq (.region [
oT 5 (.buildSlice 3 0 [(.int .i64 0), (.int .u64 0), (.int .i64 0)] []),
oM 6 0,
oT 7 (.append 3 24 (oO 5) (oO 6)),
oM 2 7])
.ret))) }
theorem ir66_eq : funcC Try.prog 66 = some ir66 := by kernel_rfl
def ir67 : IFunc :=
{ ntmps := 18, results := [.tmp 4], body :=
(.seq (.region [
oB 3 1,
oI 4 0])
(.seq (.region [
oT 5 (.box (.const (.int .i64 0))),
oY (.store 1 (oO 5) (.const (.int .i64 (-1))))])
(.seq .skip
(.seq (.seq (.region [
oM 8 0,
oX 9 69 [8]])
(.block 0 (.rangeFunc (.tmp 9) [10, 11]
(.seq (.region [
oM 6 10])
(.region [
oT 7 (.box (.const (.agg #[(.int .i64 0), (.int .u64 0), (.int .i64 0)]))),
oS 3 7 11]))
(.block 1 (.seq (.region [
oF 12 0 7,
oL 13 12,
oL 14 3,
oT 15 (.bin .eql (oO 13) (oO 14))])
(.cond (oO 15)
(.seq (.region [
oM 16 6,
oS 1 5 16])
(.exit 0))
.skip))))))
(.seq (.region [
oL 17 5,
oM 4 17])
.ret))))) }
theorem ir67_eq : funcC Try.prog 67 = some ir67 := by kernel_rfl
def ir68 : IFunc :=
{ ntmps := 33, results := [.tmp 6], body :=
(.seq (.region [
oT 6 (.move (.const (.slice none 0 0)))])
(.seq (.region [
oM 8 0,
oM 9 1,
oM 10 2,
oM 11 0,
oT 12 (.lenSlice (oO 11)),
oT 13 (.slice 3 (oO 8) (some (oO 9)) (some (oO 10)) (some (oO 12)))])
(.seq (.seq (.region [
oM 14 1,
oM 15 2,
oT 16 (.bin .eql (oO 14) (oO 15))])
(.cond (oO 16)
(.seq (.region [
oM 17 0,
oM 6 17])
.ret)
.skip))
(.seq (.region [
oM 18 0,
oT 19 (.lenSlice (oO 18)),
oM 7 19])
(.seq (.drawn [
oM 20 0,
oM 21 1,
oH 22 (.slice 3 (oO 20) none (some (oO 21)) none) [0,1] true,
oM 23 0,
oM 24 2,
oH 25 (.slice 3 (oO 23) (some (oO 24)) none none) [3,4] true,
oH 26 (.append 3 24 (oO 22) (oO 25)) [2,5,0,1,3,4] true,
oH 0 (.move (oO 26)) [6,0,1,2,3,4,5] true])
(.seq (.region [
oM 27 0,
oM 28 0,
oT 29 (.lenSlice (oO 28)),
oM 30 7,
oT 31 (.slice 3 (oO 27) (some (oO 29)) (some (oO 30)) none),
oY (.clearSlice 3 [(.int .i64 0), (.int .u64 0), (.int .i64 0)] (oO 31))])
(.seq (.region [
oM 32 0,
oM 6 32])
.ret))))))) }
theorem ir68_eq : funcC Try.prog 68 = some ir68 := by kernel_rfl
def ir69 : IFunc :=
{ ntmps := 4, results := [.tmp 2], body :=
(.seq (.region [
oB 1 0,
oT 2 (.move (.const .nilFunc))])
(.seq (.region [
oT 3 (.func (.func 73) [] [(oO 1)]),
oM 2 3])
.ret)) }
theorem ir69_eq : funcC Try.prog 69 = some ir69 := by kernel_rfl
def ir70 : IFunc :=
{ ntmps := 7, results := [], body :=
(.region [
oM 2 0,
oC 3 2,
oF 4 0 3,
oL 5 4,
oT 6 (.call (.const (.func (.func 74) #[] #[])) [(oO 5), (.const (.func (.func 75) #[] #[]))])]) }
theorem ir70_eq : funcC Try.prog 70 = some ir70 := by kernel_rfl
def ir71 : IFunc :=
{ ntmps := 24, results := [], body :=
(.drawn [
oN 6 2,
oN 7 2,
oH 8 (.nilCheck (oO 7)) [1] false,
oH 9 (.fieldAddr 0 (oO 8)) [2,1] false,
oH 10 (.load none (oO 9)) [3,2,1] false,
oN 11 1,
oN 12 0,
oH 13 (.nilCheck (oO 12)) [6] false,
oH 14 (.fieldAddr 2 (oO 13)) [7,6] false,
oH 15 (.load none (oO 14)) [8,7,6] false,
oN 16 1,
oH 17 (.indexAddr 3 (oO 15) (oO 16)) [9,10,8,7,6] false,
oH 18 (.load (some 3) (oO 17)) [11,9,10,8,7,6] false,
oH 19 (.call (.const (.func (.func 60) #[] #[])) [(oO 11), (oO 18)]) [5,12,11,9,10,8,7,6] false,
oH 20 (.buildSlice 3 1 [(.int .i64 0), (.int .i64 0), (.slice none 0 0)] [(0, (oO 19))]) [13,5,12,11,9,10,8,7,6] false,
oH 21 (.append 3 40 (oO 10) (oO 20)) [4,14,13,3,2,1,5,12,11,9,10,8,7,6] true,
oH 22 (.nilCheck (oO 6)) [0,1,2,3,4,5,6,7,8,9,10,11,12,13,14,15] true,
oH 23 (.fieldAddr 0 (oO 22)) [16,0,1,2,3,4,5,6,7,8,9,10,11,12,13,14,15] true,
⟨none, .store 1 (.tmp 23) (.tmp 21), none, [17, 15, 0, 1, 2, 3, 4, 5, 6, 7, 8, 9, 10, 11, 12, 13, 14, 16], true⟩]) }
theorem ir71_eq : funcC Try.prog 71 = some ir71 := by kernel_rfl
def ir72 : IFunc :=
{ ntmps := 30, results := [.tmp 4], body :=
(.seq (.region [
oB 2 0,
oB 3 1,
oT 4 (.move (.const (.bool false)))])
(.seq (.seq (.region [
oF 5 2 2,
oL 6 5,
oF 7 2 3,
oL 8 7,
oT 9 (.bin .neq (oO 6) (oO 8))])
(.cond (oO 9)
(.seq (.region [
oF 10 2 2,
oL 11 10,
oF 12 2 3,
oL 13 12,
oT 14 (.bin .gtr (oO 11) (oO 13)),
oM 4 14])
.ret)
.skip))
(.seq (.seq (.region [
oF 15 1 2,
oL 16 15,
oF 17 1 3,
oL 18 17,
oT 19 (.bin .neq (oO 16) (oO 18))])
(.cond (oO 19)
(.seq (.region [
oF 20 1 2,
oL 21 20,
oF 22 1 3,
oL 23 22,
oT 24 (.bin .lss (oO 21) (oO 23)),
oM 4 24])
.ret)
.skip))
(.seq (.region [
oF 25 0 2,
oL 26 25,
oF 27 0 3,
oL 28 27,
oT 29 (.bin .lss (oO 26) (oO 28)),
oM 4 29])
.ret)))) }
theorem ir72_eq : funcC Try.prog 72 = some ir72 := by kernel_rfl
def ir73 : IFunc :=
{ ntmps := 23, results := [], body :=
(.seq (.seq (.region [
oL 5 1,
oT 6 (.eqPtr false (oO 5) (.const (.pointer none)))])
(.cond (oO 6)
.ret
.skip))
(.seq (.region [
oL 7 1,
oC 8 7,
oF 9 0 8,
oL 10 9,
oT 11 (.lenSlice (oO 10)),
oI 12 0])
(.block 0 (.loop (.seq (.region [
oT 13 (.bin .lss (oO 12) (oO 11))])
(.seq (.cond (oO 13)
.skip
(.exit 0))
(.seq (.block 1 (.seq (.region [
oM 14 12,
oA 15 3 10 12,
oK 16 3 15,
oT 4 (.box (.const (.agg #[(.int .i64 0), (.int .u64 0), (.int .i64 0)]))),
oM 3 14,
oS 3 4 16])
(.seq (.region [
oM 17 0,
oM 18 3,
oK 19 3 4,
oT 20 (.call (oO 17) [(oO 18), (oO 19)]),
oT 21 (.un .not (oO 20))])
(.cond (oO 21)
.ret
.skip))))
(.region [
oT 22 (.bin .add (oO 12) (.const (.int .i64 1))),
oM 12 22])))))))) }
theorem ir73_eq : funcC Try.prog 73 = some ir73 := by kernel_rfl
def ir74 : IFunc :=
{ ntmps := 14, results := [], body :=
(.seq (.region [
oM 5 0,
oT 6 (.lenSlice (oO 5)),
oM 4 6])
(.region [
oM 7 0,
oM 8 4,
oM 9 4,
oT 10 (.conv .u64 (oO 9)),
oX 11 78 [10],
oM 12 1,
oT 13 (.call (.const (.func (.func 77) #[] #[])) [(oO 7), (.const (.int .i64 0)), (oO 8), (oO 11), (oO 12)])])) }
theorem ir74_eq : funcC Try.prog 74 = some ir74 := by kernel_rfl
def ir75 : IFunc :=
{ ntmps := 8, results := [.tmp 4], body :=
(.seq (.region [
oB 2 0,
oB 3 1,
oI 4 0])
(.seq (.region [
oK 5 3 2,
oK 6 3 3,
oX 7 76 [5,6],
oM 4 7])
.ret)) }
theorem ir75_eq : funcC Try.prog 75 = some ir75 := by kernel_rfl
def ir76 : IFunc :=
{ ntmps := 22, results := [.tmp 4], body :=
(.seq (.region [
oB 2 0,
oB 3 1,
oI 4 0])
(.seq (.drawn [
oU 5 (.fieldAddr 2 (oO 3)),
oH 6 (.load none (oO 5)) [0] false,
oU 7 (.fieldAddr 2 (oO 2)),
oH 8 (.load none (oO 7)) [2] false,
oH 9 (.call (.const (.func (.func 80) #[] #[])) [(oO 6), (oO 8)]) [1,3,0,2] false,
oU 10 (.fieldAddr 1 (oO 2)),
oH 11 (.load none (oO 10)) [5] false,
oU 12 (.fieldAddr 1 (oO 3)),
oH 13 (.load none (oO 12)) [7] false,
oH 14 (.call (.const (.func (.func 81) #[] #[])) [(oO 11), (oO 13)]) [6,8,4,5,7,1,3,0,2] false,
oU 15 (.fieldAddr 0 (oO 2)),
oH 16 (.load none (oO 15)) [10] false,
oU 17 (.fieldAddr 0 (oO 3)),
oH 18 (.load none (oO 17)) [12] false,
oH 19 (.call (.const (.func (.func 80) #[] #[])) [(oO 16), (oO 18)]) [11,13,9,10,12,6,8,4,5,7,1,3,0,2] true,
oH 20 (.buildSlice 1 3 [(.int .i64 0)] [(0, (oO 9)), (1, (oO 14)), (2, (oO 19))]) [4,9,14,1,3,0,2,6,8,5,7,11,13,10,12] true,
oH 21 (.call (.const (.func (.func 79) #[] #[])) [(oO 20)]) [15,14,4,9,1,3,0,2,6,8,5,7,11,13,10,12] true,
oH 4 (.move (oO 21)) [16,0,1,2,3,4,5,6,7,8,9,10,11,12,13,14,15] true])
.ret)) }
theorem ir76_eq : funcC Try.prog 76 = some ir76 := by kernel_rfl
def ir77 : IFunc :=
{ ntmps := 148, results := [], body :=
(.seq (.region [
oT 10 (.move (.const (.bool true)))])
(.seq (.region [
oT 11 (.move (.const (.bool true)))])
(.block 0 (.loop (.block 1 (.seq (.region [
oM 21 2,
oM 22 1,
oT 23 (.bin .sub (oO 21) (oO 22)),
oM 12 23])
(.seq (.seq (.region [
oM 24 12,
oT 25 (.bin .leq (oO 24) (.const (.int .i64 12)))])
(.cond (oO 25)
(.seq (.region [
oM 26 0,
oM 27 1,
oM 28 2,
oM 29 4,
oX 30 82 [26,27,28,29]])
.ret)
.skip))
(.seq (.seq (.region [
oM 31 3,
oT 32 (.bin .eql (oO 31) (.const (.int .i64 0)))])
(.cond (oO 32)
(.seq (.region [
oM 33 0,
oM 34 1,
oM 35 2,
oM 36 4,
oX 37 83 [33,34,35,36]])
.ret)
.skip))
(.seq (.seq (.region [
oM 38 10,
oT 39 (.un .not (oO 38))])
(.cond (oO 39)
(.seq (.region [
oM 40 0,
oM 41 1,
oM 42 2,
oM 43 4,
oX 44 84 [40,41,42,43]])
(.region [
oM 45 3,
oT 46 (.bin .sub (oO 45) (.const (.int .i64 1))),
oM 3 46]))
.skip))
(.seq (.region [
oM 48 0,
oM 49 1,
oM 50 2,
oM 51 4,
oX 52 85 [48,49,50,51],
oM 47 52,
oE 53 47 0,
oE 54 47 1,
oM 13 53,
oM 14 54])
(.seq (.seq (.region [
oM 55 14,
oT 56 (.bin .eql (oO 55) (.const (.int .i64 2)))])
(.cond (oO 56)
(.seq (.region [
oM 57 0,
oM 58 1,
oM 59 2,
oM 60 4,
oX 61 86 [57,58,59,60]])
(.seq (.region [
oM 62 2,
oT 63 (.bin .sub (oO 62) (.const (.int .i64 1))),
oM 64 13,
oM 65 1,
oT 66 (.bin .sub (oO 64) (oO 65)),
oT 67 (.bin .sub (oO 63) (oO 66)),
oM 13 67])
(.region [
oI 14 1])))
.skip))
(.seq (.seq (.region [
oM 68 10,
oM 69 68,
oP 70 69 true 11,
oT 71 (.pick (oO 69) (oO 70) (.const (.bool false))),
oM 72 71,
oP 73 72 true 14,
oG 74 72 true (.bin .eql (oO 73) (.const (.int .i64 1))),
oT 75 (.pick (oO 72) (oO 74) (.const (.bool false)))])
(.cond (oO 75)
(.seq (.region [
oM 76 0,
oM 77 1,
oM 78 2,
oM 79 4,
oX 80 87 [76,77,78,79]])
(.cond (oO 80)
.ret
.skip))
.skip))
(.seq (.seq (.drawn [
oM 81 1,
oH 82 (.bin .gtr (oO 81) (.const (.int .i64 0))) [0] true,
oH 83 (.move (oO 82)) [1,0] true,
oJ 84 83 true (.move (oO 4)) [2,1,0] false,
oJ 85 83 true (.move (oO 0)) [2,1,0] false,
oJ 86 83 true (.move (oO 1)) [2,1,0] false,
oJ 87 83 true (.bin .sub (oO 86) (.const (.int .i64 1))) [5,2,1,0] false,
oJ 88 83 true (.indexAddr 3 (oO 85) (oO 87)) [4,6,2,1,0,5] false,
oJ 89 83 true (.load (some 3) (oO 88)) [7,2,4,6,1,0,5] false,
oJ 90 83 true (.move (oO 0)) [2,1,0] false,
oJ 91 83 true (.move (oO 13)) [2,1,0] false,
oJ 92 83 true (.indexAddr 3 (oO 90) (oO 91)) [9,10,2,1,0] false,
oJ 93 83 true (.load (some 3) (oO 92)) [11,2,9,10,1,0] false,
oJ 94 83 true (.call (oO 84) [(oO 89), (oO 93)]) [3,8,12,2,1,0,7,4,6,5,11,9,10] true,
oJ 95 83 true (.bin .lss (oO 94) (.const (.int .i64 0))) [13,2,3,8,12,1,0,7,4,6,5,11,9,10] true,
oJ 96 83 true (.un .not (oO 95)) [14,2,13,3,8,12,1,0,7,4,6,5,11,9,10] true,
oH 97 (.pick (oO 83) (oO 96) (.const (.bool false))) [2,15,1,0,14,13,3,8,12,7,4,6,5,11,9,10] true])
(.cond (oO 97)
(.seq (.region [
oM 98 0,
oM 99 1,
oM 100 2,
oM 101 13,
oM 102 4,
oX 103 88 [98,99,100,101,102],
oM 15 103])
(.seq (.region [
oM 104 15,
oM 1 104])
(.exit 1)))
.skip))
(.seq (.region [
oM 106 0,
oM 107 1,
oM 108 2,
oM 109 13,
oM 110 4,
oX 111 89 [106,107,108,109,110],
oM 105 111,
oE 112 105 0,
oE 113 105 1,
oM 16 112,
oM 17 113])
(.seq (.region [
oM 114 17,
oM 11 114])
(.seq (.region [
oM 115 16,
oM 116 1,
oT 117 (.bin .sub (oO 115) (oO 116)),
oM 118 2,
oM 119 16,
oT 120 (.bin .sub (oO 118) (oO 119)),
oM 18 117,
oM 19 120])
(.seq (.region [
oM 121 12,
oT 122 (.bin .quo (oO 121) (.const (.int .i64 8))),
oM 20 122])
(.seq (.region [
oM 123 18,
oM 124 19,
oT 125 (.bin .lss (oO 123) (oO 124))])
(.cond (oO 125)
(.seq (.region [
oM 126 18,
oM 127 20,
oT 128 (.bin .geq (oO 126) (oO 127)),
oM 10 128])
(.seq (.region [
oM 129 0,
oM 130 1,
oM 131 16,
oM 132 3,
oM 133 4,
oX 134 77 [129,130,131,132,133]])
(.region [
oM 135 16,
oT 136 (.bin .add (oO 135) (.const (.int .i64 1))),
oM 1 136])))
(.seq (.region [
oM 137 19,
oM 138 20,
oT 139 (.bin .geq (oO 137) (oO 138)),
oM 10 139])
(.seq (.region [
oM 140 0,
oM 141 16,
oT 142 (.bin .add (oO 141) (.const (.int .i64 1))),
oM 143 2,
oM 144 3,
oM 145 4,
oX 146 77 [140,142,143,144,145]])
(.region [
oM 147 16,
oM 2 147])))))))))))))))))))))) }
theorem ir77_eq : funcC Try.prog 77 = some ir77 := by kernel_rfl
def ir78 : IFunc :=
{ ntmps := 8, results := [.tmp 2], body :=
(.seq (.region [
oI 2 0])
(.seq (.cond (.const (.bool false))
(.seq (.region [
oM 3 0,
oT 4 (.conv .u32 (oO 3)),
oX 5 90 [4],
oM 2 5])
.ret)
.skip)
(.seq (.region [
oM 6 0,
oX 7 91 [6],
oM 2 7])
.ret))) }
theorem ir78_eq : funcC Try.prog 78 = some ir78 := by kernel_rfl
def ir79 : IFunc :=
{ ntmps := 18, results := [.tmp 2], body :=
(.seq (.region [
oI 2 0])
(.seq (.region [
oI 3 0])
(.seq (.seq (.region [
oM 6 0,
oT 7 (.lenSlice (oO 6)),
oI 8 0])
(.block 0 (.loop (.seq (.region [
oT 9 (.bin .lss (oO 8) (oO 7))])
(.seq (.cond (oO 9)
.skip
(.exit 0))
(.seq (.block 1 (.seq (.region [
oA 10 1 6 8,
oL 11 10,
oM 5 11])
(.seq (.region [
oM 12 5,
oM 13 3,
oT 14 (.bin .neq (oO 12) (oO 13))])
(.cond (oO 14)
(.seq (.region [
oM 15 5,
oM 2 15])
.ret)
.skip))))
(.region [
oT 16 (.bin .add (oO 8) (.const (.int .i64 1))),
oM 8 16])))))))
(.seq (.region [
oM 17 3,
oM 2 17])
.ret)))) }
theorem ir79_eq : funcC Try.prog 79 = some ir79 := by kernel_rfl
def ir80 : IFunc :=
{ ntmps := 20, results := [.tmp 4], body :=
(.seq (.region [
oI 4 0])
(.seq (.region [
oM 7 0,
oX 8 92 [7],
oM 5 8])
(.seq (.region [
oM 9 1,
oX 10 92 [9],
oM 6 10])
(.seq (.seq (.region [
oM 11 5])
(.cond (oO 11)
(.seq (.seq (.region [
oM 12 6])
(.cond (oO 12)
(.seq (.region [
oI 4 0])
.ret)
.skip))
(.seq (.region [
oI 4 (-1)])
.ret))
.skip))
(.seq (.seq (.region [
oM 13 6])
(.cond (oO 13)
(.seq (.region [
oI 4 1])
.ret)
.skip))
(.seq (.seq (.region [
oM 14 0,
oM 15 1,
oT 16 (.bin .lss (oO 14) (oO 15))])
(.cond (oO 16)
(.seq (.region [
oI 4 (-1)])
.ret)
.skip))
(.seq (.seq (.region [
oM 17 0,
oM 18 1,
oT 19 (.bin .gtr (oO 17) (oO 18))])
(.cond (oO 19)
(.seq (.region [
oI 4 1])
.ret)
.skip))
(.seq (.region [
oI 4 0])
.ret)))))))) }
theorem ir80_eq : funcC Try.prog 80 = some ir80 := by kernel_rfl
def ir81 : IFunc :=
{ ntmps := 20, results := [.tmp 4], body :=
(.seq (.region [
oI 4 0])
(.seq (.region [
oM 7 0,
oX 8 93 [7],
oM 5 8])
(.seq (.region [
oM 9 1,
oX 10 93 [9],
oM 6 10])
(.seq (.seq (.region [
oM 11 5])
(.cond (oO 11)
(.seq (.seq (.region [
oM 12 6])
(.cond (oO 12)
(.seq (.region [
oI 4 0])
.ret)
.skip))
(.seq (.region [
oI 4 (-1)])
.ret))
.skip))
(.seq (.seq (.region [
oM 13 6])
(.cond (oO 13)
(.seq (.region [
oI 4 1])
.ret)
.skip))
(.seq (.seq (.region [
oM 14 0,
oM 15 1,
oT 16 (.bin .lss (oO 14) (oO 15))])
(.cond (oO 16)
(.seq (.region [
oI 4 (-1)])
.ret)
.skip))
(.seq (.seq (.region [
oM 17 0,
oM 18 1,
oT 19 (.bin .gtr (oO 17) (oO 18))])
(.cond (oO 19)
(.seq (.region [
oI 4 1])
.ret)
.skip))
(.seq (.region [
oI 4 0])
.ret)))))))) }
theorem ir81_eq : funcC Try.prog 81 = some ir81 := by kernel_rfl
def ir82 : IFunc :=
{ ntmps := 53, results := [], body :=
(.seq (.region [
oM 10 1,
oT 11 (.bin .add (oO 10) (.const (.int .i64 1))),
oM 8 11])
(.block 0 (.loop (.seq (.seq (.region [
oM 12 8,
oM 13 2,
oT 14 (.bin .lss (oO 12) (oO 13))])
(.cond (oO 14)
.skip
(.exit 0)))
(.seq (.block 1 (.seq (.region [
oM 17 8,
oM 9 17])
(.block 2 (.loop (.seq (.seq (.drawn [
oM 18 9,
oM 19 1,
oH 20 (.bin .gtr (oO 18) (oO 19)) [0,1] true,
oH 21 (.move (oO 20)) [2,0,1] true,
oJ 22 21 true (.move (oO 3)) [3,2,0,1] false,
oJ 23 21 true (.move (oO 0)) [3,2,0,1] false,
oJ 24 21 true (.move (oO 9)) [3,2,0,1] false,
oJ 25 21 true (.indexAddr 3 (oO 23) (oO 24)) [5,6,3,2,0,1] false,
oJ 26 21 true (.load (some 3) (oO 25)) [7,3,5,6,2,0,1] false,
oJ 27 21 true (.move (oO 0)) [3,2,0,1] false,
oJ 28 21 true (.move (oO 9)) [3,2,0,1] false,
oJ 29 21 true (.bin .sub (oO 28) (.const (.int .i64 1))) [10,3,2,0,1] false,
oJ 30 21 true (.indexAddr 3 (oO 27) (oO 29)) [9,11,3,2,0,1,10] false,
oJ 31 21 true (.load (some 3) (oO 30)) [12,3,9,11,2,0,1,10] false,
oJ 32 21 true (.call (oO 22) [(oO 26), (oO 31)]) [4,8,13,3,2,0,1,7,5,6,12,9,11,10] true,
oJ 33 21 true (.bin .lss (oO 32) (.const (.int .i64 0))) [14,3,4,8,13,2,0,1,7,5,6,12,9,11,10] true,
oH 34 (.pick (oO 21) (oO 33) (.const (.bool false))) [3,15,2,0,1,14,4,8,13,7,5,6,12,9,11,10] true])
(.cond (oO 34)
.skip
(.exit 2)))
(.seq (.block 3 (.drawn [
oN 37 0,
oN 38 9,
oN 39 0,
oN 40 9,
oH 41 (.bin .sub (oO 40) (.const (.int .i64 1))) [3] false,
oN 42 0,
oN 43 9,
oH 44 (.bin .sub (oO 43) (.const (.int .i64 1))) [6] false,
oH 45 (.indexAddr 3 (oO 42) (oO 44)) [5,7,6] false,
oH 46 (.load (some 3) (oO 45)) [8,5,7,6] false,
oN 47 0,
oN 48 9,
oH 49 (.indexAddr 3 (oO 47) (oO 48)) [10,11] false,
oH 50 (.load (some 3) (oO 49)) [12,10,11] false,
oH 51 (.indexAddr 3 (oO 37) (oO 38)) [0,1,5,6,7,8,9,13,12,10,11] true,
⟨none, .store 3 (.tmp 51) (.tmp 46), none, [14, 9, 0, 1, 5, 6, 7, 8, 13, 12, 10, 11], true⟩,
oH 52 (.indexAddr 3 (oO 39) (oO 41)) [2,4,0,1,3,5,6,7,8,9,10,11,12,13,14,15] true,
⟨none, .store 3 (.tmp 52) (.tmp 50), none, [16, 13, 15, 0, 1, 2, 3, 4, 5, 6, 7, 8, 9, 10, 11, 12, 14], true⟩]))
(.region [
oM 35 9,
oT 36 (.bin .sub (oO 35) (.const (.int .i64 1))),
oM 9 36])))))))
(.region [
oM 15 8,
oT 16 (.bin .add (oO 15) (.const (.int .i64 1))),
oM 8 16])))))) }
theorem ir82_eq : funcC Try.prog 82 = some ir82 := by kernel_rfl
def ir91 : IFunc :=
{ ntmps := 25, results := [.tmp 2], body :=
(.seq (.region [
oI 2 0])
(.seq (.seq (.region [
oM 3 0,
oT 4 (.bin .geq (oO 3) (.const (.int .u64 4294967296)))])
(.cond (oO 4)
(.seq (.region [
oM 5 0,
oT 6 (.bin .shr (oO 5) (.const (.int .u64 32))),
oM 0 6])
(.region [
oI 2 32]))
.skip))
(.seq (.seq (.region [
oM 7 0,
oT 8 (.bin .geq (oO 7) (.const (.int .u64 65536)))])
(.cond (oO 8)
(.seq (.region [
oM 9 0,
oT 10 (.bin .shr (oO 9) (.const (.int .u64 16))),
oM 0 10])
(.region [
oM 11 2,
oT 12 (.bin .add (oO 11) (.const (.int .i64 16))),
oM 2 12]))
.skip))
(.seq (.seq (.region [
oM 13 0,
oT 14 (.bin .geq (oO 13) (.const (.int .u64 256)))])
(.cond (oO 14)
(.seq (.region [
oM 15 0,
oT 16 (.bin .shr (oO 15) (.const (.int .u64 8))),
oM 0 16])
(.region [
oM 17 2,
oT 18 (.bin .add (oO 17) (.const (.int .i64 8))),
oM 2 18]))
.skip))
(.seq (.region [
oM 19 2,
oM 20 0,
oT 21 (.conv .u8 (oO 20)),
oT 22 (.indexStr (.const (.string ⟨#[0, 1, 2, 2, 3, 3, 3, 3, 4, 4, 4, 4, 4, 4, 4, 4, 5, 5, 5, 5, 5, 5, 5, 5, 5, 5, 5, 5, 5, 5, 5, 5, 6, 6, 6, 6, 6, 6, 6, 6, 6, 6, 6, 6, 6, 6, 6, 6, 6, 6, 6, 6, 6, 6, 6, 6, 6, 6, 6, 6, 6, 6, 6, 6, 7, 7, 7, 7, 7, 7, 7, 7, 7, 7, 7, 7, 7, 7, 7, 7, 7, 7, 7, 7, 7, 7, 7, 7, 7, 7, 7, 7, 7, 7, 7, 7, 7, 7, 7, 7, 7, 7, 7, 7, 7, 7, 7, 7, 7, 7, 7, 7, 7, 7, 7, 7, 7, 7, 7, 7, 7, 7, 7, 7, 7, 7, 7, 7, 8, 8, 8, 8, 8, 8, 8, 8, 8, 8, 8, 8, 8, 8, 8, 8, 8, 8, 8, 8, 8, 8, 8, 8, 8, 8, 8, 8, 8, 8, 8, 8, 8, 8, 8, 8, 8, 8, 8, 8, 8, 8, 8, 8, 8, 8, 8, 8, 8, 8, 8, 8, 8, 8, 8, 8, 8, 8, 8, 8, 8, 8, 8, 8, 8, 8, 8, 8, 8, 8, 8, 8, 8, 8, 8, 8, 8, 8, 8, 8, 8, 8, 8, 8, 8, 8, 8, 8, 8, 8, 8, 8, 8, 8, 8, 8, 8, 8, 8, 8, 8, 8, 8, 8, 8, 8, 8, 8, 8, 8, 8, 8, 8, 8, 8, 8, 8, 8, 8, 8, 8, 8, 8, 8, 8, 8, 8, 8]⟩)) (oO 21)),
oT 23 (.conv .i64 (oO 22)),
oT 24 (.bin .add (oO 19) (oO 23)),
oM 2 24])
.ret))))) }
theorem ir91_eq : funcC Try.prog 91 = some ir91 := by kernel_rfl
def ir92 : IFunc :=
{ ntmps := 6, results := [.tmp 2], body :=
(.seq (.region [
oT 2 (.move (.const (.bool false)))])
(.seq (.region [
oM 3 0,
oM 4 0,
oT 5 (.bin .neq (oO 3) (oO 4)),
oM 2 5])
.ret)) }
theorem ir92_eq : funcC Try.prog 92 = some ir92 := by kernel_rfl
def ir93 : IFunc :=
{ ntmps := 6, results := [.tmp 2], body :=
(.seq (.region [
oT 2 (.move (.const (.bool false)))])
(.seq (.region [
oM 3 0,
oM 4 0,
oT 5 (.bin .neq (oO 3) (oO 4)),
oM 2 5])
.ret)) }
theorem ir93_eq : funcC Try.prog 93 = some ir93 := by kernel_rfl
def table : List (Option IFunc) :=
  [none, none, none, none, some ir4, none, none, none, none, none, some ir10, some ir11, some ir12, some ir13, some ir14, some ir15, some ir16, some ir17, some ir18, some ir19, some ir20, some ir21, some ir22, some ir23, some ir24, some ir25, some ir26, none, some ir28, some ir29, some ir30, some ir31, some ir32, some ir33, some ir34, some ir35, some ir36, some ir37, some ir38, some ir39, some ir40, some ir41, some ir42, some ir43, some ir44, some ir45, some ir46, some ir47, some ir48, some ir49, some ir50, some ir51, some ir52, some ir53, some ir54, some ir55, some ir56, some ir57, some ir58, some ir59, some ir60, some ir61, some ir62, some ir63, some ir64, some ir65, some ir66, some ir67, some ir68, some ir69, some ir70, some ir71, some ir72, some ir73, some ir74, some ir75, some ir76, some ir77, some ir78, some ir79, some ir80, some ir81, some ir82, none, none, none, none, none, none, none, none, some ir91, some ir92, some ir93, none, none, none, none, none, none]
def env : Env := fun g => (table[g]?).join
theorem env_ok : ∀ g F, env g = some F → funcC Try.prog g = some F := by
  intro g F h
  match g with
  | 0 => cases h
  | 1 => cases h
  | 2 => cases h
  | 3 => cases h
  | 4 => cases h; exact ir4_eq
  | 5 => cases h
  | 6 => cases h
  | 7 => cases h
  | 8 => cases h
  | 9 => cases h
  | 10 => cases h; exact ir10_eq
  | 11 => cases h; exact ir11_eq
  | 12 => cases h; exact ir12_eq
  | 13 => cases h; exact ir13_eq
  | 14 => cases h; exact ir14_eq
  | 15 => cases h; exact ir15_eq
  | 16 => cases h; exact ir16_eq
  | 17 => cases h; exact ir17_eq
  | 18 => cases h; exact ir18_eq
  | 19 => cases h; exact ir19_eq
  | 20 => cases h; exact ir20_eq
  | 21 => cases h; exact ir21_eq
  | 22 => cases h; exact ir22_eq
  | 23 => cases h; exact ir23_eq
  | 24 => cases h; exact ir24_eq
  | 25 => cases h; exact ir25_eq
  | 26 => cases h; exact ir26_eq
  | 27 => cases h
  | 28 => cases h; exact ir28_eq
  | 29 => cases h; exact ir29_eq
  | 30 => cases h; exact ir30_eq
  | 31 => cases h; exact ir31_eq
  | 32 => cases h; exact ir32_eq
  | 33 => cases h; exact ir33_eq
  | 34 => cases h; exact ir34_eq
  | 35 => cases h; exact ir35_eq
  | 36 => cases h; exact ir36_eq
  | 37 => cases h; exact ir37_eq
  | 38 => cases h; exact ir38_eq
  | 39 => cases h; exact ir39_eq
  | 40 => cases h; exact ir40_eq
  | 41 => cases h; exact ir41_eq
  | 42 => cases h; exact ir42_eq
  | 43 => cases h; exact ir43_eq
  | 44 => cases h; exact ir44_eq
  | 45 => cases h; exact ir45_eq
  | 46 => cases h; exact ir46_eq
  | 47 => cases h; exact ir47_eq
  | 48 => cases h; exact ir48_eq
  | 49 => cases h; exact ir49_eq
  | 50 => cases h; exact ir50_eq
  | 51 => cases h; exact ir51_eq
  | 52 => cases h; exact ir52_eq
  | 53 => cases h; exact ir53_eq
  | 54 => cases h; exact ir54_eq
  | 55 => cases h; exact ir55_eq
  | 56 => cases h; exact ir56_eq
  | 57 => cases h; exact ir57_eq
  | 58 => cases h; exact ir58_eq
  | 59 => cases h; exact ir59_eq
  | 60 => cases h; exact ir60_eq
  | 61 => cases h; exact ir61_eq
  | 62 => cases h; exact ir62_eq
  | 63 => cases h; exact ir63_eq
  | 64 => cases h; exact ir64_eq
  | 65 => cases h; exact ir65_eq
  | 66 => cases h; exact ir66_eq
  | 67 => cases h; exact ir67_eq
  | 68 => cases h; exact ir68_eq
  | 69 => cases h; exact ir69_eq
  | 70 => cases h; exact ir70_eq
  | 71 => cases h; exact ir71_eq
  | 72 => cases h; exact ir72_eq
  | 73 => cases h; exact ir73_eq
  | 74 => cases h; exact ir74_eq
  | 75 => cases h; exact ir75_eq
  | 76 => cases h; exact ir76_eq
  | 77 => cases h; exact ir77_eq
  | 78 => cases h; exact ir78_eq
  | 79 => cases h; exact ir79_eq
  | 80 => cases h; exact ir80_eq
  | 81 => cases h; exact ir81_eq
  | 82 => cases h; exact ir82_eq
  | 83 => cases h
  | 84 => cases h
  | 85 => cases h
  | 86 => cases h
  | 87 => cases h
  | 88 => cases h
  | 89 => cases h
  | 90 => cases h
  | 91 => cases h; exact ir91_eq
  | 92 => cases h; exact ir92_eq
  | 93 => cases h; exact ir93_eq
  | 94 => cases h
  | 95 => cases h
  | 96 => cases h
  | 97 => cases h
  | 98 => cases h
  | 99 => cases h
  | g + 100 => simp [env, table] at h
end Go.Proofs.Ytmpnldmdchchjaa
