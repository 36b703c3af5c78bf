import Derived.Test.YtmpnldmdchchjaaChecked
import Derived.Test.YtmpnldmdchchjaaFa
import Derived.KernelRfl
namespace Go.Proofs.Ytmpnldmdchchjaa
open Go Go.Ideal
def ir6 : IFunc :=
{ ntmps := 150, results := [.tmp 10], body :=
(.seq (.region [
oB 5 0,
oT 10 (.move (.const (.bool false)))])
(.seq (.region [
oX 25 9 [],
oM 11 25])
(.seq (.seq (.region [
oM 26 1,
oX 27 10 [26],
oT 28 (.bin .gtr (oO 27) (.const (.int .i64 0))),
oM 29 28,
oP 30 29 false 11,
oG 31 29 false (.un .not (oO 30)),
oT 32 (.pick (oO 29) (.const (.bool true)) (oO 31))])
(.cond (oO 32)
(.seq (.region [
oM 33 11,
oM 10 33])
.ret)
.skip))
(.seq (.region [
oF 35 0 5,
oL 36 35,
oF 37 1 5,
oL 38 37,
oF 39 2 5,
oL 40 39,
oX 41 11 [36,38,40],
oM 34 41,
oE 42 34 0,
oE 43 34 1,
oM 12 42,
oM 13 43])
(.seq (.region [
oF 45 0 5,
oL 46 45,
oF 47 1 5,
oL 48 47,
oF 49 2 5,
oL 50 49,
oX 51 21 [46,48,50],
oM 44 51,
oE 52 44 0,
oE 53 44 1,
oM 14 52,
oM 15 53])
(.seq (.seq (.region [
oM 54 13,
oT 55 (.bin .neq (oO 54) (.const (.int .i64 0))),
oM 56 55,
oP 57 56 false 15,
oG 58 56 false (.bin .neq (oO 57) (.const (.int .i64 0))),
oT 59 (.pick (oO 56) (.const (.bool true)) (oO 58))])
(.cond (oO 59)
(.seq (.region [
oM 60 11,
oM 61 60,
oP 62 61 true 12,
oG 63 61 true (.eqPtr false (oO 62) (.const (.pointer none))),
oT 64 (.pick (oO 61) (oO 63) (.const (.bool false))),
oM 10 64])
.ret)
.skip))
(.seq (.seq (.region [
oI 16 0])
(.block 0 (.loop (.seq (.seq (.region [
oM 65 16,
oM 66 1,
oT 67 (.lenSlice (oO 66)),
oT 68 (.bin .lss (oO 65) (oO 67))])
(.cond (oO 68)
.skip
(.exit 0)))
(.seq (.block 1 (.seq (.region [
oM 71 12,
oM 72 14,
oM 73 1,
oM 74 16,
oA 75 7 73 74,
oK 76 7 75,
oX 77 22 [71,72,76],
oM 17 77])
(.seq (.region [
oM 78 17,
oT 79 (.un .not (oO 78))])
(.cond (oO 79)
(.seq (.region [
oT 10 (.move (.const (.bool false)))])
.ret)
.skip))))
(.region [
oM 69 16,
oT 70 (.bin .add (oO 69) (.const (.int .i64 1))),
oM 16 70]))))))
(.seq (.region [
oM 81 12,
oM 82 3,
oX 83 25 [81,82],
oM 80 83,
oE 84 80 0,
oE 85 80 1,
oM 18 84,
oM 19 85])
(.seq (.region [
oM 86 12,
oX 87 17 [86],
oM 20 87])
(.seq (.region [
oM 89 12,
oM 90 2,
oM 91 3,
oM 92 4,
oX 93 16 [89,90,91,92],
oM 88 93,
oE 94 88 0,
oE 95 88 1,
oT 21 (.box (.const (.agg #[(.slice none 0 0), (.slice none 0 0), (.slice none 0 0)]))),
oS 3 21 94,
oM 22 95])
(.seq (.seq (.region [
oM 96 18,
oM 97 2,
oT 98 (.bin .eql (oO 96) (oO 97)),
oM 99 98,
oP 100 99 true 19,
oP 101 99 true 4,
oG 102 99 true (.bin .eql (oO 100) (oO 101)),
oT 103 (.pick (oO 99) (oO 102) (.const (.bool false))),
oM 104 103,
oP 105 104 true 12,
oP 106 104 true 3,
oG 107 104 true (.call (.const (.func (.func 26) #[] #[])) [(oO 105), (oO 106)]),
oT 108 (.pick (oO 104) (oO 107) (.const (.bool false))),
oM 109 108,
oP 110 109 true 22,
oG 111 109 true (.bin .eql (oO 110) (.const (.int .i64 0))),
oT 112 (.pick (oO 109) (oO 111) (.const (.bool false)))])
(.cond (oO 112)
(.seq (.region [
oM 114 12,
oM 115 3,
oX 116 25 [114,115],
oM 113 116,
oE 117 113 0,
oE 118 113 1,
oM 23 117,
oM 24 118])
(.seq (.region [
oM 119 11,
oM 120 119,
oR 121 120 true 0 21,
oQ 122 120 true 121,
oG 123 120 true (.lenSlice (oO 122)),
oG 124 120 true (.bin .gtr (oO 123) (.const (.int .i64 0))),
oT 125 (.pick (oO 120) (oO 124) (.const (.bool false))),
oM 126 125,
oP 127 126 true 23,
oP 128 126 true 2,
oG 129 126 true (.bin .neq (oO 127) (oO 128)),
oT 130 (.pick (oO 126) (oO 129) (.const (.bool false))),
oM 10 130])
.ret))
.skip))
(.seq (.region [
oM 131 11,
oM 132 131,
oR 133 132 true 0 21,
oQ 134 132 true 133,
oG 135 132 true (.lenSlice (oO 134)),
oG 136 132 true (.bin .eql (oO 135) (.const (.int .i64 0))),
oT 137 (.pick (oO 132) (oO 136) (.const (.bool false))),
oM 138 137,
oR 139 138 true 1 21,
oQ 140 138 true 139,
oG 141 138 true (.lenSlice (oO 140)),
oG 142 138 true (.bin .eql (oO 141) (.const (.int .i64 0))),
oT 143 (.pick (oO 138) (oO 142) (.const (.bool false))),
oM 144 143,
oP 145 144 true 12,
oG 146 144 true (.call (.const (.func (.func 17) #[] #[])) [(oO 145)]),
oP 147 144 true 20,
oG 148 144 true (.call (.const (.func (.func 19) #[] #[])) [(oO 146), (oO 147)]),
oT 149 (.pick (oO 144) (oO 148) (.const (.bool false))),
oM 10 149])
.ret)))))))))))) }
theorem ir6_eq : funcC Try.prog 6 = some ir6 := by kernel_rfl
def ir9 : IFunc :=
{ ntmps := 170, results := [.tmp 0], body :=
(.seq (.region [
oT 0 (.move (.const (.bool false)))])
(.seq (.region [
oX 8 27 [],
oM 1 8])
(.seq (.region [
oM 10 1,
oT 11 (.call (.const (.func (.func 15) #[] #[])) [(oO 10), (.const (.int .i64 1)), (.const (.int .i64 2)), (.const (.int .u64 7)), (.const (.int .i64 3))]),
oM 9 11,
oE 12 9 0,
oE 13 9 1,
oT 2 (.box (.const (.agg #[(.slice none 0 0), (.slice none 0 0), (.slice none 0 0)]))),
oS 3 2 12,
oM 3 13])
(.seq (.region [
oM 15 1,
oT 16 (.call (.const (.func (.func 15) #[] #[])) [(oO 15), (.const (.int .i64 0)), (.const (.int .i64 2)), (.const (.int .u64 9)), (.const (.int .i64 5))]),
oM 14 16,
oE 17 14 0,
oE 18 14 1,
oT 4 (.box (.const (.agg #[(.slice none 0 0), (.slice none 0 0), (.slice none 0 0)]))),
oS 3 4 17,
oM 5 18])
(.seq (.region [
oM 20 1,
oT 21 (.call (.const (.func (.func 16) #[] #[])) [(oO 20), (.const (.int .i64 1)), (.const (.int .i64 2)), (.const (.int .u32 1))]),
oM 19 21,
oE 22 19 0,
oE 23 19 1,
oT 6 (.box (.const (.agg #[(.slice none 0 0), (.slice none 0 0), (.slice none 0 0)]))),
oS 3 6 22,
oM 7 23])
(.seq (.seq (.region [
oM 24 3,
oT 25 (.bin .neq (oO 24) (.const (.int .i64 0))),
oM 26 25,
oP 27 26 false 5,
oG 28 26 false (.bin .neq (oO 27) (.const (.int .i64 0))),
oT 29 (.pick (oO 26) (.const (.bool true)) (oO 28)),
oM 30 29,
oP 31 30 false 7,
oG 32 30 false (.bin .neq (oO 31) (.const (.int .i64 0))),
oT 33 (.pick (oO 30) (.const (.bool true)) (oO 32)),
oM 34 33,
oR 35 34 false 0 2,
oQ 36 34 false 35,
oG 37 34 false (.lenSlice (oO 36)),
oG 38 34 false (.bin .neq (oO 37) (.const (.int .i64 1))),
oT 39 (.pick (oO 34) (.const (.bool true)) (oO 38)),
oM 40 39,
oR 41 40 false 1 2,
oQ 42 40 false 41,
oG 43 40 false (.lenSlice (oO 42)),
oG 44 40 false (.bin .neq (oO 43) (.const (.int .i64 1))),
oT 45 (.pick (oO 40) (.const (.bool true)) (oO 44)),
oM 46 45,
oR 47 46 false 1 4,
oQ 48 46 false 47,
oG 49 46 false (.lenSlice (oO 48)),
oG 50 46 false (.bin .neq (oO 49) (.const (.int .i64 3))),
oT 51 (.pick (oO 46) (.const (.bool true)) (oO 50)),
oM 52 51,
oR 53 52 false 0 6,
oQ 54 52 false 53,
oG 55 52 false (.lenSlice (oO 54)),
oG 56 52 false (.bin .neq (oO 55) (.const (.int .i64 2))),
oT 57 (.pick (oO 52) (.const (.bool true)) (oO 56)),
oM 58 57,
oR 59 58 false 1 6,
oQ 60 58 false 59,
oG 61 58 false (.lenSlice (oO 60)),
oG 62 58 false (.bin .neq (oO 61) (.const (.int .i64 1))),
oT 63 (.pick (oO 58) (.const (.bool true)) (oO 62)),
oM 64 63,
oR 65 64 false 2 6,
oQ 66 64 false 65,
oG 67 64 false (.lenSlice (oO 66)),
oG 68 64 false (.bin .neq (oO 67) (.const (.int .i64 1))),
oT 69 (.pick (oO 64) (.const (.bool true)) (oO 68))])
(.cond (oO 69)
(.seq (.region [
oT 0 (.move (.const (.bool false)))])
.ret)
.skip))
(.seq (.region [
oF 70 1 2,
oL 71 70,
oT 72 (.indexAddr 10 (oO 71) (.const (.int .i64 0))),
oF 73 0 72,
oL 74 73,
oT 75 (.bin .eql (oO 74) (.const (.int .i64 1))),
oM 76 75,
oR 77 76 true 1 2,
oQ 78 76 true 77,
oG 79 76 true (.indexAddr 10 (oO 78) (.const (.int .i64 0))),
oR 80 76 true 1 79,
oG 81 76 true (.load (some 9) (oO 80)),
oG 82 76 true (.build [(.int .i64 0), (.int .i64 0), (.int .u32 0), (.int .u64 0), (.int .i64 0), (.int .i64 0), (.int .i64 0), (.int .i64 0), (.slice none 0 0)] [(0, 1, (.const (.int .i64 2))), (1, 1, (.const (.int .i64 2))), (2, 1, (.const (.int .u32 1))), (3, 1, (.const (.int .u64 7)))]),
oG 83 76 true (.call (.const (.func (.func 29) #[] #[])) [(oO 81), (oO 82)]),
oT 84 (.pick (oO 76) (oO 83) (.const (.bool false))),
oM 85 84,
oR 86 85 true 0 2,
oQ 87 85 true 86,
oG 88 85 true (.indexAddr 3 (oO 87) (.const (.int .i64 0))),
oR 89 85 true 2 88,
oQ 90 85 true 89,
oG 91 85 true (.bytesStr (oO 90)),
oG 92 85 true (.bin .eql (oO 91) (.const (.string ⟨#[1, 0, 0, 0, 1]⟩))),
oT 93 (.pick (oO 85) (oO 92) (.const (.bool false))),
oM 94 93,
oR 95 94 true 1 4,
oQ 96 94 true 95,
oG 97 94 true (.indexAddr 10 (oO 96) (.const (.int .i64 0))),
oR 98 94 true 0 97,
oQ 99 94 true 98,
oG 100 94 true (.bin .eql (oO 99) (.const (.int .i64 0))),
oT 101 (.pick (oO 94) (oO 100) (.const (.bool false))),
oM 102 101,
oR 103 102 true 1 4,
oQ 104 102 true 103,
oG 105 102 true (.indexAddr 10 (oO 104) (.const (.int .i64 0))),
oR 106 102 true 1 105,
oR 107 102 true 7 106,
oQ 108 102 true 107,
oG 109 102 true (.bin .eql (oO 108) (.const (.int .i64 1))),
oT 110 (.pick (oO 102) (oO 109) (.const (.bool false))),
oM 111 110,
oR 112 111 true 1 4,
oQ 113 111 true 112,
oG 114 111 true (.indexAddr 10 (oO 113) (.const (.int .i64 1))),
oR 115 111 true 0 114,
oQ 116 111 true 115,
oG 117 111 true (.bin .eql (oO 116) (.const (.int .i64 1))),
oT 118 (.pick (oO 111) (oO 117) (.const (.bool false))),
oM 119 118,
oR 120 119 true 1 4,
oQ 121 119 true 120,
oG 122 119 true (.indexAddr 10 (oO 121) (.const (.int .i64 1))),
oR 123 119 true 1 122,
oR 124 119 true 4 123,
oQ 125 119 true 124,
oG 126 119 true (.bin .eql (oO 125) (.const (.int .i64 5))),
oT 127 (.pick (oO 119) (oO 126) (.const (.bool false))),
oM 128 127,
oR 129 128 true 1 4,
oQ 130 128 true 129,
oG 131 128 true (.indexAddr 10 (oO 130) (.const (.int .i64 2))),
oR 132 128 true 1 131,
oR 133 128 true 0 132,
oQ 134 128 true 133,
oG 135 128 true (.bin .eql (oO 134) (.const (.int .i64 10))),
oT 136 (.pick (oO 128) (oO 135) (.const (.bool false))),
oM 137 136,
oR 138 137 true 1 6,
oQ 139 137 true 138,
oG 140 137 true (.indexAddr 10 (oO 139) (.const (.int .i64 0))),
oR 141 137 true 0 140,
oQ 142 137 true 141,
oG 143 137 true (.bin .eql (oO 142) (.const (.int .i64 0))),
oT 144 (.pick (oO 137) (oO 143) (.const (.bool false))),
oM 145 144,
oR 146 145 true 1 6,
oQ 147 145 true 146,
oG 148 145 true (.indexAddr 10 (oO 147) (.const (.int .i64 0))),
oR 149 145 true 1 148,
oR 150 145 true 2 149,
oQ 151 145 true 150,
oG 152 145 true (.bin .eql (oO 151) (.const (.int .u32 2))),
oT 153 (.pick (oO 145) (oO 152) (.const (.bool false))),
oM 154 153,
oR 155 154 true 1 6,
oQ 156 154 true 155,
oG 157 154 true (.indexAddr 10 (oO 156) (.const (.int .i64 0))),
oR 158 154 true 1 157,
oR 159 154 true 3 158,
oQ 160 154 true 159,
oG 161 154 true (.bin .eql (oO 160) (.const (.int .u64 9))),
oT 162 (.pick (oO 154) (oO 161) (.const (.bool false))),
oM 163 162,
oR 164 163 true 2 6,
oQ 165 163 true 164,
oG 166 163 true (.indexAddr 1 (oO 165) (.const (.int .i64 0))),
oQ 167 163 true 166,
oG 168 163 true (.bin .eql (oO 167) (.const (.int .i64 2))),
oT 169 (.pick (oO 163) (oO 168) (.const (.bool false))),
oM 0 169])
.ret))))))) }
theorem ir9_eq : funcC Try.prog 9 = some ir9 := by kernel_rfl
def ir10 : IFunc :=
{ ntmps := 20, results := [.tmp 2], body :=
(.seq (.region [
oI 2 0])
(.seq (.seq (.region [
oM 4 0,
oT 5 (.lenSlice (oO 4)),
oT 6 (.bin .gtr (oO 5) (.const (.int .i64 120)))])
(.cond (oO 6)
(.seq (.region [
oI 2 1])
.ret)
.skip))
(.seq (.seq (.region [
oI 3 0])
(.block 0 (.loop (.seq (.seq (.region [
oM 7 3,
oM 8 0,
oT 9 (.lenSlice (oO 8)),
oT 10 (.bin .lss (oO 7) (oO 9))])
(.cond (oO 10)
.skip
(.exit 0)))
(.seq (.block 1 (.seq (.region [
oM 13 0,
oM 14 3,
oA 15 7 13 14,
oF 16 6 15,
oL 17 16,
oT 18 (.lenSlice (oO 17)),
oT 19 (.bin .gtr (oO 18) (.const (.int .i64 40)))])
(.cond (oO 19)
(.seq (.region [
oI 2 1])
.ret)
.skip)))
(.region [
oM 11 3,
oT 12 (.bin .add (oO 11) (.const (.int .i64 1))),
oM 3 12]))))))
(.seq (.region [
oI 2 0])
.ret)))) }
theorem ir10_eq : funcC Try.prog 10 = some ir10 := by kernel_rfl
def ir11 : IFunc :=
{ ntmps := 41, results := [.tmp 6, .tmp 7], body :=
(.seq (.region [
oT 6 (.move (.const (.pointer none))),
oI 7 0])
(.seq (.seq (.region [
oM 8 1,
oT 9 (.bin .lss (oO 8) (.const (.int .i64 1))),
oM 10 9,
oP 11 10 false 1,
oG 12 10 false (.bin .gtr (oO 11) (.const (.int .i64 64))),
oT 13 (.pick (oO 10) (.const (.bool true)) (oO 12)),
oM 14 13,
oP 15 14 false 0,
oG 16 14 false (.bin .lss (oO 15) (.const (.int .i64 0))),
oT 17 (.pick (oO 14) (.const (.bool true)) (oO 16)),
oM 18 17,
oP 19 18 false 0,
oP 20 18 false 1,
oG 21 18 false (.bin .geq (oO 19) (oO 20)),
oT 22 (.pick (oO 18) (.const (.bool true)) (oO 21)),
oM 23 22,
oP 24 23 false 2,
oG 25 23 false (.bin .lss (oO 24) (.const (.int .i64 1))),
oT 26 (.pick (oO 23) (.const (.bool true)) (oO 25)),
oM 27 26,
oP 28 27 false 2,
oG 29 27 false (.bin .gtr (oO 28) (.const (.int .i64 1024))),
oT 30 (.pick (oO 27) (.const (.bool true)) (oO 29))])
(.cond (oO 30)
(.seq (.region [
oT 6 (.move (.const (.pointer none))),
oI 7 2])
.ret)
.skip))
(.seq (.region [
oM 31 0,
oM 32 1,
oM 33 2,
oT 34 (.makeMap),
oT 35 (.makeMap),
oT 36 (.makeMap),
oM 37 0,
oY (.mapUpdate none (oO 36) (oO 37) (.const (.int .i64 1))),
oM 38 36,
oT 39 (.build [(.int .i64 0), (.int .i64 0), (.int .i64 0), (.map none), (.map none), (.map none)] [(0, 1, (oO 31)), (1, 1, (oO 32)), (2, 1, (oO 33)), (3, 1, (oO 34)), (4, 1, (oO 35)), (5, 1, (oO 38))]),
oB 40 39,
oM 6 40,
oI 7 0])
.ret))) }
theorem ir11_eq : funcC Try.prog 11 = some ir11 := by kernel_rfl
def ir12 : IFunc :=
{ ntmps := 41, results := [.cell 6 (some 3), .tmp 7], body :=
(.seq (.region [
oT 6 (.box (.const (.agg #[(.int .i64 0), (.int .i64 0), (.slice none 0 0)]))),
oI 7 0])
(.seq (.block 0 (.seq (.region [
oM 10 0,
oX 11 30 [10],
oM 9 11])
(.cond (oO 9)
(.seq (.region [
oT 12 (.build [(.int .i64 0), (.int .i64 0), (.slice none 0 0)] []),
oS 3 6 12,
oI 7 1])
.ret)
(.seq (.region [
oM 14 0,
oM 15 1,
oX 16 26 [14,15],
oT 17 (.un .not (oO 16)),
oM 18 17,
oP 19 18 false 0,
oP 20 18 false 2,
oG 21 18 false (.call (.const (.func (.func 31) #[] #[])) [(oO 19), (oO 20)]),
oG 22 18 false (.un .not (oO 21)),
oT 23 (.pick (oO 18) (.const (.bool true)) (oO 22)),
oM 13 23])
(.cond (oO 13)
(.seq (.region [
oT 24 (.build [(.int .i64 0), (.int .i64 0), (.slice none 0 0)] []),
oS 3 6 24,
oI 7 2])
.ret)
(.seq (.region [
oM 26 0,
oM 27 1,
oX 28 32 [26,27],
oX 29 33 [],
oT 30 (.eqAgg true [.int, .int] (oO 28) (oO 29)),
oM 25 30])
(.cond (oO 25)
(.seq (.region [
oT 31 (.build [(.int .i64 0), (.int .i64 0), (.slice none 0 0)] []),
oS 3 6 31,
oI 7 140])
.ret)
.skip)))))))
(.seq (.region [
oT 8 (.box (.const (.agg #[(.slice none 0 0), (.slice none 0 0), (.slice none 0 0)])))])
(.seq (.region [
oM 32 0,
oM 33 1,
oM 34 2,
oT 35 (.build [(.int .i64 0), (.int .u32 0)] [(0, 1, (oO 34)), (1, 1, (.const (.int .u32 1)))]),
oX 36 34 [32,33,35,8]])
(.seq (.region [
oF 37 0 8,
oL 38 37,
oT 39 (.indexAddr 3 (oO 38) (.const (.int .i64 0))),
oK 40 3 39,
oS 3 6 40,
oI 7 0])
.ret))))) }
theorem ir12_eq : funcC Try.prog 12 = some ir12 := by kernel_rfl
def ir13 : IFunc :=
{ ntmps := 22, results := [], body :=
(.seq (.seq (.region [
oM 4 0,
oM 5 1,
oX 6 31 [4,5],
oT 7 (.un .not (oO 6))])
(.cond (oO 7)
.ret
.skip))
(.seq (.region [
oM 8 0,
oM 9 1,
oX 10 35 [8,9]])
(.seq (.region [
oM 11 1,
oM 12 0,
oC 13 12,
oF 14 0 13,
oL 15 14,
oT 16 (.bin .neq (oO 11) (oO 15))])
(.cond (oO 16)
(.region [
oM 17 0,
oC 18 17,
oF 19 5 18,
oL 20 19,
oM 21 1,
oY (.mapUpdate none (oO 20) (oO 21) (.const (.int .i64 0)))])
.skip)))) }
theorem ir13_eq : funcC Try.prog 13 = some ir13 := by kernel_rfl
def ir14 : IFunc :=
{ ntmps := 52, results := [.cell 6 (some 3), .tmp 7], body :=
(.seq (.region [
oB 3 0,
oB 4 1,
oB 5 2,
oT 6 (.box (.const (.agg #[(.slice none 0 0), (.slice none 0 0), (.slice none 0 0)]))),
oI 7 0])
(.seq (.region [
oT 8 (.box (.const (.agg #[(.slice none 0 0), (.slice none 0 0), (.slice none 0 0)])))])
(.seq (.block 0 (.seq (.region [
oL 12 3,
oX 13 30 [12],
oM 11 13])
(.cond (oO 11)
(.seq (.region [
oK 14 3 8,
oS 3 6 14,
oI 7 1])
.ret)
(.seq (.region [
oL 16 3,
oL 17 4,
oX 18 31 [16,17],
oT 19 (.un .not (oO 18)),
oM 15 19])
(.cond (oO 15)
(.seq (.region [
oK 20 3 8,
oS 3 6 20,
oI 7 2])
.ret)
.skip)))))
(.seq (.region [
oL 21 3,
oL 22 4,
oX 23 35 [21,22]])
(.seq (.seq (.region [
oL 24 3,
oX 25 36 [24]])
(.block 1 (.rangeFunc (.tmp 25) [26]
(.region [
oM 9 26])
(.block 2 (.seq (.region [
oL 27 3,
oM 28 9,
oX 29 32 [27,28],
oT 10 (.box (.const (.agg #[(.int .i64 0), (.int .u32 0)]))),
oS 2 10 29])
(.seq (.region [
oF 30 0 10,
oL 31 30,
oL 32 4,
oT 33 (.bin .eql (oO 31) (oO 32)),
oM 34 33,
oQ 35 34 true 5,
oP 36 34 true 9,
oR 37 34 true 1 10,
oQ 38 34 true 37,
oG 39 34 true (.build [(.int .i64 0), (.int .u32 0)] [(0, 1, (oO 36)), (1, 1, (oO 38))]),
oG 40 34 true (.call (.const (.func (.func 37) #[] #[])) [(oO 35), (oO 39)]),
oG 41 34 true (.un .not (oO 40)),
oT 42 (.pick (oO 34) (oO 41) (.const (.bool false)))])
(.cond (oO 42)
(.region [
oL 43 3,
oM 44 9,
oX 45 38 [43,44,8]])
.skip)))))))
(.seq (.drawn [
oU 46 (.load none (oO 3)),
oH 47 (.nilCheck (oO 46)) [0] false,
oH 48 (.fieldAddr 5 (oO 47)) [1,0] false,
oH 49 (.load none (oO 48)) [2,1,0] false,
oU 50 (.load none (oO 4)),
⟨none, .mapUpdate none (.tmp 49) (.tmp 50) (.const (.int .i64 1)), none, [3, 4, 0, 1, 2], true⟩])
(.seq (.region [
oK 51 3 8,
oS 3 6 51,
oI 7 0])
.ret))))))) }
theorem ir14_eq : funcC Try.prog 14 = some ir14 := by kernel_rfl
def ir15 : IFunc :=
{ ntmps := 76, results := [.cell 10 (some 3), .tmp 11], body :=
(.seq (.region [
oT 10 (.box (.const (.agg #[(.slice none 0 0), (.slice none 0 0), (.slice none 0 0)]))),
oI 11 0])
(.seq (.region [
oT 12 (.box (.const (.agg #[(.slice none 0 0), (.slice none 0 0), (.slice none 0 0)])))])
(.seq (.block 0 (.seq (.region [
oM 16 0,
oX 17 30 [16],
oM 15 17])
(.cond (oO 15)
(.seq (.region [
oK 18 3 12,
oS 3 10 18,
oI 11 1])
.ret)
(.seq (.region [
oM 20 0,
oM 21 1,
oX 22 31 [20,21],
oT 23 (.un .not (oO 22)),
oM 24 23,
oP 25 24 false 0,
oP 26 24 false 2,
oG 27 24 false (.call (.const (.func (.func 26) #[] #[])) [(oO 25), (oO 26)]),
oG 28 24 false (.un .not (oO 27)),
oT 29 (.pick (oO 24) (.const (.bool true)) (oO 28)),
oM 30 29,
oP 31 30 false 4,
oG 32 30 false (.bin .lss (oO 31) (.const (.int .i64 0))),
oT 33 (.pick (oO 30) (.const (.bool true)) (oO 32)),
oM 34 33,
oP 35 34 false 4,
oG 36 34 false (.bin .gtr (oO 35) (.const (.int .i64 15))),
oT 37 (.pick (oO 34) (.const (.bool true)) (oO 36)),
oM 19 37])
(.cond (oO 19)
(.seq (.region [
oK 38 3 12,
oS 3 10 38,
oI 11 2])
.ret)
(.seq (.region [
oM 40 0,
oM 41 1,
oX 42 28 [40,41],
oT 43 (.un .not (oO 42)),
oM 39 43])
(.cond (oO 39)
(.seq (.region [
oK 44 3 12,
oS 3 10 44,
oI 11 140])
.ret)
.skip)))))))
(.seq (.region [
oM 45 1,
oM 46 3,
oM 47 4,
oT 48 (.build [(.int .i64 0), (.int .u64 0), (.int .i64 0)] [(0, 1, (oO 45)), (1, 1, (oO 46)), (2, 1, (oO 47))]),
oT 13 (.box (.const (.agg #[(.int .i64 0), (.int .u64 0), (.int .i64 0)]))),
oS 3 13 48])
(.seq (.seq (.region [
oM 49 0,
oM 50 2,
oX 51 32 [49,50],
oT 14 (.box (.const (.agg #[(.int .i64 0), (.int .u32 0)]))),
oS 2 14 51])
(.seq (.region [
oF 52 0 14,
oL 53 52])
(.block 1 (.seq (.region [
oM 60 1,
oT 61 (.bin .eql (oO 53) (oO 60)),
oM 59 61])
(.cond (oO 59)
(.region [
oM 62 1,
oM 63 2,
oF 64 1 14,
oL 65 64,
oM 66 3,
oT 67 (.build [(.int .i64 0), (.int .i64 0), (.int .u32 0), (.int .u64 0), (.int .i64 0), (.int .i64 0), (.int .i64 0), (.int .i64 0), (.slice none 0 0)] [(0, 1, (.const (.int .i64 2))), (1, 1, (oO 63)), (2, 1, (oO 65)), (3, 1, (oO 66))]),
oX 68 39 [12,62,67]])
(.seq (.region [
oT 70 (.bin .eql (oO 53) (.const (.int .i64 (-1)))),
oM 69 70])
(.cond (oO 69)
(.region [
oM 71 0,
oK 72 3 13,
oM 73 2,
oX 74 40 [71,72,73,12]])
(.region [
oM 54 0,
oK 55 3 13,
oM 56 2,
oK 57 2 14,
oX 58 41 [54,55,56,57,12]]))))))))
(.seq (.region [
oK 75 3 12,
oS 3 10 75,
oI 11 0])
.ret)))))) }
theorem ir15_eq : funcC Try.prog 15 = some ir15 := by kernel_rfl
def ir16 : IFunc :=
{ ntmps := 45, results := [.cell 8 (some 3), .tmp 9], body :=
(.seq (.region [
oT 8 (.box (.const (.agg #[(.slice none 0 0), (.slice none 0 0), (.slice none 0 0)]))),
oI 9 0])
(.seq (.region [
oT 10 (.box (.const (.agg #[(.slice none 0 0), (.slice none 0 0), (.slice none 0 0)])))])
(.seq (.block 0 (.seq (.region [
oM 13 0,
oX 14 30 [13],
oM 12 14])
(.cond (oO 12)
(.seq (.region [
oK 15 3 10,
oS 3 8 15,
oI 9 1])
.ret)
(.seq (.region [
oM 17 0,
oM 18 1,
oX 19 31 [17,18],
oT 20 (.un .not (oO 19)),
oM 21 20,
oP 22 21 false 0,
oP 23 21 false 2,
oG 24 21 false (.call (.const (.func (.func 26) #[] #[])) [(oO 22), (oO 23)]),
oG 25 21 false (.un .not (oO 24)),
oT 26 (.pick (oO 21) (.const (.bool true)) (oO 25)),
oM 16 26])
(.cond (oO 16)
(.seq (.region [
oK 27 3 10,
oS 3 8 27,
oI 9 2])
.ret)
.skip)))))
(.seq (.seq (.region [
oM 28 0,
oM 29 2,
oX 30 32 [28,29],
oT 11 (.box (.const (.agg #[(.int .i64 0), (.int .u32 0)]))),
oS 2 11 30])
(.seq (.region [
oF 31 0 11,
oL 32 31,
oM 33 1,
oT 34 (.bin .eql (oO 32) (oO 33)),
oM 35 34,
oR 36 35 true 1 11,
oQ 37 35 true 36,
oP 38 35 true 3,
oG 39 35 true (.bin .eql (oO 37) (oO 38)),
oT 40 (.pick (oO 35) (oO 39) (.const (.bool false)))])
(.cond (oO 40)
(.region [
oM 41 0,
oM 42 2,
oX 43 38 [41,42,10]])
.skip)))
(.seq (.region [
oK 44 3 10,
oS 3 8 44,
oI 9 0])
.ret))))) }
theorem ir16_eq : funcC Try.prog 16 = some ir16 := by kernel_rfl
def ir17 : IFunc :=
{ ntmps := 29, results := [.tmp 2], body :=
(.seq (.region [
oB 1 0,
oT 2 (.move (.const (.slice none 0 0)))])
(.seq (.region [
oT 3 (.box (.const (.slice none 0 0)))])
(.seq (.seq (.region [
oL 7 1,
oX 8 30 [7]])
(.cond (oO 8)
(.seq (.region [
oT 2 (.move (.const (.slice none 0 0)))])
.ret)
.skip))
(.seq (.seq (.region [
oL 9 1,
oX 10 36 [9]])
(.block 0 (.rangeFunc (.tmp 10) [11]
(.region [
oM 4 11])
(.block 1 (.seq (.region [
oL 13 1,
oC 14 13,
oF 15 3 14,
oL 16 15,
oM 17 4,
oT 18 (.lookup none (.agg #[(.int .i64 0), (.int .u32 0)]) true (oO 16) (oO 17)),
oM 12 18,
oE 19 12 0,
oE 20 12 1,
oT 5 (.box (.const (.agg #[(.int .i64 0), (.int .u32 0)]))),
oS 2 5 19,
oM 6 20])
(.seq (.region [
oM 21 6])
(.cond (oO 21)
(.drawn [
oU 22 (.load none (oO 3)),
oN 23 4,
oU 24 (.load (some 2) (oO 5)),
oH 25 (.call (.const (.func (.func 42) #[] #[])) [(oO 23), (oO 24)]) [1,2] false,
oH 26 (.buildSlice 3 1 [(.int .i64 0), (.int .i64 0), (.slice none 0 0)] [(0, (oO 25))]) [3,1,2] false,
oH 27 (.append 3 40 (oO 22) (oO 26)) [0,4,3,1,2] true,
⟨none, .store 1 (.tmp 3) (.tmp 27), none, [5, 0, 1, 2, 3, 4], true⟩])
.skip)))))))
(.seq (.region [
oL 28 3,
oM 2 28])
.ret))))) }
theorem ir17_eq : funcC Try.prog 17 = some ir17 := by kernel_rfl
def ir19 : IFunc :=
{ ntmps := 56, results := [.tmp 4], body :=
(.seq (.region [
oT 4 (.move (.const (.bool false)))])
(.seq (.seq (.region [
oM 6 0,
oT 7 (.lenSlice (oO 6)),
oM 8 1,
oT 9 (.lenSlice (oO 8)),
oT 10 (.bin .neq (oO 7) (oO 9))])
(.cond (oO 10)
(.seq (.region [
oT 4 (.move (.const (.bool false)))])
.ret)
.skip))
(.seq (.seq (.region [
oI 5 0])
(.block 0 (.loop (.seq (.seq (.region [
oM 11 5,
oM 12 0,
oT 13 (.lenSlice (oO 12)),
oT 14 (.bin .lss (oO 11) (oO 13))])
(.cond (oO 14)
.skip
(.exit 0)))
(.seq (.block 1 (.seq (.drawn [
oN 17 0,
oN 18 5,
oH 19 (.indexAddr 3 (oO 17) (oO 18)) [0,1] false,
oH 20 (.fieldAddr 0 (oO 19)) [2,0,1] false,
oH 21 (.load none (oO 20)) [3,2,0,1] false,
oN 22 1,
oN 23 5,
oH 24 (.indexAddr 3 (oO 22) (oO 23)) [5,6] false,
oH 25 (.fieldAddr 0 (oO 24)) [7,5,6] false,
oH 26 (.load none (oO 25)) [8,7,5,6] false,
oH 27 (.bin .neq (oO 21) (oO 26)) [4,9,3,2,0,1,8,7,5,6] true,
oH 28 (.move (oO 27)) [10,4,9,3,2,0,1,8,7,5,6] true,
oJ 29 28 false (.move (oO 0)) [11,10,4,9,3,2,0,1,8,7,5,6] false,
oJ 30 28 false (.move (oO 5)) [11,10,4,9,3,2,0,1,8,7,5,6] false,
oJ 31 28 false (.indexAddr 3 (oO 29) (oO 30)) [12,13,11,10,4,9,3,2,0,1,8,7,5,6] false,
oJ 32 28 false (.fieldAddr 1 (oO 31)) [14,11,12,13,10,4,9,3,2,0,1,8,7,5,6] false,
oJ 33 28 false (.load none (oO 32)) [15,11,14,12,13,10,4,9,3,2,0,1,8,7,5,6] false,
oJ 34 28 false (.move (oO 1)) [11,10,4,9,3,2,0,1,8,7,5,6] false,
oJ 35 28 false (.move (oO 5)) [11,10,4,9,3,2,0,1,8,7,5,6] false,
oJ 36 28 false (.indexAddr 3 (oO 34) (oO 35)) [17,18,11,10,4,9,3,2,0,1,8,7,5,6] false,
oJ 37 28 false (.fieldAddr 1 (oO 36)) [19,11,17,18,10,4,9,3,2,0,1,8,7,5,6] false,
oJ 38 28 false (.load none (oO 37)) [20,11,19,17,18,10,4,9,3,2,0,1,8,7,5,6] false,
oJ 39 28 false (.bin .neq (oO 33) (oO 38)) [16,21,11,15,14,12,13,10,4,9,3,2,0,1,8,7,5,6,20,19,17,18] true,
oH 40 (.pick (oO 28) (.const (.bool true)) (oO 39)) [11,22,10,4,9,3,2,0,1,8,7,5,6,16,21,15,14,12,13,20,19,17,18] true,
oH 41 (.move (oO 40)) [23,11,22,10,4,9,3,2,0,1,8,7,5,6,16,21,15,14,12,13,20,19,17,18] true,
oJ 42 41 false (.move (oO 0)) [24,23,11,22,10,4,9,3,2,0,1,8,7,5,6,16,21,15,14,12,13,20,19,17,18] false,
oJ 43 41 false (.move (oO 5)) [24,23,11,22,10,4,9,3,2,0,1,8,7,5,6,16,21,15,14,12,13,20,19,17,18] false,
oJ 44 41 false (.indexAddr 3 (oO 42) (oO 43)) [25,26,24,23,11,22,10,4,9,3,2,0,1,8,7,5,6,16,21,15,14,12,13,20,19,17,18] false,
oJ 45 41 false (.fieldAddr 2 (oO 44)) [27,24,25,26,23,11,22,10,4,9,3,2,0,1,8,7,5,6,16,21,15,14,12,13,20,19,17,18] false,
oJ 46 41 false (.load none (oO 45)) [28,24,27,25,26,23,11,22,10,4,9,3,2,0,1,8,7,5,6,16,21,15,14,12,13,20,19,17,18] false,
oJ 47 41 false (.bytesStr (oO 46)) [29,24,28,27,25,26,23,11,22,10,4,9,3,2,0,1,8,7,5,6,16,21,15,14,12,13,20,19,17,18] false,
oJ 48 41 false (.move (oO 1)) [24,23,11,22,10,4,9,3,2,0,1,8,7,5,6,16,21,15,14,12,13,20,19,17,18] false,
oJ 49 41 false (.move (oO 5)) [24,23,11,22,10,4,9,3,2,0,1,8,7,5,6,16,21,15,14,12,13,20,19,17,18] false,
oJ 50 41 false (.indexAddr 3 (oO 48) (oO 49)) [31,32,24,23,11,22,10,4,9,3,2,0,1,8,7,5,6,16,21,15,14,12,13,20,19,17,18] false,
oJ 51 41 false (.fieldAddr 2 (oO 50)) [33,24,31,32,23,11,22,10,4,9,3,2,0,1,8,7,5,6,16,21,15,14,12,13,20,19,17,18] false,
oJ 52 41 false (.load none (oO 51)) [34,24,33,31,32,23,11,22,10,4,9,3,2,0,1,8,7,5,6,16,21,15,14,12,13,20,19,17,18] false,
oJ 53 41 false (.bytesStr (oO 52)) [35,24,34,33,31,32,23,11,22,10,4,9,3,2,0,1,8,7,5,6,16,21,15,14,12,13,20,19,17,18] false,
oJ 54 41 false (.bin .neq (oO 47) (oO 53)) [30,36,24,29,28,27,25,26,23,11,22,10,4,9,3,2,0,1,8,7,5,6,16,21,15,14,12,13,20,19,17,18,35,34,33,31,32] true,
oH 55 (.pick (oO 41) (.const (.bool true)) (oO 54)) [24,37,23,11,22,10,4,9,3,2,0,1,8,7,5,6,16,21,15,14,12,13,20,19,17,18,30,36,29,28,27,25,26,35,34,33,31,32] true])
(.cond (oO 55)
(.seq (.region [
oT 4 (.move (.const (.bool false)))])
.ret)
.skip)))
(.region [
oM 15 5,
oT 16 (.bin .add (oO 15) (.const (.int .i64 1))),
oM 5 16]))))))
(.seq (.region [
oT 4 (.move (.const (.bool true)))])
.ret)))) }
theorem ir19_eq : funcC Try.prog 19 = some ir19 := by kernel_rfl
def ir21 : IFunc :=
{ ntmps := 60, results := [.tmp 6, .tmp 7], body :=
(.seq (.region [
oT 6 (.move (.const (.pointer none))),
oI 7 0])
(.seq (.seq (.region [
oM 10 1,
oT 11 (.bin .lss (oO 10) (.const (.int .i64 1))),
oM 12 11,
oP 13 12 false 1,
oG 14 12 false (.bin .gtr (oO 13) (.const (.int .i64 64))),
oT 15 (.pick (oO 12) (.const (.bool true)) (oO 14)),
oM 16 15,
oP 17 16 false 0,
oG 18 16 false (.bin .lss (oO 17) (.const (.int .i64 0))),
oT 19 (.pick (oO 16) (.const (.bool true)) (oO 18)),
oM 20 19,
oP 21 20 false 0,
oP 22 20 false 1,
oG 23 20 false (.bin .geq (oO 21) (oO 22)),
oT 24 (.pick (oO 20) (.const (.bool true)) (oO 23)),
oM 25 24,
oP 26 25 false 2,
oG 27 25 false (.bin .lss (oO 26) (.const (.int .i64 1))),
oT 28 (.pick (oO 25) (.const (.bool true)) (oO 27)),
oM 29 28,
oP 30 29 false 2,
oG 31 29 false (.bin .gtr (oO 30) (.const (.int .i64 1024))),
oT 32 (.pick (oO 29) (.const (.bool true)) (oO 31))])
(.cond (oO 32)
(.seq (.region [
oT 6 (.move (.const (.pointer none))),
oI 7 2])
.ret)
.skip))
(.seq (.drawn [
oN 33 0,
oN 34 1,
oN 35 2,
oH 36 (.makeSlice 3 40 [(.int .i64 0), (.int .u32 0), (.slice none 0 0)] (oO 35) (oO 35)) [2] false,
oN 37 1,
oH 38 (.makeSlice 1 8 [(.int .i64 0)] (oO 37) (oO 37)) [4] false,
oH 39 (.build [(.int .i64 0), (.int .i64 0), (.slice none 0 0), (.slice none 0 0)] [(0, 1, (oO 33)), (1, 1, (oO 34)), (2, 1, (oO 36)), (3, 1, (oO 38))]) [0,1,3,5,2,4] true,
oH 40 (.box (oO 39)) [6,0,1,3,5,2,4] true,
oH 8 (.move (oO 40)) [7,0,1,2,3,4,5,6] true])
(.seq (.seq (.region [
oI 9 0])
(.block 0 (.loop (.seq (.seq (.region [
oM 41 9,
oM 42 2,
oT 43 (.bin .lss (oO 41) (oO 42))])
(.cond (oO 43)
.skip
(.exit 0)))
(.seq (.block 1 (.region [
oM 46 8,
oC 47 46,
oF 48 2 47,
oL 49 48,
oM 50 9,
oA 51 3 49 50,
oF 52 0 51,
oY (.store 1 (oO 52) (.const (.int .i64 (-1))))]))
(.region [
oM 44 9,
oT 45 (.bin .add (oO 44) (.const (.int .i64 1))),
oM 9 45]))))))
(.seq (.region [
oM 53 8,
oC 54 53,
oF 55 3 54,
oL 56 55,
oM 57 0,
oA 58 1 56 57,
oY (.store 1 (oO 58) (.const (.int .i64 1)))])
(.seq (.region [
oM 59 8,
oM 6 59,
oI 7 0])
.ret)))))) }
theorem ir21_eq : funcC Try.prog 21 = some ir21 := by kernel_rfl
def ir22 : IFunc :=
{ ntmps := 161, results := [.tmp 6], body :=
(.seq (.region [
oB 5 2,
oT 6 (.move (.const (.bool false)))])
(.seq (.seq (.region [
oF 23 0 5,
oL 24 23])
(.block 0 (.seq (.region [
oT 26 (.bin .eql (oO 24) (.const (.int .i64 0))),
oM 25 26])
(.cond (oO 25)
(.seq (.region [
oM 28 0,
oF 29 2 5,
oL 30 29,
oF 31 1 5,
oL 32 31,
oX 33 12 [28,30,32],
oM 27 33,
oE 34 27 0,
oE 35 27 1,
oT 7 (.box (.const (.agg #[(.int .i64 0), (.int .i64 0), (.slice none 0 0)]))),
oS 3 7 34,
oM 8 35])
(.seq (.region [
oM 37 1,
oF 38 2 5,
oL 39 38,
oF 40 1 5,
oL 41 40,
oX 42 45 [37,39,41],
oM 36 42,
oE 43 36 0,
oE 44 36 1,
oT 9 (.box (.const (.agg #[(.int .i64 0), (.int .i64 0), (.slice none 0 0)]))),
oS 3 9 43,
oM 10 44])
(.seq (.region [
oK 45 3 7,
oT 46 (.buildSlice 3 1 [(.int .i64 0), (.int .i64 0), (.slice none 0 0)] [(0, (oO 45))]),
oK 47 3 9,
oT 48 (.buildSlice 3 1 [(.int .i64 0), (.int .i64 0), (.slice none 0 0)] [(0, (oO 47))]),
oX 49 19 [46,48],
oM 50 49,
oP 51 50 true 8,
oP 52 50 true 10,
oG 53 50 true (.bin .eql (oO 51) (oO 52)),
oT 54 (.pick (oO 50) (oO 53) (.const (.bool false))),
oM 6 54])
.ret)))
(.seq (.region [
oT 56 (.bin .eql (oO 24) (.const (.int .i64 1))),
oM 55 56])
(.cond (oO 55)
(.seq (.region [
oM 57 0,
oF 58 1 5,
oL 59 58,
oX 60 13 [57,59]])
(.region [
oM 61 1,
oF 62 1 5,
oL 63 62,
oX 64 46 [61,63]]))
(.seq (.region [
oT 66 (.bin .eql (oO 24) (.const (.int .i64 2))),
oM 65 66])
(.cond (oO 65)
(.seq (.region [
oM 68 0,
oF 69 1 5,
oL 70 69,
oF 71 6 5,
oL 72 71,
oX 73 14 [68,70,72],
oM 67 73,
oE 74 67 0,
oE 75 67 1,
oT 11 (.box (.const (.agg #[(.slice none 0 0), (.slice none 0 0), (.slice none 0 0)]))),
oS 3 11 74,
oM 12 75])
(.seq (.region [
oM 77 1,
oF 78 1 5,
oL 79 78,
oF 80 6 5,
oL 81 80,
oX 82 47 [77,79,81],
oM 76 82,
oE 83 76 0,
oE 84 76 1,
oT 13 (.box (.const (.agg #[(.slice none 0 0), (.slice none 0 0), (.slice none 0 0)]))),
oS 3 13 83,
oM 14 84])
(.seq (.region [
oK 85 3 11,
oK 86 3 13,
oX 87 48 [85,86],
oM 88 87,
oP 89 88 true 12,
oP 90 88 true 14,
oG 91 88 true (.bin .eql (oO 89) (oO 90)),
oT 92 (.pick (oO 88) (oO 91) (.const (.bool false))),
oM 6 92])
.ret)))
(.seq (.region [
oT 94 (.bin .eql (oO 24) (.const (.int .i64 3))),
oM 93 94])
(.cond (oO 93)
(.seq (.region [
oM 96 0,
oF 97 1 5,
oL 98 97,
oF 99 2 5,
oL 100 99,
oF 101 4 5,
oL 102 101,
oF 103 5 5,
oL 104 103,
oX 105 15 [96,98,100,102,104],
oM 95 105,
oE 106 95 0,
oE 107 95 1,
oT 15 (.box (.const (.agg #[(.slice none 0 0), (.slice none 0 0), (.slice none 0 0)]))),
oS 3 15 106,
oM 16 107])
(.seq (.region [
oM 109 1,
oF 110 1 5,
oL 111 110,
oF 112 2 5,
oL 113 112,
oF 114 4 5,
oL 115 114,
oF 116 5 5,
oL 117 116,
oX 118 49 [109,111,113,115,117],
oM 108 118,
oE 119 108 0,
oE 120 108 1,
oT 17 (.box (.const (.agg #[(.slice none 0 0), (.slice none 0 0), (.slice none 0 0)]))),
oS 3 17 119,
oM 18 120])
(.seq (.region [
oK 121 3 15,
oK 122 3 17,
oX 123 48 [121,122],
oM 124 123,
oP 125 124 true 16,
oP 126 124 true 18,
oG 127 124 true (.bin .eql (oO 125) (oO 126)),
oT 128 (.pick (oO 124) (oO 127) (.const (.bool false))),
oM 6 128])
.ret)))
(.seq (.region [
oT 130 (.bin .eql (oO 24) (.const (.int .i64 4))),
oM 129 130])
(.cond (oO 129)
(.seq (.region [
oM 132 0,
oF 133 1 5,
oL 134 133,
oF 135 2 5,
oL 136 135,
oF 137 3 5,
oL 138 137,
oX 139 16 [132,134,136,138],
oM 131 139,
oE 140 131 0,
oE 141 131 1,
oT 19 (.box (.const (.agg #[(.slice none 0 0), (.slice none 0 0), (.slice none 0 0)]))),
oS 3 19 140,
oM 20 141])
(.seq (.region [
oM 143 1,
oF 144 1 5,
oL 145 144,
oF 146 2 5,
oL 147 146,
oF 148 3 5,
oL 149 148,
oX 150 50 [143,145,147,149],
oM 142 150,
oE 151 142 0,
oE 152 142 1,
oT 21 (.box (.const (.agg #[(.slice none 0 0), (.slice none 0 0), (.slice none 0 0)]))),
oS 3 21 151,
oM 22 152])
(.seq (.region [
oK 153 3 19,
oK 154 3 21,
oX 155 48 [153,154],
oM 156 155,
oP 157 156 true 20,
oP 158 156 true 22,
oG 159 156 true (.bin .eql (oO 157) (oO 158)),
oT 160 (.pick (oO 156) (oO 159) (.const (.bool false))),
oM 6 160])
.ret)))
.skip))))))))))))
(.seq (.region [
oT 6 (.move (.const (.bool true)))])
.ret))) }
theorem ir22_eq : funcC Try.prog 22 = some ir22 := by kernel_rfl
def ir25 : IFunc :=
{ ntmps := 18, results := [.tmp 4, .tmp 5], body :=
(.seq (.region [
oI 4 0,
oT 5 (.move (.const (.int .u32 0)))])
(.seq (.seq (.region [
oM 7 0,
oM 8 1,
oX 9 26 [7,8],
oT 10 (.un .not (oO 9))])
(.cond (oO 10)
(.seq (.region [
oI 4 (-1),
oT 5 (.move (.const (.int .u32 0)))])
.ret)
.skip))
(.seq (.region [
oM 11 0,
oM 12 1,
oX 13 32 [11,12],
oT 6 (.box (.const (.agg #[(.int .i64 0), (.int .u32 0)]))),
oS 2 6 13])
(.seq (.drawn [
oU 14 (.fieldAddr 0 (oO 6)),
oH 15 (.load none (oO 14)) [0] false,
oU 16 (.fieldAddr 1 (oO 6)),
oH 17 (.load none (oO 16)) [2] false,
oH 4 (.move (oO 15)) [1,0] false,
oH 5 (.move (oO 17)) [3,4,0,1,2] true])
.ret)))) }
theorem ir25_eq : funcC Try.prog 25 = some ir25 := by kernel_rfl
def ir26 : IFunc :=
{ ntmps := 33, results := [.tmp 4], body :=
(.seq (.region [
oT 4 (.move (.const (.bool false)))])
(.seq (.drawn [
oM 5 0,
oH 6 (.call (.const (.func (.func 30) #[] #[])) [(oO 5)]) [0] true,
oH 7 (.un .not (oO 6)) [1,0] true,
oH 8 (.move (oO 7)) [2,1,0] true,
oJ 9 8 true (.move (oO 1)) [3,2,1,0] true,
oJ 10 8 true (.bin .geq (oO 9) (.const (.int .i64 0))) [4,3,2,1,0] true,
oH 11 (.pick (oO 8) (oO 10) (.const (.bool false))) [3,5,2,1,0,4] true,
oH 12 (.move (oO 11)) [6,3,5,2,1,0,4] true,
oJ 13 12 true (.move (oO 1)) [7,6,3,5,2,1,0,4] false,
oJ 14 12 true (.move (oO 0)) [7,6,3,5,2,1,0,4] true,
oJ 15 12 true (.nilCheck (oO 14)) [9,7,6,3,5,2,1,0,4] true,
oJ 16 12 true (.fieldAddr 2 (oO 15)) [10,7,9,6,3,5,2,1,0,4] true,
oJ 17 12 true (.load none (oO 16)) [11,7,10,9,6,3,5,2,1,0,4] true,
oJ 18 12 true (.bin .lss (oO 13) (oO 17)) [8,12,7,6,3,5,2,1,0,4,11,10,9] true,
oH 19 (.pick (oO 12) (oO 18) (.const (.bool false))) [7,13,6,3,5,2,1,0,4,8,12,11,10,9] true,
oH 20 (.move (oO 19)) [14,7,13,6,3,5,2,1,0,4,8,12,11,10,9] true,
oJ 21 20 true (.move (oO 1)) [15,14,7,13,6,3,5,2,1,0,4,8,12,11,10,9] false,
oJ 22 20 true (.move (oO 0)) [15,14,7,13,6,3,5,2,1,0,4,8,12,11,10,9] false,
oJ 23 20 true (.nilCheck (oO 22)) [17,15,14,7,13,6,3,5,2,1,0,4,8,12,11,10,9] false,
oJ 24 20 true (.fieldAddr 1 (oO 23)) [18,15,17,14,7,13,6,3,5,2,1,0,4,8,12,11,10,9] false,
oJ 25 20 true (.load none (oO 24)) [19,15,18,17,14,7,13,6,3,5,2,1,0,4,8,12,11,10,9] false,
oJ 26 20 true (.bin .rem (oO 21) (oO 25)) [16,20,15,14,7,13,6,3,5,2,1,0,4,8,12,11,10,9,19,18,17] false,
oJ 27 20 true (.move (oO 0)) [15,14,7,13,6,3,5,2,1,0,4,8,12,11,10,9] false,
oJ 28 20 true (.nilCheck (oO 27)) [22,15,14,7,13,6,3,5,2,1,0,4,8,12,11,10,9] false,
oJ 29 20 true (.fieldAddr 0 (oO 28)) [23,15,22,14,7,13,6,3,5,2,1,0,4,8,12,11,10,9] false,
oJ 30 20 true (.load none (oO 29)) [24,15,23,22,14,7,13,6,3,5,2,1,0,4,8,12,11,10,9] false,
oJ 31 20 true (.bin .eql (oO 26) (oO 30)) [21,25,15,16,20,14,7,13,6,3,5,2,1,0,4,8,12,11,10,9,19,18,17,24,23,22] true,
oH 32 (.pick (oO 20) (oO 31) (.const (.bool false))) [15,26,14,7,13,6,3,5,2,1,0,4,8,12,11,10,9,21,25,16,20,19,18,17,24,23,22] true,
oH 4 (.move (oO 32)) [27,15,0,1,2,3,4,5,6,7,8,9,10,11,12,13,14,16,17,18,19,20,21,22,23,24,25,26] true])
.ret)) }
theorem ir26_eq : funcC Try.prog 26 = some ir26 := by kernel_rfl
def ir27 : IFunc :=
{ ntmps := 10, results := [.tmp 0], body :=
(.seq (.region [
oT 0 (.move (.const (.pointer none)))])
(.seq (.region [
oT 4 (.call (.const (.func (.func 11) #[] #[])) [(.const (.int .i64 0)), (.const (.int .i64 2)), (.const (.int .i64 4))]),
oM 3 4,
oE 5 3 0,
oE 6 3 1,
oM 1 5,
oM 2 6])
(.seq (.region [
oM 7 1,
oT 8 (.call (.const (.func (.func 14) #[] #[])) [(oO 7), (.const (.int .i64 1)), (.const (.slice none 0 0))])])
(.seq (.region [
oM 9 1,
oM 0 9])
.ret)))) }
theorem ir27_eq : funcC Try.prog 27 = some ir27 := by kernel_rfl
def ir28 : IFunc :=
{ ntmps := 17, results := [.tmp 4], body :=
(.seq (.region [
oT 4 (.move (.const (.bool false)))])
(.seq (.region [
oM 5 0,
oM 6 1,
oX 7 31 [5,6],
oM 8 7,
oP 9 8 true 0,
oG 10 8 true (.nilCheck (oO 9)),
oR 11 8 true 5 10,
oQ 12 8 true 11,
oP 13 8 true 1,
oG 14 8 true (.lookup none (.int .i64 0) false (oO 12) (oO 13)),
oG 15 8 true (.bin .gtr (oO 14) (.const (.int .i64 0))),
oT 16 (.pick (oO 8) (oO 15) (.const (.bool false))),
oM 4 16])
.ret)) }
theorem ir28_eq : funcC Try.prog 28 = some ir28 := by kernel_rfl
def ir29 : IFunc :=
{ ntmps := 87, results := [.tmp 4], body :=
(.seq (.region [
oB 2 0,
oB 3 1,
oT 4 (.move (.const (.bool false)))])
(.seq (.seq (.region [
oF 6 0 2,
oL 7 6,
oF 8 0 3,
oL 9 8,
oT 10 (.bin .neq (oO 7) (oO 9)),
oM 11 10,
oR 12 11 false 1 2,
oQ 13 11 false 12,
oR 14 11 false 1 3,
oQ 15 11 false 14,
oG 16 11 false (.bin .neq (oO 13) (oO 15)),
oT 17 (.pick (oO 11) (.const (.bool true)) (oO 16)),
oM 18 17,
oR 19 18 false 2 2,
oQ 20 18 false 19,
oR 21 18 false 2 3,
oQ 22 18 false 21,
oG 23 18 false (.bin .neq (oO 20) (oO 22)),
oT 24 (.pick (oO 18) (.const (.bool true)) (oO 23)),
oM 25 24,
oR 26 25 false 3 2,
oQ 27 25 false 26,
oR 28 25 false 3 3,
oQ 29 25 false 28,
oG 30 25 false (.bin .neq (oO 27) (oO 29)),
oT 31 (.pick (oO 25) (.const (.bool true)) (oO 30)),
oM 32 31,
oR 33 32 false 4 2,
oQ 34 32 false 33,
oR 35 32 false 4 3,
oQ 36 32 false 35,
oG 37 32 false (.bin .neq (oO 34) (oO 36)),
oT 38 (.pick (oO 32) (.const (.bool true)) (oO 37)),
oM 39 38,
oR 40 39 false 5 2,
oQ 41 39 false 40,
oR 42 39 false 5 3,
oQ 43 39 false 42,
oG 44 39 false (.bin .neq (oO 41) (oO 43)),
oT 45 (.pick (oO 39) (.const (.bool true)) (oO 44)),
oM 46 45,
oR 47 46 false 6 2,
oQ 48 46 false 47,
oR 49 46 false 6 3,
oQ 50 46 false 49,
oG 51 46 false (.bin .neq (oO 48) (oO 50)),
oT 52 (.pick (oO 46) (.const (.bool true)) (oO 51)),
oM 53 52,
oR 54 53 false 7 2,
oQ 55 53 false 54,
oR 56 53 false 7 3,
oQ 57 53 false 56,
oG 58 53 false (.bin .neq (oO 55) (oO 57)),
oT 59 (.pick (oO 53) (.const (.bool true)) (oO 58)),
oM 60 59,
oR 61 60 false 8 2,
oQ 62 60 false 61,
oG 63 60 false (.lenSlice (oO 62)),
oR 64 60 false 8 3,
oQ 65 60 false 64,
oG 66 60 false (.lenSlice (oO 65)),
oG 67 60 false (.bin .neq (oO 63) (oO 66)),
oT 68 (.pick (oO 60) (.const (.bool true)) (oO 67))])
(.cond (oO 68)
(.seq (.region [
oT 4 (.move (.const (.bool false)))])
.ret)
.skip))
(.seq (.seq (.region [
oI 5 0])
(.block 0 (.loop (.seq (.seq (.region [
oM 69 5,
oF 70 8 2,
oL 71 70,
oT 72 (.lenSlice (oO 71)),
oT 73 (.bin .lss (oO 69) (oO 72))])
(.cond (oO 73)
.skip
(.exit 0)))
(.seq (.block 1 (.seq (.drawn [
oU 76 (.fieldAddr 8 (oO 2)),
oH 77 (.load none (oO 76)) [0] false,
oN 78 5,
oH 79 (.indexAddr 2 (oO 77) (oO 78)) [1,2,0] false,
oH 80 (.load (some 2) (oO 79)) [3,1,2,0] false,
oU 81 (.fieldAddr 8 (oO 3)),
oH 82 (.load none (oO 81)) [5] false,
oN 83 5,
oH 84 (.indexAddr 2 (oO 82) (oO 83)) [6,7,5] false,
oH 85 (.load (some 2) (oO 84)) [8,6,7,5] false,
oH 86 (.eqAgg true [.int, .int] (oO 80) (oO 85)) [4,9,3,1,2,0,8,6,7,5] true])
(.cond (oO 86)
(.seq (.region [
oT 4 (.move (.const (.bool false)))])
.ret)
.skip)))
(.region [
oM 74 5,
oT 75 (.bin .add (oO 74) (.const (.int .i64 1))),
oM 5 75]))))))
(.seq (.region [
oT 4 (.move (.const (.bool true)))])
.ret)))) }
theorem ir29_eq : funcC Try.prog 29 = some ir29 := by kernel_rfl
def ir30 : IFunc :=
{ ntmps := 12, results := [.tmp 2], body :=
(.seq (.region [
oT 2 (.move (.const (.bool false)))])
(.seq (.region [
oM 3 0,
oT 4 (.eqPtr false (oO 3) (.const (.pointer none))),
oM 5 4,
oP 6 5 false 0,
oG 7 5 false (.nilCheck (oO 6)),
oR 8 5 false 1 7,
oQ 9 5 false 8,
oG 10 5 false (.bin .eql (oO 9) (.const (.int .i64 0))),
oT 11 (.pick (oO 5) (.const (.bool true)) (oO 10)),
oM 2 11])
.ret)) }
theorem ir30_eq : funcC Try.prog 30 = some ir30 := by kernel_rfl
def ir31 : IFunc :=
{ ntmps := 20, results := [.tmp 4], body :=
(.seq (.region [
oT 4 (.move (.const (.bool false)))])
(.seq (.region [
oM 5 0,
oX 6 30 [5],
oT 7 (.un .not (oO 6)),
oM 8 7,
oP 9 8 true 1,
oG 10 8 true (.bin .geq (oO 9) (.const (.int .i64 0))),
oT 11 (.pick (oO 8) (oO 10) (.const (.bool false))),
oM 12 11,
oP 13 12 true 1,
oP 14 12 true 0,
oG 15 12 true (.nilCheck (oO 14)),
oR 16 12 true 1 15,
oQ 17 12 true 16,
oG 18 12 true (.bin .lss (oO 13) (oO 17)),
oT 19 (.pick (oO 12) (oO 18) (.const (.bool false))),
oM 4 19])
.ret)) }
theorem ir31_eq : funcC Try.prog 31 = some ir31 := by kernel_rfl
def ir32 : IFunc :=
{ ntmps := 19, results := [.cell 4 (some 2)], body :=
(.seq (.region [
oT 4 (.box (.const (.agg #[(.int .i64 0), (.int .u32 0)])))])
(.seq (.seq (.region [
oM 8 0,
oC 9 8,
oF 10 3 9,
oL 11 10,
oM 12 1,
oT 13 (.lookup none (.agg #[(.int .i64 0), (.int .u32 0)]) true (oO 11) (oO 12)),
oM 7 13,
oE 14 7 0,
oE 15 7 1,
oT 5 (.box (.const (.agg #[(.int .i64 0), (.int .u32 0)]))),
oS 2 5 14,
oM 6 15])
(.seq (.region [
oM 16 6])
(.cond (oO 16)
(.seq (.region [
oK 17 2 5,
oS 2 4 17])
.ret)
.skip)))
(.seq (.region [
oX 18 33 [],
oS 2 4 18])
.ret))) }
theorem ir32_eq : funcC Try.prog 32 = some ir32 := by kernel_rfl
def ir33 : IFunc :=
{ ntmps := 2, results := [.cell 0 (some 2)], body :=
(.seq (.region [
oT 0 (.box (.const (.agg #[(.int .i64 0), (.int .u32 0)])))])
(.seq (.region [
oT 1 (.build [(.int .i64 0), (.int .u32 0)] [(0, 1, (.const (.int .i64 (-1))))]),
oS 2 0 1])
.ret)) }
theorem ir33_eq : funcC Try.prog 33 = some ir33 := by kernel_rfl
def ir34 : IFunc :=
{ ntmps := 34, results := [], body :=
(.seq (.region [
oB 6 2])
(.seq (.drawn [
oN 8 0,
oH 9 (.nilCheck (oO 8)) [0] false,
oH 10 (.fieldAddr 3 (oO 9)) [1,0] false,
oH 11 (.load none (oO 10)) [2,1,0] false,
oN 12 1,
oU 13 (.load (some 2) (oO 6)),
⟨none, .mapUpdate none (.tmp 11) (.tmp 12) (.tmp 13), none, [3, 4, 5, 0, 1, 2], true⟩])
(.seq (.seq (.drawn [
oU 14 (.load (some 2) (oO 6)),
oU 15 (.call (.const (.func (.func 33) #[] #[])) []),
oH 16 (.eqAgg false [.int, .int] (oO 14) (oO 15)) [0,1] true])
(.cond (oO 16)
(.region [
oM 17 0,
oC 18 17,
oF 19 3 18,
oL 20 19,
oM 21 1,
oY (.delete none (oO 20) (oO 21))])
.skip))
(.drawn [
oN 22 3,
oN 23 3,
oH 24 (.nilCheck (oO 23)) [1] false,
oH 25 (.fieldAddr 0 (oO 24)) [2,1] false,
oH 26 (.load none (oO 25)) [3,2,1] false,
oN 27 1,
oU 28 (.load (some 2) (oO 6)),
oH 29 (.call (.const (.func (.func 42) #[] #[])) [(oO 27), (oO 28)]) [5,6] false,
oH 30 (.buildSlice 3 1 [(.int .i64 0), (.int .i64 0), (.slice none 0 0)] [(0, (oO 29))]) [7,5,6] false,
oH 31 (.append 3 40 (oO 26) (oO 30)) [4,8,7,3,2,1,5,6] true,
oH 32 (.nilCheck (oO 22)) [0,1,2,3,4,5,6,7,8,9] true,
oH 33 (.fieldAddr 0 (oO 32)) [10,0,1,2,3,4,5,6,7,8,9] true,
⟨none, .store 1 (.tmp 33) (.tmp 31), none, [11, 9, 0, 1, 2, 3, 4, 5, 6, 7, 8, 10], true⟩])))) }
theorem ir34_eq : funcC Try.prog 34 = some ir34 := by kernel_rfl
def ir35 : IFunc :=
{ ntmps := 16, results := [], body :=
(.seq (.region [
oB 2 0,
oB 3 1])
(.seq (.region [
oL 5 2,
oX 6 36 [5]])
(.block 0 (.rangeFunc (.tmp 6) [7]
(.region [
oM 4 7])
(.block 1 (.drawn [
oU 8 (.load none (oO 2)),
oH 9 (.nilCheck (oO 8)) [0] false,
oH 10 (.fieldAddr 4 (oO 9)) [1,0] false,
oH 11 (.load none (oO 10)) [2,1,0] false,
oN 12 4,
oH 13 (.lookup none (.pointer none) false (oO 11) (oO 12)) [3,4,2,1,0] false,
oU 14 (.load none (oO 3)),
oH 15 (.call (.const (.func (.func 54) #[] #[])) [(oO 13), (oO 14)]) [5,6,3,4,2,1,0] true])))))) }
theorem ir35_eq : funcC Try.prog 35 = some ir35 := by kernel_rfl
def ir36 : IFunc :=
{ ntmps := 4, results := [.tmp 2], body :=
(.seq (.region [
oB 1 0,
oT 2 (.move (.const .nilFunc))])
(.seq (.region [
oT 3 (.func (.func 55) [] [(oO 1)]),
oM 2 3])
.ret)) }
theorem ir36_eq : funcC Try.prog 36 = some ir36 := by kernel_rfl
def ir37 : IFunc :=
{ ntmps := 9, results := [.tmp 4], body :=
(.seq (.region [
oB 3 1,
oT 4 (.move (.const (.bool false)))])
(.seq (.region [
oM 5 0,
oK 6 2 3,
oX 7 56 [5,6],
oT 8 (.bin .geq (oO 7) (.const (.int .i64 0))),
oM 4 8])
.ret)) }
theorem ir37_eq : funcC Try.prog 37 = some ir37 := by kernel_rfl
def ir38 : IFunc :=
{ ntmps := 45, results := [], body :=
(.seq (.region [
oM 9 0,
oM 10 1,
oM 11 0,
oM 12 1,
oX 13 32 [11,12],
oT 14 (.field 1 none (oO 13)),
oT 15 (.build [(.int .i64 0), (.int .u32 0)] [(0, 1, (.const (.int .i64 (-1)))), (1, 1, (oO 14))]),
oM 16 2,
oX 17 34 [9,10,15,16]])
(.seq (.region [
oM 18 0,
oC 19 18,
oF 20 4 19,
oL 21 20,
oM 22 1,
oT 23 (.lookup none (.pointer none) false (oO 21) (oO 22)),
oM 6 23])
(.seq (.region [
oM 25 6,
oX 26 57 [25],
oM 24 26,
oE 27 24 0,
oE 28 24 1,
oT 7 (.box (.const (.agg #[(.int .i64 0), (.int .u64 0), (.int .i64 0)]))),
oS 3 7 27,
oM 8 28])
(.block 0 (.loop (.seq (.seq (.region [
oM 29 8])
(.cond (oO 29)
.skip
(.exit 0)))
(.seq (.block 1 (.seq (.region [
oM 35 6,
oF 36 0 7,
oL 37 36,
oX 38 54 [35,37]])
(.seq (.region [
oM 39 0,
oK 40 3 7,
oM 41 1,
oM 42 2,
oX 43 40 [39,40,41,42]])
(.cond (oO 43)
.ret
.skip))))
(.seq (.seq (.region [
oK 44 3 7])
(.region [
oT 7 (.box (.const (.agg #[(.int .i64 0), (.int .u64 0), (.int .i64 0)]))),
oS 3 7 44]))
(.region [
oM 31 6,
oX 32 57 [31],
oM 30 32,
oE 33 30 0,
oE 34 30 1,
oS 3 7 33,
oM 8 34]))))))))) }
theorem ir38_eq : funcC Try.prog 38 = some ir38 := by kernel_rfl
def ir39 : IFunc :=
{ ntmps := 32, results := [], body :=
(.seq (.region [
oB 5 2])
(.seq (.drawn [
oN 6 0,
oN 7 0,
oH 8 (.nilCheck (oO 7)) [1] false,
oH 9 (.fieldAddr 1 (oO 8)) [2,1] false,
oH 10 (.load none (oO 9)) [3,2,1] false,
oN 11 1,
oU 12 (.load (some 9) (oO 5)),
oH 13 (.build [(.int .i64 0), (.int .i64 0), (.int .i64 0), (.int .u32 0), (.int .u64 0), (.int .i64 0), (.int .i64 0), (.int .i64 0), (.int .i64 0), (.slice none 0 0)] [(0, 1, (oO 11)), (1, 9, (oO 12))]) [5,6] false,
oH 14 (.buildSlice 10 1 [(.int .i64 0), (.int .i64 0), (.int .i64 0), (.int .u32 0), (.int .u64 0), (.int .i64 0), (.int .i64 0), (.int .i64 0), (.int .i64 0), (.slice none 0 0)] [(0, (oO 13))]) [7,5,6] false,
oH 15 (.append 10 96 (oO 10) (oO 14)) [4,8,3,2,1,7,5,6] true,
oH 16 (.nilCheck (oO 6)) [0,1,2,3,4,5,6,7,8,9] true,
oH 17 (.fieldAddr 1 (oO 16)) [10,0,1,2,3,4,5,6,7,8,9] true,
⟨none, .store 1 (.tmp 17) (.tmp 15), none, [11, 9, 0, 1, 2, 3, 4, 5, 6, 7, 8, 10], true⟩])
(.drawn [
oN 18 0,
oN 19 0,
oH 20 (.nilCheck (oO 19)) [1] false,
oH 21 (.fieldAddr 2 (oO 20)) [2,1] false,
oH 22 (.load none (oO 21)) [3,2,1] false,
oN 23 0,
oH 24 (.nilCheck (oO 23)) [5] false,
oH 25 (.fieldAddr 0 (oO 24)) [6,5] false,
oH 26 (.load none (oO 25)) [7,6,5] false,
oH 27 (.lenSlice (oO 26)) [8,7,6,5] false,
oH 28 (.buildSlice 1 1 [(.int .i64 0)] [(0, (oO 27))]) [9,8,7,6,5] false,
oH 29 (.append 1 8 (oO 22) (oO 28)) [4,10,3,2,1,9,8,7,6,5] true,
oH 30 (.nilCheck (oO 18)) [0,1,2,3,4,5,6,7,8,9,10,11] true,
oH 31 (.fieldAddr 2 (oO 30)) [12,0,1,2,3,4,5,6,7,8,9,10,11] true,
⟨none, .store 1 (.tmp 31) (.tmp 29), none, [13, 11, 0, 1, 2, 3, 4, 5, 6, 7, 8, 9, 10, 12], true⟩]))) }
theorem ir39_eq : funcC Try.prog 39 = some ir39 := by kernel_rfl
def ir40 : IFunc :=
{ ntmps := 45, results := [.tmp 8], body :=
(.seq (.region [
oB 5 1,
oT 8 (.move (.const (.bool false)))])
(.seq (.region [
oM 10 0,
oM 11 2,
oX 12 32 [10,11],
oT 9 (.box (.const (.agg #[(.int .i64 0), (.int .u32 0)]))),
oS 2 9 12])
(.seq (.seq (.region [
oF 13 1 9,
oL 14 13,
oT 15 (.bin .eql (oO 14) (.const (.int .u32 4294967295)))])
(.cond (oO 15)
(.seq (.region [
oM 16 3,
oF 17 0 5,
oL 18 17,
oM 19 2,
oF 20 1 5,
oL 21 20,
oT 22 (.build [(.int .i64 0), (.int .i64 0), (.int .u32 0), (.int .u64 0), (.int .i64 0), (.int .i64 0), (.int .i64 0), (.int .i64 0), (.slice none 0 0)] [(0, 1, (.const (.int .i64 5))), (1, 1, (oO 19)), (3, 1, (oO 21)), (7, 1, (.const (.int .i64 (-1))))]),
oX 23 39 [16,18,22]])
(.seq (.region [
oT 8 (.move (.const (.bool false)))])
.ret))
.skip))
(.seq (.region [
oF 24 0 5,
oL 25 24,
oF 26 1 9,
oL 27 26,
oT 28 (.bin .add (oO 27) (.const (.int .u32 1))),
oT 29 (.build [(.int .i64 0), (.int .u32 0)] [(0, 1, (oO 25)), (1, 1, (oO 28))]),
oS 2 9 29])
(.seq (.region [
oM 30 0,
oM 31 2,
oK 32 2 9,
oM 33 3,
oX 34 34 [30,31,32,33]])
(.seq (.region [
oM 35 3,
oF 36 0 5,
oL 37 36,
oM 38 2,
oF 39 1 9,
oL 40 39,
oF 41 1 5,
oL 42 41,
oT 43 (.build [(.int .i64 0), (.int .i64 0), (.int .u32 0), (.int .u64 0), (.int .i64 0), (.int .i64 0), (.int .i64 0), (.int .i64 0), (.slice none 0 0)] [(0, 1, (.const (.int .i64 2))), (1, 1, (oO 38)), (2, 1, (oO 40)), (3, 1, (oO 42))]),
oX 44 39 [35,37,43]])
(.seq (.region [
oT 8 (.move (.const (.bool true)))])
.ret))))))) }
theorem ir40_eq : funcC Try.prog 40 = some ir40 := by kernel_rfl
def ir41 : IFunc :=
{ ntmps := 78, results := [], body :=
(.seq (.region [
oB 6 1,
oB 8 3])
(.seq (.region [
oM 16 0,
oC 17 16,
oF 18 4 17,
oL 19 18,
oM 20 2,
oT 21 (.lookup none (.pointer none) false (oO 19) (oO 20)),
oM 10 21])
(.seq (.seq (.region [
oM 22 10,
oT 23 (.eqPtr false (oO 22) (.const (.pointer none)))])
(.cond (oO 23)
(.seq (.region [
oT 24 (.build [(.slice none 0 0)] []),
oB 25 24,
oM 10 25])
(.region [
oM 26 0,
oC 27 26,
oF 28 4 27,
oL 29 28,
oM 30 2,
oM 31 10,
oY (.mapUpdate none (oO 29) (oO 30) (oO 31))]))
.skip))
(.seq (.region [
oM 32 2,
oF 33 1 6,
oL 34 33,
oT 35 (.build [(.int .i64 0), (.int .i64 0), (.int .u32 0), (.int .u64 0), (.int .i64 0), (.int .i64 0), (.int .i64 0), (.int .i64 0), (.slice none 0 0)] [(0, 1, (.const (.int .i64 5))), (1, 1, (oO 32)), (3, 1, (oO 34)), (7, 1, (.const (.int .i64 (-1))))]),
oT 11 (.box (.const (.agg #[(.int .i64 0), (.int .i64 0), (.int .u32 0), (.int .u64 0), (.int .i64 0), (.int .i64 0), (.int .i64 0), (.int .i64 0), (.slice none 0 0)]))),
oS 9 11 35])
(.seq (.seq (.region [
oM 37 10,
oK 38 3 6,
oX 39 58 [37,38],
oM 36 39,
oE 40 36 0,
oE 41 36 1,
oM 12 40,
oM 13 41])
(.seq (.region [
oM 42 12,
oT 43 (.un .not (oO 42))])
(.cond (oO 43)
(.seq (.region [
oM 44 4,
oF 45 0 6,
oL 46 45,
oK 47 9 11,
oX 48 39 [44,46,47]])
.ret)
.skip)))
(.seq (.region [
oF 49 0 8,
oL 50 49,
oF 51 7 11,
oS 1 51 50])
(.seq (.region [
oM 52 4,
oF 53 0 6,
oL 54 53,
oK 55 9 11,
oX 56 39 [52,54,55]])
(.seq (.region [
oM 58 10,
oX 59 57 [58],
oM 57 59,
oE 60 57 0,
oE 61 57 1,
oT 14 (.box (.const (.agg #[(.int .i64 0), (.int .u64 0), (.int .i64 0)]))),
oS 3 14 60,
oM 15 61])
(.seq (.region [
oM 62 4,
oF 63 0 8,
oL 64 63,
oM 65 2,
oF 66 2 14,
oL 67 66,
oT 68 (.build [(.int .i64 0), (.int .i64 0), (.int .u32 0), (.int .u64 0), (.int .i64 0), (.int .i64 0), (.int .i64 0), (.int .i64 0), (.slice none 0 0)] [(0, 1, (.const (.int .i64 8))), (1, 1, (oO 65)), (4, 1, (oO 67))]),
oX 69 39 [62,64,68]])
(.region [
oM 70 4,
oF 71 0 8,
oL 72 71,
oM 73 2,
oF 74 1 8,
oL 75 74,
oT 76 (.build [(.int .i64 0), (.int .i64 0), (.int .u32 0), (.int .u64 0), (.int .i64 0), (.int .i64 0), (.int .i64 0), (.int .i64 0), (.slice none 0 0)] [(0, 1, (.const (.int .i64 10))), (1, 1, (oO 73)), (2, 1, (oO 75))]),
oX 77 39 [70,72,76]])))))))))) }
theorem ir41_eq : funcC Try.prog 41 = some ir41 := by kernel_rfl
def ir42 : IFunc :=
{ ntmps := 32, results := [.cell 4 (some 3)], body :=
(.seq (.region [
oB 3 1,
oT 4 (.box (.const (.agg #[(.int .i64 0), (.int .i64 0), (.slice none 0 0)])))])
(.seq (.region [
oM 6 0,
oT 7 (.build [(.int .i64 0), (.int .i64 0), (.slice none 0 0)] [(0, 1, (.const (.int .i64 3))), (1, 1, (oO 6))]),
oT 5 (.box (.const (.agg #[(.int .i64 0), (.int .i64 0), (.slice none 0 0)]))),
oS 3 5 7])
(.seq (.seq (.drawn [
oU 8 (.load (some 2) (oO 3)),
oU 9 (.call (.const (.func (.func 33) #[] #[])) []),
oH 10 (.eqAgg true [.int, .int] (oO 8) (oO 9)) [0,1] true])
(.cond (oO 10)
(.region [
oF 11 0 3,
oL 12 11,
oT 13 (.conv .u8 (oO 12)),
oF 14 1 3,
oL 15 14,
oT 16 (.bin .shr (oO 15) (.const (.int .u64 24))),
oT 17 (.conv .u8 (oO 16)),
oF 18 1 3,
oL 19 18,
oT 20 (.bin .shr (oO 19) (.const (.int .u64 16))),
oT 21 (.conv .u8 (oO 20)),
oF 22 1 3,
oL 23 22,
oT 24 (.bin .shr (oO 23) (.const (.int .u64 8))),
oT 25 (.conv .u8 (oO 24)),
oF 26 1 3,
oL 27 26,
oT 28 (.conv .u8 (oO 27)),
oT 29 (.buildSlice 1 5 [(.int .u8 0)] [(0, (oO 13)), (1, (oO 17)), (2, (oO 21)), (3, (oO 25)), (4, (oO 28))]),
oF 30 2 5,
oS 1 30 29])
.skip))
(.seq (.region [
oK 31 3 5,
oS 3 4 31])
.ret)))) }
theorem ir42_eq : funcC Try.prog 42 = some ir42 := by kernel_rfl
end Go.Proofs.Ytmpnldmdchchjaa
