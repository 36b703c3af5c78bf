import Derived.Test.YtmpnldmdchchjaaChecked
import Derived.Test.YtmpnldmdchchjaaFa
import Derived.KernelRfl
namespace Go.Proofs.Ytmpnldmdchchjaa
open Go Go.Ideal
def ir4 : IFunc :=
{ ntmps := 126, results := [.tmp 6], body :=
(.seq (.region [
oB 3 0,
oT 6 (.move (.const (.bool false)))])
(.seq (.seq (.region [
oM 17 2,
oX 18 10 [17],
oT 19 (.bin .gtr (oO 18) (.const (.int .i64 0))),
oM 20 19,
oP 21 20 false 1,
oG 22 20 false (.lenSlice (oO 21)),
oG 23 20 false (.bin .gtr (oO 22) (.const (.int .i64 100))),
oT 24 (.pick (oO 20) (.const (.bool true)) (oO 23))])
(.cond (oO 24)
(.seq (.region [
oT 6 (.move (.const (.bool true)))])
.ret)
.skip))
(.seq (.region [
oF 26 0 3,
oL 27 26,
oF 28 1 3,
oL 29 28,
oF 30 2 3,
oL 31 30,
oM 32 1,
oX 33 18 [27,29,31,32],
oM 25 33,
oE 34 25 0,
oE 35 25 1,
oM 7 34,
oM 8 35])
(.seq (.region [
oF 37 0 3,
oL 38 37,
oF 39 1 3,
oL 40 39,
oF 41 2 3,
oL 42 41,
oM 43 1,
oX 44 20 [38,40,42,43],
oM 36 44,
oE 45 36 0,
oE 46 36 1,
oM 9 45,
oM 10 46])
(.seq (.region [
oF 48 0 3,
oL 49 48,
oF 50 1 3,
oL 51 50,
oF 52 2 3,
oL 53 52,
oX 54 11 [49,51,53],
oM 47 54,
oE 55 47 0,
oE 56 47 1,
oM 11 55,
oM 12 56])
(.seq (.region [
oF 58 0 3,
oL 59 58,
oF 60 1 3,
oL 61 60,
oF 62 2 3,
oL 63 62,
oX 64 21 [59,61,63],
oM 57 64,
oE 65 57 0,
oE 66 57 1,
oM 13 65,
oM 14 66])
(.seq (.seq (.region [
oM 67 8,
oM 68 10,
oT 69 (.bin .neq (oO 67) (oO 68)),
oM 70 69,
oP 71 70 false 12,
oP 72 70 false 14,
oG 73 70 false (.bin .neq (oO 71) (oO 72)),
oT 74 (.pick (oO 70) (.const (.bool true)) (oO 73)),
oM 75 74,
oP 76 75 false 7,
oG 77 75 false (.eqPtr false (oO 76) (.const (.pointer none))),
oP 78 75 false 10,
oG 79 75 false (.bin .neq (oO 78) (.const (.int .i64 0))),
oG 80 75 false (.eqBool true (oO 77) (oO 79)),
oT 81 (.pick (oO 75) (.const (.bool true)) (oO 80)),
oM 82 81,
oP 83 82 false 11,
oG 84 82 false (.eqPtr false (oO 83) (.const (.pointer none))),
oP 85 82 false 14,
oG 86 82 false (.bin .neq (oO 85) (.const (.int .i64 0))),
oG 87 82 false (.eqBool true (oO 84) (oO 86)),
oT 88 (.pick (oO 82) (.const (.bool true)) (oO 87))])
(.cond (oO 88)
(.seq (.region [
oT 6 (.move (.const (.bool false)))])
.ret)
.skip))
(.seq (.seq (.region [
oM 89 14,
oT 90 (.bin .neq (oO 89) (.const (.int .i64 0)))])
(.cond (oO 90)
(.seq (.region [
oT 6 (.move (.const (.bool true)))])
.ret)
.skip))
(.seq (.seq (.region [
oM 91 10,
oT 92 (.bin .neq (oO 91) (.const (.int .i64 0)))])
(.cond (oO 92)
(.seq (.region [
oM 93 11,
oM 7 93])
(.region [
oM 94 13,
oM 9 94]))
.skip))
(.seq (.seq (.region [
oI 15 0])
(.block 0 (.loop (.seq (.seq (.region [
oM 95 15,
oM 96 2,
oT 97 (.lenSlice (oO 96)),
oT 98 (.bin .lss (oO 95) (oO 97))])
(.cond (oO 98)
.skip
(.exit 0)))
(.seq (.block 1 (.seq (.region [
oM 101 7,
oM 102 9,
oM 103 2,
oM 104 15,
oA 105 7 103 104,
oK 106 7 105,
oX 107 22 [101,102,106],
oM 16 107])
(.seq (.drawn [
oM 108 16,
oH 109 (.un .not (oO 108)) [0] true,
oH 110 (.move (oO 109)) [1,0] true,
oJ 111 110 false (.move (oO 7)) [2,1,0] false,
oJ 112 110 false (.move (oO 9)) [2,1,0] false,
oJ 113 110 false (.move (oO 2)) [2,1,0] false,
oJ 114 110 false (.move (oO 15)) [2,1,0] false,
oJ 115 110 false (.indexAddr 7 (oO 113) (oO 114)) [5,6,2,1,0] false,
oJ 116 110 false (.fieldAddr 2 (oO 115)) [7,2,5,6,1,0] false,
oJ 117 110 false (.load none (oO 116)) [8,2,7,5,6,1,0] false,
oJ 118 110 false (.move (oO 2)) [2,1,0] false,
oJ 119 110 false (.move (oO 15)) [2,1,0] false,
oJ 120 110 false (.indexAddr 7 (oO 118) (oO 119)) [10,11,2,1,0] false,
oJ 121 110 false (.fieldAddr 1 (oO 120)) [12,2,10,11,1,0] false,
oJ 122 110 false (.load none (oO 121)) [13,2,12,10,11,1,0] false,
oJ 123 110 false (.call (.const (.func (.func 23) #[] #[])) [(oO 111), (oO 112), (oO 117), (oO 122)]) [3,4,9,14,2,1,0,8,7,5,6,13,12,10,11] true,
oJ 124 110 false (.un .not (oO 123)) [15,2,3,4,9,14,1,0,8,7,5,6,13,12,10,11] true,
oH 125 (.pick (oO 110) (.const (.bool true)) (oO 124)) [2,16,1,0,15,3,4,9,14,8,7,5,6,13,12,10,11] true])
(.cond (oO 125)
(.seq (.region [
oT 6 (.move (.const (.bool false)))])
.ret)
.skip))))
(.region [
oM 99 15,
oT 100 (.bin .add (oO 99) (.const (.int .i64 1))),
oM 15 100]))))))
(.seq (.region [
oT 6 (.move (.const (.bool true)))])
.ret))))))))))) }
theorem ir4_eq : funcC Try.prog 4 = some ir4 := by kernel_rfl
def ir10 : IFunc :=
{ ntmps := 20, results := [.tmp 2], body :=
(.seq (.region [
oI 2 0])
(.seq (.seq (.region [
oM 4 0,
oT 5 (.lenSlice (oO 4)),
oT 6 (.bin .gtr (oO 5) (.const (.int .i64 120)))])
(.cond (oO 6)
(.seq (.region [
oI 2 1])
.ret)
.skip))
(.seq (.seq (.region [
oI 3 0])
(.block 0 (.loop (.seq (.seq (.region [
oM 7 3,
oM 8 0,
oT 9 (.lenSlice (oO 8)),
oT 10 (.bin .lss (oO 7) (oO 9))])
(.cond (oO 10)
.skip
(.exit 0)))
(.seq (.block 1 (.seq (.region [
oM 13 0,
oM 14 3,
oA 15 7 13 14,
oF 16 6 15,
oL 17 16,
oT 18 (.lenSlice (oO 17)),
oT 19 (.bin .gtr (oO 18) (.const (.int .i64 40)))])
(.cond (oO 19)
(.seq (.region [
oI 2 1])
.ret)
.skip)))
(.region [
oM 11 3,
oT 12 (.bin .add (oO 11) (.const (.int .i64 1))),
oM 3 12]))))))
(.seq (.region [
oI 2 0])
.ret)))) }
theorem ir10_eq : funcC Try.prog 10 = some ir10 := by kernel_rfl
def ir11 : IFunc :=
{ ntmps := 41, results := [.tmp 6, .tmp 7], body :=
(.seq (.region [
oT 6 (.move (.const (.pointer none))),
oI 7 0])
(.seq (.seq (.region [
oM 8 1,
oT 9 (.bin .lss (oO 8) (.const (.int .i64 1))),
oM 10 9,
oP 11 10 false 1,
oG 12 10 false (.bin .gtr (oO 11) (.const (.int .i64 64))),
oT 13 (.pick (oO 10) (.const (.bool true)) (oO 12)),
oM 14 13,
oP 15 14 false 0,
oG 16 14 false (.bin .lss (oO 15) (.const (.int .i64 0))),
oT 17 (.pick (oO 14) (.const (.bool true)) (oO 16)),
oM 18 17,
oP 19 18 false 0,
oP 20 18 false 1,
oG 21 18 false (.bin .geq (oO 19) (oO 20)),
oT 22 (.pick (oO 18) (.const (.bool true)) (oO 21)),
oM 23 22,
oP 24 23 false 2,
oG 25 23 false (.bin .lss (oO 24) (.const (.int .i64 1))),
oT 26 (.pick (oO 23) (.const (.bool true)) (oO 25)),
oM 27 26,
oP 28 27 false 2,
oG 29 27 false (.bin .gtr (oO 28) (.const (.int .i64 1024))),
oT 30 (.pick (oO 27) (.const (.bool true)) (oO 29))])
(.cond (oO 30)
(.seq (.region [
oT 6 (.move (.const (.pointer none))),
oI 7 2])
.ret)
.skip))
(.seq (.region [
oM 31 0,
oM 32 1,
oM 33 2,
oT 34 (.makeMap),
oT 35 (.makeMap),
oT 36 (.makeMap),
oM 37 0,
oY (.mapUpdate none (oO 36) (oO 37) (.const (.int .i64 1))),
oM 38 36,
oT 39 (.build [(.int .i64 0), (.int .i64 0), (.int .i64 0), (.map none), (.map none), (.map none)] [(0, 1, (oO 31)), (1, 1, (oO 32)), (2, 1, (oO 33)), (3, 1, (oO 34)), (4, 1, (oO 35)), (5, 1, (oO 38))]),
oB 40 39,
oM 6 40,
oI 7 0])
.ret))) }
theorem ir11_eq : funcC Try.prog 11 = some ir11 := by kernel_rfl
def ir12 : IFunc :=
{ ntmps := 41, results := [.cell 6 (some 3), .tmp 7], body :=
(.seq (.region [
oT 6 (.box (.const (.agg #[(.int .i64 0), (.int .i64 0), (.slice none 0 0)]))),
oI 7 0])
(.seq (.block 0 (.seq (.region [
oM 10 0,
oX 11 30 [10],
oM 9 11])
(.cond (oO 9)
(.seq (.region [
oT 12 (.build [(.int .i64 0), (.int .i64 0), (.slice none 0 0)] []),
oS 3 6 12,
oI 7 1])
.ret)
(.seq (.region [
oM 14 0,
oM 15 1,
oX 16 26 [14,15],
oT 17 (.un .not (oO 16)),
oM 18 17,
oP 19 18 false 0,
oP 20 18 false 2,
oG 21 18 false (.call (.const (.func (.func 31) #[] #[])) [(oO 19), (oO 20)]),
oG 22 18 false (.un .not (oO 21)),
oT 23 (.pick (oO 18) (.const (.bool true)) (oO 22)),
oM 13 23])
(.cond (oO 13)
(.seq (.region [
oT 24 (.build [(.int .i64 0), (.int .i64 0), (.slice none 0 0)] []),
oS 3 6 24,
oI 7 2])
.ret)
(.seq (.region [
oM 26 0,
oM 27 1,
oX 28 32 [26,27],
oX 29 33 [],
oT 30 (.eqAgg true [.int, .int] (oO 28) (oO 29)),
oM 25 30])
(.cond (oO 25)
(.seq (.region [
oT 31 (.build [(.int .i64 0), (.int .i64 0), (.slice none 0 0)] []),
oS 3 6 31,
oI 7 140])
.ret)
.skip)))))))
(.seq (.region [
oT 8 (.box (.const (.agg #[(.slice none 0 0), (.slice none 0 0), (.slice none 0 0)])))])
(.seq (.region [
oM 32 0,
oM 33 1,
oM 34 2,
oT 35 (.build [(.int .i64 0), (.int .u32 0)] [(0, 1, (oO 34)), (1, 1, (.const (.int .u32 1)))]),
oX 36 34 [32,33,35,8]])
(.seq (.region [
oF 37 0 8,
oL 38 37,
oT 39 (.indexAddr 3 (oO 38) (.const (.int .i64 0))),
oK 40 3 39,
oS 3 6 40,
oI 7 0])
.ret))))) }
theorem ir12_eq : funcC Try.prog 12 = some ir12 := by kernel_rfl
def ir13 : IFunc :=
{ ntmps := 22, results := [], body :=
(.seq (.seq (.region [
oM 4 0,
oM 5 1,
oX 6 31 [4,5],
oT 7 (.un .not (oO 6))])
(.cond (oO 7)
.ret
.skip))
(.seq (.region [
oM 8 0,
oM 9 1,
oX 10 35 [8,9]])
(.seq (.region [
oM 11 1,
oM 12 0,
oC 13 12,
oF 14 0 13,
oL 15 14,
oT 16 (.bin .neq (oO 11) (oO 15))])
(.cond (oO 16)
(.region [
oM 17 0,
oC 18 17,
oF 19 5 18,
oL 20 19,
oM 21 1,
oY (.mapUpdate none (oO 20) (oO 21) (.const (.int .i64 0)))])
.skip)))) }
theorem ir13_eq : funcC Try.prog 13 = some ir13 := by kernel_rfl
def ir14 : IFunc :=
{ ntmps := 52, results := [.cell 6 (some 3), .tmp 7], body :=
(.seq (.region [
oB 3 0,
oB 4 1,
oB 5 2,
oT 6 (.box (.const (.agg #[(.slice none 0 0), (.slice none 0 0), (.slice none 0 0)]))),
oI 7 0])
(.seq (.region [
oT 8 (.box (.const (.agg #[(.slice none 0 0), (.slice none 0 0), (.slice none 0 0)])))])
(.seq (.block 0 (.seq (.region [
oL 12 3,
oX 13 30 [12],
oM 11 13])
(.cond (oO 11)
(.seq (.region [
oK 14 3 8,
oS 3 6 14,
oI 7 1])
.ret)
(.seq (.region [
oL 16 3,
oL 17 4,
oX 18 31 [16,17],
oT 19 (.un .not (oO 18)),
oM 15 19])
(.cond (oO 15)
(.seq (.region [
oK 20 3 8,
oS 3 6 20,
oI 7 2])
.ret)
.skip)))))
(.seq (.region [
oL 21 3,
oL 22 4,
oX 23 35 [21,22]])
(.seq (.seq (.region [
oL 24 3,
oX 25 36 [24]])
(.block 1 (.rangeFunc (.tmp 25) [26]
(.region [
oM 9 26])
(.block 2 (.seq (.region [
oL 27 3,
oM 28 9,
oX 29 32 [27,28],
oT 10 (.box (.const (.agg #[(.int .i64 0), (.int .u32 0)]))),
oS 2 10 29])
(.seq (.region [
oF 30 0 10,
oL 31 30,
oL 32 4,
oT 33 (.bin .eql (oO 31) (oO 32)),
oM 34 33,
oQ 35 34 true 5,
oP 36 34 true 9,
oR 37 34 true 1 10,
oQ 38 34 true 37,
oG 39 34 true (.build [(.int .i64 0), (.int .u32 0)] [(0, 1, (oO 36)), (1, 1, (oO 38))]),
oG 40 34 true (.call (.const (.func (.func 37) #[] #[])) [(oO 35), (oO 39)]),
oG 41 34 true (.un .not (oO 40)),
oT 42 (.pick (oO 34) (oO 41) (.const (.bool false)))])
(.cond (oO 42)
(.region [
oL 43 3,
oM 44 9,
oX 45 38 [43,44,8]])
.skip)))))))
(.seq (.drawn [
oU 46 (.load none (oO 3)),
oH 47 (.nilCheck (oO 46)) [0] false,
oH 48 (.fieldAddr 5 (oO 47)) [1,0] false,
oH 49 (.load none (oO 48)) [2,1,0] false,
oU 50 (.load none (oO 4)),
⟨none, .mapUpdate none (.tmp 49) (.tmp 50) (.const (.int .i64 1)), none, [3, 4, 0, 1, 2], true⟩])
(.seq (.region [
oK 51 3 8,
oS 3 6 51,
oI 7 0])
.ret))))))) }
theorem ir14_eq : funcC Try.prog 14 = some ir14 := by kernel_rfl
def ir15 : IFunc :=
{ ntmps := 76, results := [.cell 10 (some 3), .tmp 11], body :=
(.seq (.region [
oT 10 (.box (.const (.agg #[(.slice none 0 0), (.slice none 0 0), (.slice none 0 0)]))),
oI 11 0])
(.seq (.region [
oT 12 (.box (.const (.agg #[(.slice none 0 0), (.slice none 0 0), (.slice none 0 0)])))])
(.seq (.block 0 (.seq (.region [
oM 16 0,
oX 17 30 [16],
oM 15 17])
(.cond (oO 15)
(.seq (.region [
oK 18 3 12,
oS 3 10 18,
oI 11 1])
.ret)
(.seq (.region [
oM 20 0,
oM 21 1,
oX 22 31 [20,21],
oT 23 (.un .not (oO 22)),
oM 24 23,
oP 25 24 false 0,
oP 26 24 false 2,
oG 27 24 false (.call (.const (.func (.func 26) #[] #[])) [(oO 25), (oO 26)]),
oG 28 24 false (.un .not (oO 27)),
oT 29 (.pick (oO 24) (.const (.bool true)) (oO 28)),
oM 30 29,
oP 31 30 false 4,
oG 32 30 false (.bin .lss (oO 31) (.const (.int .i64 0))),
oT 33 (.pick (oO 30) (.const (.bool true)) (oO 32)),
oM 34 33,
oP 35 34 false 4,
oG 36 34 false (.bin .gtr (oO 35) (.const (.int .i64 15))),
oT 37 (.pick (oO 34) (.const (.bool true)) (oO 36)),
oM 19 37])
(.cond (oO 19)
(.seq (.region [
oK 38 3 12,
oS 3 10 38,
oI 11 2])
.ret)
(.seq (.region [
oM 40 0,
oM 41 1,
oX 42 28 [40,41],
oT 43 (.un .not (oO 42)),
oM 39 43])
(.cond (oO 39)
(.seq (.region [
oK 44 3 12,
oS 3 10 44,
oI 11 140])
.ret)
.skip)))))))
(.seq (.region [
oM 45 1,
oM 46 3,
oM 47 4,
oT 48 (.build [(.int .i64 0), (.int .u64 0), (.int .i64 0)] [(0, 1, (oO 45)), (1, 1, (oO 46)), (2, 1, (oO 47))]),
oT 13 (.box (.const (.agg #[(.int .i64 0), (.int .u64 0), (.int .i64 0)]))),
oS 3 13 48])
(.seq (.seq (.region [
oM 49 0,
oM 50 2,
oX 51 32 [49,50],
oT 14 (.box (.const (.agg #[(.int .i64 0), (.int .u32 0)]))),
oS 2 14 51])
(.seq (.region [
oF 52 0 14,
oL 53 52])
(.block 1 (.seq (.region [
oM 60 1,
oT 61 (.bin .eql (oO 53) (oO 60)),
oM 59 61])
(.cond (oO 59)
(.region [
oM 62 1,
oM 63 2,
oF 64 1 14,
oL 65 64,
oM 66 3,
oT 67 (.build [(.int .i64 0), (.int .i64 0), (.int .u32 0), (.int .u64 0), (.int .i64 0), (.int .i64 0), (.int .i64 0), (.int .i64 0), (.slice none 0 0)] [(0, 1, (.const (.int .i64 2))), (1, 1, (oO 63)), (2, 1, (oO 65)), (3, 1, (oO 66))]),
oX 68 39 [12,62,67]])
(.seq (.region [
oT 70 (.bin .eql (oO 53) (.const (.int .i64 (-1)))),
oM 69 70])
(.cond (oO 69)
(.region [
oM 71 0,
oK 72 3 13,
oM 73 2,
oX 74 40 [71,72,73,12]])
(.region [
oM 54 0,
oK 55 3 13,
oM 56 2,
oK 57 2 14,
oX 58 41 [54,55,56,57,12]]))))))))
(.seq (.region [
oK 75 3 12,
oS 3 10 75,
oI 11 0])
.ret)))))) }
theorem ir15_eq : funcC Try.prog 15 = some ir15 := by kernel_rfl
def ir16 : IFunc :=
{ ntmps := 45, results := [.cell 8 (some 3), .tmp 9], body :=
(.seq (.region [
oT 8 (.box (.const (.agg #[(.slice none 0 0), (.slice none 0 0), (.slice none 0 0)]))),
oI 9 0])
(.seq (.region [
oT 10 (.box (.const (.agg #[(.slice none 0 0), (.slice none 0 0), (.slice none 0 0)])))])
(.seq (.block 0 (.seq (.region [
oM 13 0,
oX 14 30 [13],
oM 12 14])
(.cond (oO 12)
(.seq (.region [
oK 15 3 10,
oS 3 8 15,
oI 9 1])
.ret)
(.seq (.region [
oM 17 0,
oM 18 1,
oX 19 31 [17,18],
oT 20 (.un .not (oO 19)),
oM 21 20,
oP 22 21 false 0,
oP 23 21 false 2,
oG 24 21 false (.call (.const (.func (.func 26) #[] #[])) [(oO 22), (oO 23)]),
oG 25 21 false (.un .not (oO 24)),
oT 26 (.pick (oO 21) (.const (.bool true)) (oO 25)),
oM 16 26])
(.cond (oO 16)
(.seq (.region [
oK 27 3 10,
oS 3 8 27,
oI 9 2])
.ret)
.skip)))))
(.seq (.seq (.region [
oM 28 0,
oM 29 2,
oX 30 32 [28,29],
oT 11 (.box (.const (.agg #[(.int .i64 0), (.int .u32 0)]))),
oS 2 11 30])
(.seq (.region [
oF 31 0 11,
oL 32 31,
oM 33 1,
oT 34 (.bin .eql (oO 32) (oO 33)),
oM 35 34,
oR 36 35 true 1 11,
oQ 37 35 true 36,
oP 38 35 true 3,
oG 39 35 true (.bin .eql (oO 37) (oO 38)),
oT 40 (.pick (oO 35) (oO 39) (.const (.bool false)))])
(.cond (oO 40)
(.region [
oM 41 0,
oM 42 2,
oX 43 38 [41,42,10]])
.skip)))
(.seq (.region [
oK 44 3 10,
oS 3 8 44,
oI 9 0])
.ret))))) }
theorem ir16_eq : funcC Try.prog 16 = some ir16 := by kernel_rfl
def ir17 : IFunc :=
{ ntmps := 29, results := [.tmp 2], body :=
(.seq (.region [
oB 1 0,
oT 2 (.move (.const (.slice none 0 0)))])
(.seq (.region [
oT 3 (.box (.const (.slice none 0 0)))])
(.seq (.seq (.region [
oL 7 1,
oX 8 30 [7]])
(.cond (oO 8)
(.seq (.region [
oT 2 (.move (.const (.slice none 0 0)))])
.ret)
.skip))
(.seq (.seq (.region [
oL 9 1,
oX 10 36 [9]])
(.block 0 (.rangeFunc (.tmp 10) [11]
(.region [
oM 4 11])
(.block 1 (.seq (.region [
oL 13 1,
oC 14 13,
oF 15 3 14,
oL 16 15,
oM 17 4,
oT 18 (.lookup none (.agg #[(.int .i64 0), (.int .u32 0)]) true (oO 16) (oO 17)),
oM 12 18,
oE 19 12 0,
oE 20 12 1,
oT 5 (.box (.const (.agg #[(.int .i64 0), (.int .u32 0)]))),
oS 2 5 19,
oM 6 20])
(.seq (.region [
oM 21 6])
(.cond (oO 21)
(.drawn [
oU 22 (.load none (oO 3)),
oN 23 4,
oU 24 (.load (some 2) (oO 5)),
oH 25 (.call (.const (.func (.func 42) #[] #[])) [(oO 23), (oO 24)]) [1,2] false,
oH 26 (.buildSlice 3 1 [(.int .i64 0), (.int .i64 0), (.slice none 0 0)] [(0, (oO 25))]) [3,1,2] false,
oH 27 (.append 3 40 (oO 22) (oO 26)) [0,4,3,1,2] true,
⟨none, .store 1 (.tmp 3) (.tmp 27), none, [5, 0, 1, 2, 3, 4], true⟩])
.skip)))))))
(.seq (.region [
oL 28 3,
oM 2 28])
.ret))))) }
theorem ir17_eq : funcC Try.prog 17 = some ir17 := by kernel_rfl
def ir18 : IFunc :=
{ ntmps := 79, results := [.tmp 8, .tmp 9], body :=
(.seq (.region [
oT 8 (.move (.const (.pointer none))),
oI 9 0])
(.seq (.region [
oM 19 0,
oM 20 1,
oM 21 2,
oX 22 11 [19,20,21],
oM 18 22,
oE 23 18 0,
oE 24 18 1,
oM 10 23,
oM 11 24])
(.seq (.seq (.region [
oM 25 11,
oT 26 (.bin .neq (oO 25) (.const (.int .i64 0)))])
(.cond (oO 26)
(.seq (.region [
oM 27 11,
oT 8 (.move (.const (.pointer none))),
oM 9 27])
.ret)
.skip))
(.seq (.seq (.region [
oM 28 3,
oT 29 (.lenSlice (oO 28)),
oI 30 0])
(.block 0 (.loop (.seq (.region [
oT 31 (.bin .lss (oO 30) (oO 29))])
(.seq (.cond (oO 31)
.skip
(.exit 0))
(.seq (.block 1 (.seq (.region [
oA 32 3 28 30,
oK 33 3 32,
oT 13 (.box (.const (.agg #[(.int .i64 0), (.int .i64 0), (.slice none 0 0)]))),
oS 3 13 33])
(.seq (.seq (.region [
oF 34 0 13,
oL 35 34,
oT 36 (.bin .neq (oO 35) (.const (.int .i64 3)))])
(.cond (oO 36)
(.exit 1)
.skip))
(.seq (.region [
oK 38 3 13,
oX 39 43 [38],
oM 37 39,
oE 40 37 0,
oE 41 37 1,
oT 14 (.box (.const (.agg #[(.int .i64 0), (.int .u32 0)]))),
oS 2 14 40,
oM 15 41])
(.seq (.seq (.drawn [
oN 43 10,
oH 44 (.nilCheck (oO 43)) [0] false,
oH 45 (.fieldAddr 3 (oO 44)) [1,0] false,
oH 46 (.load none (oO 45)) [2,1,0] false,
oU 47 (.fieldAddr 1 (oO 13)),
oH 48 (.load none (oO 47)) [4] false,
oH 49 (.lookup none (.agg #[(.int .i64 0), (.int .u32 0)]) true (oO 46) (oO 48)) [3,5,2,1,0,4] false,
oH 42 (.move (oO 49)) [6,3,5,2,1,0,4] false,
oH 50 (.extract (oO 42) 0) [7,6,3,5,2,1,0,4] false,
oH 51 (.extract (oO 42) 1) [7,6,3,5,2,1,0,4] false,
oU 16 (.box (.const (.agg #[(.int .i64 0), (.int .u32 0)]))),
⟨none, .store 2 (.tmp 16) (.tmp 50), none, [10, 8, 0, 1, 2, 3, 4, 5, 6, 7], true⟩,
oH 17 (.move (oO 51)) [9,11,0,1,2,3,4,5,6,7,8,10] true])
(.seq (.region [
oM 52 15,
oT 53 (.un .not (oO 52)),
oM 54 53,
oP 55 54 false 17,
oT 56 (.pick (oO 54) (.const (.bool true)) (oO 55)),
oM 57 56,
oP 58 57 false 10,
oR 59 57 false 1 13,
oQ 60 57 false 59,
oG 61 57 false (.call (.const (.func (.func 26) #[] #[])) [(oO 58), (oO 60)]),
oG 62 57 false (.un .not (oO 61)),
oT 63 (.pick (oO 57) (.const (.bool true)) (oO 62)),
oM 64 63,
oR 65 64 false 0 14,
oQ 66 64 false 65,
oP 67 64 false 1,
oG 68 64 false (.bin .geq (oO 66) (oO 67)),
oT 69 (.pick (oO 64) (.const (.bool true)) (oO 68))])
(.cond (oO 69)
(.seq (.region [
oT 8 (.move (.const (.pointer none))),
oI 9 140])
.ret)
.skip)))
(.drawn [
oN 70 10,
oH 71 (.nilCheck (oO 70)) [0] false,
oH 72 (.fieldAddr 3 (oO 71)) [1,0] false,
oH 73 (.load none (oO 72)) [2,1,0] false,
oU 74 (.fieldAddr 1 (oO 13)),
oH 75 (.load none (oO 74)) [4] false,
oU 76 (.load (some 2) (oO 14)),
⟨none, .mapUpdate none (.tmp 73) (.tmp 75) (.tmp 76), none, [3, 5, 6, 0, 1, 2, 4], true⟩]))))))
(.region [
oT 77 (.bin .add (oO 30) (.const (.int .i64 1))),
oM 30 77])))))))
(.seq (.region [
oM 78 10,
oM 8 78,
oI 9 0])
.ret))))) }
theorem ir18_eq : funcC Try.prog 18 = some ir18 := by kernel_rfl
def ir19 : IFunc :=
{ ntmps := 56, results := [.tmp 4], body :=
(.seq (.region [
oT 4 (.move (.const (.bool false)))])
(.seq (.seq (.region [
oM 6 0,
oT 7 (.lenSlice (oO 6)),
oM 8 1,
oT 9 (.lenSlice (oO 8)),
oT 10 (.bin .neq (oO 7) (oO 9))])
(.cond (oO 10)
(.seq (.region [
oT 4 (.move (.const (.bool false)))])
.ret)
.skip))
(.seq (.seq (.region [
oI 5 0])
(.block 0 (.loop (.seq (.seq (.region [
oM 11 5,
oM 12 0,
oT 13 (.lenSlice (oO 12)),
oT 14 (.bin .lss (oO 11) (oO 13))])
(.cond (oO 14)
.skip
(.exit 0)))
(.seq (.block 1 (.seq (.drawn [
oN 17 0,
oN 18 5,
oH 19 (.indexAddr 3 (oO 17) (oO 18)) [0,1] false,
oH 20 (.fieldAddr 0 (oO 19)) [2,0,1] false,
oH 21 (.load none (oO 20)) [3,2,0,1] false,
oN 22 1,
oN 23 5,
oH 24 (.indexAddr 3 (oO 22) (oO 23)) [5,6] false,
oH 25 (.fieldAddr 0 (oO 24)) [7,5,6] false,
oH 26 (.load none (oO 25)) [8,7,5,6] false,
oH 27 (.bin .neq (oO 21) (oO 26)) [4,9,3,2,0,1,8,7,5,6] true,
oH 28 (.move (oO 27)) [10,4,9,3,2,0,1,8,7,5,6] true,
oJ 29 28 false (.move (oO 0)) [11,10,4,9,3,2,0,1,8,7,5,6] false,
oJ 30 28 false (.move (oO 5)) [11,10,4,9,3,2,0,1,8,7,5,6] false,
oJ 31 28 false (.indexAddr 3 (oO 29) (oO 30)) [12,13,11,10,4,9,3,2,0,1,8,7,5,6] false,
oJ 32 28 false (.fieldAddr 1 (oO 31)) [14,11,12,13,10,4,9,3,2,0,1,8,7,5,6] false,
oJ 33 28 false (.load none (oO 32)) [15,11,14,12,13,10,4,9,3,2,0,1,8,7,5,6] false,
oJ 34 28 false (.move (oO 1)) [11,10,4,9,3,2,0,1,8,7,5,6] false,
oJ 35 28 false (.move (oO 5)) [11,10,4,9,3,2,0,1,8,7,5,6] false,
oJ 36 28 false (.indexAddr 3 (oO 34) (oO 35)) [17,18,11,10,4,9,3,2,0,1,8,7,5,6] false,
oJ 37 28 false (.fieldAddr 1 (oO 36)) [19,11,17,18,10,4,9,3,2,0,1,8,7,5,6] false,
oJ 38 28 false (.load none (oO 37)) [20,11,19,17,18,10,4,9,3,2,0,1,8,7,5,6] false,
oJ 39 28 false (.bin .neq (oO 33) (oO 38)) [16,21,11,15,14,12,13,10,4,9,3,2,0,1,8,7,5,6,20,19,17,18] true,
oH 40 (.pick (oO 28) (.const (.bool true)) (oO 39)) [11,22,10,4,9,3,2,0,1,8,7,5,6,16,21,15,14,12,13,20,19,17,18] true,
oH 41 (.move (oO 40)) [23,11,22,10,4,9,3,2,0,1,8,7,5,6,16,21,15,14,12,13,20,19,17,18] true,
oJ 42 41 false (.move (oO 0)) [24,23,11,22,10,4,9,3,2,0,1,8,7,5,6,16,21,15,14,12,13,20,19,17,18] false,
oJ 43 41 false (.move (oO 5)) [24,23,11,22,10,4,9,3,2,0,1,8,7,5,6,16,21,15,14,12,13,20,19,17,18] false,
oJ 44 41 false (.indexAddr 3 (oO 42) (oO 43)) [25,26,24,23,11,22,10,4,9,3,2,0,1,8,7,5,6,16,21,15,14,12,13,20,19,17,18] false,
oJ 45 41 false (.fieldAddr 2 (oO 44)) [27,24,25,26,23,11,22,10,4,9,3,2,0,1,8,7,5,6,16,21,15,14,12,13,20,19,17,18] false,
oJ 46 41 false (.load none (oO 45)) [28,24,27,25,26,23,11,22,10,4,9,3,2,0,1,8,7,5,6,16,21,15,14,12,13,20,19,17,18] false,
oJ 47 41 false (.bytesStr (oO 46)) [29,24,28,27,25,26,23,11,22,10,4,9,3,2,0,1,8,7,5,6,16,21,15,14,12,13,20,19,17,18] false,
oJ 48 41 false (.move (oO 1)) [24,23,11,22,10,4,9,3,2,0,1,8,7,5,6,16,21,15,14,12,13,20,19,17,18] false,
oJ 49 41 false (.move (oO 5)) [24,23,11,22,10,4,9,3,2,0,1,8,7,5,6,16,21,15,14,12,13,20,19,17,18] false,
oJ 50 41 false (.indexAddr 3 (oO 48) (oO 49)) [31,32,24,23,11,22,10,4,9,3,2,0,1,8,7,5,6,16,21,15,14,12,13,20,19,17,18] false,
oJ 51 41 false (.fieldAddr 2 (oO 50)) [33,24,31,32,23,11,22,10,4,9,3,2,0,1,8,7,5,6,16,21,15,14,12,13,20,19,17,18] false,
oJ 52 41 false (.load none (oO 51)) [34,24,33,31,32,23,11,22,10,4,9,3,2,0,1,8,7,5,6,16,21,15,14,12,13,20,19,17,18] false,
oJ 53 41 false (.bytesStr (oO 52)) [35,24,34,33,31,32,23,11,22,10,4,9,3,2,0,1,8,7,5,6,16,21,15,14,12,13,20,19,17,18] false,
oJ 54 41 false (.bin .neq (oO 47) (oO 53)) [30,36,24,29,28,27,25,26,23,11,22,10,4,9,3,2,0,1,8,7,5,6,16,21,15,14,12,13,20,19,17,18,35,34,33,31,32] true,
oH 55 (.pick (oO 41) (.const (.bool true)) (oO 54)) [24,37,23,11,22,10,4,9,3,2,0,1,8,7,5,6,16,21,15,14,12,13,20,19,17,18,30,36,29,28,27,25,26,35,34,33,31,32] true])
(.cond (oO 55)
(.seq (.region [
oT 4 (.move (.const (.bool false)))])
.ret)
.skip)))
(.region [
oM 15 5,
oT 16 (.bin .add (oO 15) (.const (.int .i64 1))),
oM 5 16]))))))
(.seq (.region [
oT 4 (.move (.const (.bool true)))])
.ret)))) }
theorem ir19_eq : funcC Try.prog 19 = some ir19 := by kernel_rfl
def ir20 : IFunc :=
{ ntmps := 140, results := [.tmp 8, .tmp 9], body :=
(.seq (.region [
oT 8 (.move (.const (.pointer none))),
oI 9 0])
(.seq (.region [
oM 17 0,
oM 18 1,
oM 19 2,
oX 20 21 [17,18,19],
oM 16 20,
oE 21 16 0,
oE 22 16 1,
oM 10 21,
oM 11 22])
(.seq (.seq (.region [
oM 23 11,
oT 24 (.bin .neq (oO 23) (.const (.int .i64 0)))])
(.cond (oO 24)
(.seq (.region [
oM 25 11,
oT 8 (.move (.const (.pointer none))),
oM 9 25])
.ret)
.skip))
(.seq (.seq (.region [
oI 12 0])
(.block 0 (.loop (.seq (.seq (.region [
oM 26 12,
oM 27 3,
oT 28 (.lenSlice (oO 27)),
oT 29 (.bin .lss (oO 26) (oO 28))])
(.cond (oO 29)
.skip
(.exit 0)))
(.seq (.block 1 (.seq (.seq (.region [
oM 32 3,
oM 33 12,
oA 34 3 32 33,
oF 35 0 34,
oL 36 35,
oT 37 (.bin .neq (oO 36) (.const (.int .i64 3)))])
(.cond (oO 37)
(.exit 1)
.skip))
(.seq (.region [
oM 38 3,
oM 39 12,
oA 40 3 38 39,
oF 41 2 40,
oL 42 41,
oM 13 42])
(.seq (.seq (.drawn [
oM 43 13,
oH 44 (.lenSlice (oO 43)) [0] true,
oH 45 (.bin .neq (oO 44) (.const (.int .i64 5))) [1,0] true,
oH 46 (.move (oO 45)) [2,1,0] true,
oJ 47 46 false (.move (oO 10)) [3,2,1,0] false,
oJ 48 46 false (.move (oO 3)) [3,2,1,0] true,
oJ 49 46 false (.move (oO 12)) [3,2,1,0] true,
oJ 50 46 false (.indexAddr 3 (oO 48) (oO 49)) [5,6,3,2,1,0] true,
oJ 51 46 false (.fieldAddr 1 (oO 50)) [7,3,5,6,2,1,0] true,
oJ 52 46 false (.load none (oO 51)) [8,3,7,5,6,2,1,0] true,
oJ 53 46 false (.call (.const (.func (.func 44) #[] #[])) [(oO 47), (oO 52)]) [4,9,3,2,1,0,8,7,5,6] true,
oJ 54 46 false (.un .not (oO 53)) [10,3,4,9,2,1,0,8,7,5,6] true,
oH 55 (.pick (oO 46) (.const (.bool true)) (oO 54)) [3,11,2,1,0,10,4,9,8,7,5,6] true,
oH 56 (.move (oO 55)) [12,10,3,11,2,1,0,4,9,8,7,5,6] true,
oJ 57 56 false (.move (oO 10)) [13,12,10,3,11,2,1,0,4,9,8,7,5,6] false,
oJ 58 56 false (.nilCheck (oO 57)) [14,13,12,10,3,11,2,1,0,4,9,8,7,5,6] false,
oJ 59 56 false (.fieldAddr 2 (oO 58)) [15,13,14,12,10,3,11,2,1,0,4,9,8,7,5,6] false,
oJ 60 56 false (.load none (oO 59)) [16,13,15,14,12,10,3,11,2,1,0,4,9,8,7,5,6] false,
oJ 61 56 false (.move (oO 3)) [13,12,10,3,11,2,1,0,4,9,8,7,5,6] false,
oJ 62 56 false (.move (oO 12)) [13,12,10,3,11,2,1,0,4,9,8,7,5,6] false,
oJ 63 56 false (.indexAddr 3 (oO 61) (oO 62)) [18,19,13,12,10,3,11,2,1,0,4,9,8,7,5,6] false,
oJ 64 56 false (.fieldAddr 1 (oO 63)) [20,13,18,19,12,10,3,11,2,1,0,4,9,8,7,5,6] false,
oJ 65 56 false (.load none (oO 64)) [21,13,20,18,19,12,10,3,11,2,1,0,4,9,8,7,5,6] false,
oJ 66 56 false (.indexAddr 3 (oO 60) (oO 65)) [17,22,13,16,15,14,12,10,3,11,2,1,0,4,9,8,7,5,6,21,20,18,19] true,
oJ 67 56 false (.fieldAddr 0 (oO 66)) [23,13,17,22,16,15,14,12,10,3,11,2,1,0,4,9,8,7,5,6,21,20,18,19] true,
oJ 68 56 false (.load none (oO 67)) [24,13,23,17,22,16,15,14,12,10,3,11,2,1,0,4,9,8,7,5,6,21,20,18,19] true,
oJ 69 56 false (.bin .neq (oO 68) (.const (.int .i64 (-1)))) [25,13,24,23,17,22,16,15,14,12,10,3,11,2,1,0,4,9,8,7,5,6,21,20,18,19] true,
oH 70 (.pick (oO 56) (.const (.bool true)) (oO 69)) [13,26,12,10,3,11,2,1,0,4,9,8,7,5,6,25,24,23,17,22,16,15,14,21,20,18,19] true,
oH 71 (.move (oO 70)) [27,13,26,12,10,3,11,2,1,0,4,9,8,7,5,6,25,24,23,17,22,16,15,14,21,20,18,19] true,
oJ 72 71 false (.move (oO 10)) [28,27,13,26,12,10,3,11,2,1,0,4,9,8,7,5,6,25,24,23,17,22,16,15,14,21,20,18,19] false,
oJ 73 71 false (.nilCheck (oO 72)) [29,28,27,13,26,12,10,3,11,2,1,0,4,9,8,7,5,6,25,24,23,17,22,16,15,14,21,20,18,19] false,
oJ 74 71 false (.fieldAddr 2 (oO 73)) [30,28,29,27,13,26,12,10,3,11,2,1,0,4,9,8,7,5,6,25,24,23,17,22,16,15,14,21,20,18,19] false,
oJ 75 71 false (.load none (oO 74)) [31,28,30,29,27,13,26,12,10,3,11,2,1,0,4,9,8,7,5,6,25,24,23,17,22,16,15,14,21,20,18,19] false,
oJ 76 71 false (.move (oO 3)) [28,27,13,26,12,10,3,11,2,1,0,4,9,8,7,5,6,25,24,23,17,22,16,15,14,21,20,18,19] false,
oJ 77 71 false (.move (oO 12)) [28,27,13,26,12,10,3,11,2,1,0,4,9,8,7,5,6,25,24,23,17,22,16,15,14,21,20,18,19] false,
oJ 78 71 false (.indexAddr 3 (oO 76) (oO 77)) [33,34,28,27,13,26,12,10,3,11,2,1,0,4,9,8,7,5,6,25,24,23,17,22,16,15,14,21,20,18,19] false,
oJ 79 71 false (.fieldAddr 1 (oO 78)) [35,28,33,34,27,13,26,12,10,3,11,2,1,0,4,9,8,7,5,6,25,24,23,17,22,16,15,14,21,20,18,19] false,
oJ 80 71 false (.load none (oO 79)) [36,28,35,33,34,27,13,26,12,10,3,11,2,1,0,4,9,8,7,5,6,25,24,23,17,22,16,15,14,21,20,18,19] false,
oJ 81 71 false (.indexAddr 3 (oO 75) (oO 80)) [32,37,28,31,30,29,27,13,26,12,10,3,11,2,1,0,4,9,8,7,5,6,25,24,23,17,22,16,15,14,21,20,18,19,36,35,33,34] true,
oJ 82 71 false (.fieldAddr 1 (oO 81)) [38,28,32,37,31,30,29,27,13,26,12,10,3,11,2,1,0,4,9,8,7,5,6,25,24,23,17,22,16,15,14,21,20,18,19,36,35,33,34] true,
oJ 83 71 false (.load none (oO 82)) [39,28,38,32,37,31,30,29,27,13,26,12,10,3,11,2,1,0,4,9,8,7,5,6,25,24,23,17,22,16,15,14,21,20,18,19,36,35,33,34] true,
oJ 84 71 false (.bin .neq (oO 83) (.const (.int .u32 0))) [40,28,39,38,32,37,31,30,29,27,13,26,12,10,3,11,2,1,0,4,9,8,7,5,6,25,24,23,17,22,16,15,14,21,20,18,19,36,35,33,34] true,
oH 85 (.pick (oO 71) (.const (.bool true)) (oO 84)) [28,41,27,13,26,12,10,3,11,2,1,0,4,9,8,7,5,6,25,24,23,17,22,16,15,14,21,20,18,19,40,39,38,32,37,31,30,29,36,35,33,34] true])
(.cond (oO 85)
(.seq (.region [
oT 8 (.move (.const (.pointer none))),
oI 9 140])
.ret)
.skip))
(.seq (.region [
oM 86 13,
oT 87 (.indexAddr 1 (oO 86) (.const (.int .i64 0))),
oL 88 87,
oT 89 (.conv .i64 (oO 88)),
oM 14 89])
(.seq (.seq (.region [
oM 90 14,
oT 91 (.bin .eql (oO 90) (.const (.int .i64 255)))])
(.cond (oO 91)
(.region [
oI 14 (-1)])
.skip))
(.seq (.drawn [
oN 92 13,
oH 93 (.indexAddr 1 (oO 92) (.const (.int .i64 1))) [0] false,
oH 94 (.load none (oO 93)) [1,0] false,
oH 95 (.conv .i64 (oO 94)) [2,1,0] false,
oH 96 (.bin .mul (oO 95) (.const (.int .i64 16777216))) [3,2,1,0] false,
oN 97 13,
oH 98 (.indexAddr 1 (oO 97) (.const (.int .i64 2))) [5] false,
oH 99 (.load none (oO 98)) [6,5] false,
oH 100 (.conv .i64 (oO 99)) [7,6,5] false,
oH 101 (.bin .mul (oO 100) (.const (.int .i64 65536))) [8,7,6,5] false,
oH 102 (.bin .add (oO 96) (oO 101)) [4,9,3,2,1,0,8,7,6,5] false,
oN 103 13,
oH 104 (.indexAddr 1 (oO 103) (.const (.int .i64 3))) [11] false,
oH 105 (.load none (oO 104)) [12,11] false,
oH 106 (.conv .i64 (oO 105)) [13,12,11] false,
oH 107 (.bin .mul (oO 106) (.const (.int .i64 256))) [14,13,12,11] false,
oH 108 (.bin .add (oO 102) (oO 107)) [10,15,4,9,3,2,1,0,8,7,6,5,14,13,12,11] false,
oN 109 13,
oH 110 (.indexAddr 1 (oO 109) (.const (.int .i64 4))) [17] false,
oH 111 (.load none (oO 110)) [18,17] false,
oH 112 (.conv .i64 (oO 111)) [19,18,17] false,
oH 113 (.bin .add (oO 108) (oO 112)) [16,20,10,15,4,9,3,2,1,0,8,7,6,5,14,13,12,11,19,18,17] true,
oH 15 (.move (oO 113)) [21,0,1,2,3,4,5,6,7,8,9,10,11,12,13,14,15,16,17,18,19,20] true])
(.seq (.seq (.region [
oM 114 14,
oM 115 1,
oT 116 (.bin .geq (oO 114) (oO 115)),
oM 117 116,
oP 118 117 false 14,
oG 119 117 false (.bin .eql (oO 118) (.const (.int .i64 (-1)))),
oP 120 117 false 119,
oP 121 120 true 15,
oG 122 120 true (.bin .eql (oO 121) (.const (.int .i64 0))),
oG 123 117 false (.pick (oO 120) (oO 122) (.const (.bool false))),
oT 124 (.pick (oO 117) (.const (.bool true)) (oO 123))])
(.cond (oO 124)
(.seq (.region [
oT 8 (.move (.const (.pointer none))),
oI 9 140])
.ret)
.skip))
(.drawn [
oN 125 10,
oH 126 (.nilCheck (oO 125)) [0] false,
oH 127 (.fieldAddr 2 (oO 126)) [1,0] false,
oH 128 (.load none (oO 127)) [2,1,0] false,
oN 129 3,
oN 130 12,
oH 131 (.indexAddr 3 (oO 129) (oO 130)) [4,5] false,
oH 132 (.fieldAddr 1 (oO 131)) [6,4,5] false,
oH 133 (.load none (oO 132)) [7,6,4,5] false,
oN 134 14,
oN 135 15,
oH 136 (.conv .u32 (oO 135)) [10] false,
oH 137 (.build [(.int .i64 0), (.int .u32 0), (.slice none 0 0)] [(0, 1, (oO 134)), (1, 1, (oO 136))]) [9,11,10] false,
oH 138 (.indexAddr 3 (oO 128) (oO 133)) [3,8,0,1,2,4,5,6,7,9,10,11,12] true,
⟨none, .store 3 (.tmp 138) (.tmp 137), none, [13, 12, 0, 1, 2, 3, 4, 5, 6, 7, 8, 9, 10, 11], true⟩])))))))))
(.region [
oM 30 12,
oT 31 (.bin .add (oO 30) (.const (.int .i64 1))),
oM 12 31]))))))
(.seq (.region [
oM 139 10,
oM 8 139,
oI 9 0])
.ret))))) }
theorem ir20_eq : funcC Try.prog 20 = some ir20 := by kernel_rfl
def ir21 : IFunc :=
{ ntmps := 60, results := [.tmp 6, .tmp 7], body :=
(.seq (.region [
oT 6 (.move (.const (.pointer none))),
oI 7 0])
(.seq (.seq (.region [
oM 10 1,
oT 11 (.bin .lss (oO 10) (.const (.int .i64 1))),
oM 12 11,
oP 13 12 false 1,
oG 14 12 false (.bin .gtr (oO 13) (.const (.int .i64 64))),
oT 15 (.pick (oO 12) (.const (.bool true)) (oO 14)),
oM 16 15,
oP 17 16 false 0,
oG 18 16 false (.bin .lss (oO 17) (.const (.int .i64 0))),
oT 19 (.pick (oO 16) (.const (.bool true)) (oO 18)),
oM 20 19,
oP 21 20 false 0,
oP 22 20 false 1,
oG 23 20 false (.bin .geq (oO 21) (oO 22)),
oT 24 (.pick (oO 20) (.const (.bool true)) (oO 23)),
oM 25 24,
oP 26 25 false 2,
oG 27 25 false (.bin .lss (oO 26) (.const (.int .i64 1))),
oT 28 (.pick (oO 25) (.const (.bool true)) (oO 27)),
oM 29 28,
oP 30 29 false 2,
oG 31 29 false (.bin .gtr (oO 30) (.const (.int .i64 1024))),
oT 32 (.pick (oO 29) (.const (.bool true)) (oO 31))])
(.cond (oO 32)
(.seq (.region [
oT 6 (.move (.const (.pointer none))),
oI 7 2])
.ret)
.skip))
(.seq (.drawn [
oN 33 0,
oN 34 1,
oN 35 2,
oH 36 (.makeSlice 3 40 [(.int .i64 0), (.int .u32 0), (.slice none 0 0)] (oO 35) (oO 35)) [2] false,
oN 37 1,
oH 38 (.makeSlice 1 8 [(.int .i64 0)] (oO 37) (oO 37)) [4] false,
oH 39 (.build [(.int .i64 0), (.int .i64 0), (.slice none 0 0), (.slice none 0 0)] [(0, 1, (oO 33)), (1, 1, (oO 34)), (2, 1, (oO 36)), (3, 1, (oO 38))]) [0,1,3,5,2,4] true,
oH 40 (.box (oO 39)) [6,0,1,3,5,2,4] true,
oH 8 (.move (oO 40)) [7,0,1,2,3,4,5,6] true])
(.seq (.seq (.region [
oI 9 0])
(.block 0 (.loop (.seq (.seq (.region [
oM 41 9,
oM 42 2,
oT 43 (.bin .lss (oO 41) (oO 42))])
(.cond (oO 43)
.skip
(.exit 0)))
(.seq (.block 1 (.region [
oM 46 8,
oC 47 46,
oF 48 2 47,
oL 49 48,
oM 50 9,
oA 51 3 49 50,
oF 52 0 51,
oY (.store 1 (oO 52) (.const (.int .i64 (-1))))]))
(.region [
oM 44 9,
oT 45 (.bin .add (oO 44) (.const (.int .i64 1))),
oM 9 45]))))))
(.seq (.region [
oM 53 8,
oC 54 53,
oF 55 3 54,
oL 56 55,
oM 57 0,
oA 58 1 56 57,
oY (.store 1 (oO 58) (.const (.int .i64 1)))])
(.seq (.region [
oM 59 8,
oM 6 59,
oI 7 0])
.ret)))))) }
theorem ir21_eq : funcC Try.prog 21 = some ir21 := by kernel_rfl
def ir22 : IFunc :=
{ ntmps := 161, results := [.tmp 6], body :=
(.seq (.region [
oB 5 2,
oT 6 (.move (.const (.bool false)))])
(.seq (.seq (.region [
oF 23 0 5,
oL 24 23])
(.block 0 (.seq (.region [
oT 26 (.bin .eql (oO 24) (.const (.int .i64 0))),
oM 25 26])
(.cond (oO 25)
(.seq (.region [
oM 28 0,
oF 29 2 5,
oL 30 29,
oF 31 1 5,
oL 32 31,
oX 33 12 [28,30,32],
oM 27 33,
oE 34 27 0,
oE 35 27 1,
oT 7 (.box (.const (.agg #[(.int .i64 0), (.int .i64 0), (.slice none 0 0)]))),
oS 3 7 34,
oM 8 35])
(.seq (.region [
oM 37 1,
oF 38 2 5,
oL 39 38,
oF 40 1 5,
oL 41 40,
oX 42 45 [37,39,41],
oM 36 42,
oE 43 36 0,
oE 44 36 1,
oT 9 (.box (.const (.agg #[(.int .i64 0), (.int .i64 0), (.slice none 0 0)]))),
oS 3 9 43,
oM 10 44])
(.seq (.region [
oK 45 3 7,
oT 46 (.buildSlice 3 1 [(.int .i64 0), (.int .i64 0), (.slice none 0 0)] [(0, (oO 45))]),
oK 47 3 9,
oT 48 (.buildSlice 3 1 [(.int .i64 0), (.int .i64 0), (.slice none 0 0)] [(0, (oO 47))]),
oX 49 19 [46,48],
oM 50 49,
oP 51 50 true 8,
oP 52 50 true 10,
oG 53 50 true (.bin .eql (oO 51) (oO 52)),
oT 54 (.pick (oO 50) (oO 53) (.const (.bool false))),
oM 6 54])
.ret)))
(.seq (.region [
oT 56 (.bin .eql (oO 24) (.const (.int .i64 1))),
oM 55 56])
(.cond (oO 55)
(.seq (.region [
oM 57 0,
oF 58 1 5,
oL 59 58,
oX 60 13 [57,59]])
(.region [
oM 61 1,
oF 62 1 5,
oL 63 62,
oX 64 46 [61,63]]))
(.seq (.region [
oT 66 (.bin .eql (oO 24) (.const (.int .i64 2))),
oM 65 66])
(.cond (oO 65)
(.seq (.region [
oM 68 0,
oF 69 1 5,
oL 70 69,
oF 71 6 5,
oL 72 71,
oX 73 14 [68,70,72],
oM 67 73,
oE 74 67 0,
oE 75 67 1,
oT 11 (.box (.const (.agg #[(.slice none 0 0), (.slice none 0 0), (.slice none 0 0)]))),
oS 3 11 74,
oM 12 75])
(.seq (.region [
oM 77 1,
oF 78 1 5,
oL 79 78,
oF 80 6 5,
oL 81 80,
oX 82 47 [77,79,81],
oM 76 82,
oE 83 76 0,
oE 84 76 1,
oT 13 (.box (.const (.agg #[(.slice none 0 0), (.slice none 0 0), (.slice none 0 0)]))),
oS 3 13 83,
oM 14 84])
(.seq (.region [
oK 85 3 11,
oK 86 3 13,
oX 87 48 [85,86],
oM 88 87,
oP 89 88 true 12,
oP 90 88 true 14,
oG 91 88 true (.bin .eql (oO 89) (oO 90)),
oT 92 (.pick (oO 88) (oO 91) (.const (.bool false))),
oM 6 92])
.ret)))
(.seq (.region [
oT 94 (.bin .eql (oO 24) (.const (.int .i64 3))),
oM 93 94])
(.cond (oO 93)
(.seq (.region [
oM 96 0,
oF 97 1 5,
oL 98 97,
oF 99 2 5,
oL 100 99,
oF 101 4 5,
oL 102 101,
oF 103 5 5,
oL 104 103,
oX 105 15 [96,98,100,102,104],
oM 95 105,
oE 106 95 0,
oE 107 95 1,
oT 15 (.box (.const (.agg #[(.slice none 0 0), (.slice none 0 0), (.slice none 0 0)]))),
oS 3 15 106,
oM 16 107])
(.seq (.region [
oM 109 1,
oF 110 1 5,
oL 111 110,
oF 112 2 5,
oL 113 112,
oF 114 4 5,
oL 115 114,
oF 116 5 5,
oL 117 116,
oX 118 49 [109,111,113,115,117],
oM 108 118,
oE 119 108 0,
oE 120 108 1,
oT 17 (.box (.const (.agg #[(.slice none 0 0), (.slice none 0 0), (.slice none 0 0)]))),
oS 3 17 119,
oM 18 120])
(.seq (.region [
oK 121 3 15,
oK 122 3 17,
oX 123 48 [121,122],
oM 124 123,
oP 125 124 true 16,
oP 126 124 true 18,
oG 127 124 true (.bin .eql (oO 125) (oO 126)),
oT 128 (.pick (oO 124) (oO 127) (.const (.bool false))),
oM 6 128])
.ret)))
(.seq (.region [
oT 130 (.bin .eql (oO 24) (.const (.int .i64 4))),
oM 129 130])
(.cond (oO 129)
(.seq (.region [
oM 132 0,
oF 133 1 5,
oL 134 133,
oF 135 2 5,
oL 136 135,
oF 137 3 5,
oL 138 137,
oX 139 16 [132,134,136,138],
oM 131 139,
oE 140 131 0,
oE 141 131 1,
oT 19 (.box (.const (.agg #[(.slice none 0 0), (.slice none 0 0), (.slice none 0 0)]))),
oS 3 19 140,
oM 20 141])
(.seq (.region [
oM 143 1,
oF 144 1 5,
oL 145 144,
oF 146 2 5,
oL 147 146,
oF 148 3 5,
oL 149 148,
oX 150 50 [143,145,147,149],
oM 142 150,
oE 151 142 0,
oE 152 142 1,
oT 21 (.box (.const (.agg #[(.slice none 0 0), (.slice none 0 0), (.slice none 0 0)]))),
oS 3 21 151,
oM 22 152])
(.seq (.region [
oK 153 3 19,
oK 154 3 21,
oX 155 48 [153,154],
oM 156 155,
oP 157 156 true 20,
oP 158 156 true 22,
oG 159 156 true (.bin .eql (oO 157) (oO 158)),
oT 160 (.pick (oO 156) (oO 159) (.const (.bool false))),
oM 6 160])
.ret)))
.skip))))))))))))
(.seq (.region [
oT 6 (.move (.const (.bool true)))])
.ret))) }
theorem ir22_eq : funcC Try.prog 22 = some ir22 := by kernel_rfl
def ir23 : IFunc :=
{ ntmps := 113, results := [.tmp 8], body :=
(.seq (.region [
oT 8 (.move (.const (.bool false)))])
(.seq (.region [
oM 13 0,
oM 14 2,
oX 15 25 [13,14],
oM 12 15,
oE 16 12 0,
oE 17 12 1,
oM 9 16,
oM 10 17])
(.seq (.region [
oM 18 3,
oT 19 (.bin .geq (oO 18) (.const (.int .i64 0))),
oM 20 19,
oP 21 20 true 3,
oP 22 20 true 1,
oG 23 20 true (.nilCheck (oO 22)),
oR 24 20 true 1 23,
oQ 25 20 true 24,
oG 26 20 true (.bin .lss (oO 21) (oO 25)),
oT 27 (.pick (oO 20) (oO 26) (.const (.bool false))),
oM 28 27,
oP 29 28 true 1,
oG 30 28 true (.nilCheck (oO 29)),
oR 31 28 true 3 30,
oQ 32 28 true 31,
oP 33 28 true 3,
oG 34 28 true (.indexAddr 1 (oO 32) (oO 33)),
oQ 35 28 true 34,
oG 36 28 true (.bin .gtr (oO 35) (.const (.int .i64 0))),
oT 37 (.pick (oO 28) (oO 36) (.const (.bool false))),
oM 11 37])
(.seq (.seq (.region [
oM 38 0,
oM 39 2,
oX 40 26 [38,39],
oM 41 1,
oM 42 2,
oX 43 44 [41,42],
oT 44 (.eqBool true (oO 40) (oO 43)),
oM 45 44,
oP 46 45 false 0,
oP 47 45 false 3,
oG 48 45 false (.call (.const (.func (.func 28) #[] #[])) [(oO 46), (oO 47)]),
oP 49 45 false 11,
oG 50 45 false (.eqBool true (oO 48) (oO 49)),
oT 51 (.pick (oO 45) (.const (.bool true)) (oO 50)),
oM 52 51,
oP 53 52 false 0,
oG 54 52 false (.call (.const (.func (.func 17) #[] #[])) [(oO 53)]),
oP 55 52 false 1,
oG 56 52 false (.call (.const (.func (.func 51) #[] #[])) [(oO 55)]),
oG 57 52 false (.call (.const (.func (.func 19) #[] #[])) [(oO 54), (oO 56)]),
oG 58 52 false (.un .not (oO 57)),
oT 59 (.pick (oO 52) (.const (.bool true)) (oO 58))])
(.cond (oO 59)
(.seq (.region [
oT 8 (.move (.const (.bool false)))])
.ret)
.skip))
(.seq (.seq (.region [
oM 60 1,
oM 61 2,
oX 62 44 [60,61],
oT 63 (.un .not (oO 62))])
(.cond (oO 63)
(.seq (.region [
oM 64 9,
oT 65 (.bin .eql (oO 64) (.const (.int .i64 (-1)))),
oM 66 65,
oP 67 66 true 10,
oG 68 66 true (.bin .eql (oO 67) (.const (.int .u32 0))),
oT 69 (.pick (oO 66) (oO 68) (.const (.bool false))),
oM 70 69,
oP 71 70 true 0,
oP 72 70 true 2,
oG 73 70 true (.call (.const (.func (.func 24) #[] #[])) [(oO 71), (oO 72)]),
oG 74 70 true (.lenSlice (oO 73)),
oG 75 70 true (.bin .eql (oO 74) (.const (.int .i64 0))),
oT 76 (.pick (oO 70) (oO 75) (.const (.bool false))),
oM 8 76])
.ret)
.skip))
(.seq (.drawn [
oN 77 9,
oM 78 1,
oH 79 (.nilCheck (oO 78)) [1] true,
oH 80 (.fieldAddr 2 (oO 79)) [2,1] true,
oH 81 (.load none (oO 80)) [3,2,1] true,
oN 82 2,
oH 83 (.indexAddr 3 (oO 81) (oO 82)) [4,5,3,2,1] true,
oH 84 (.fieldAddr 0 (oO 83)) [6,4,5,3,2,1] true,
oH 85 (.load none (oO 84)) [7,6,4,5,3,2,1] true,
oH 86 (.bin .eql (oO 77) (oO 85)) [0,8,7,6,4,5,3,2,1] true,
oH 87 (.move (oO 86)) [9,0,8,7,6,4,5,3,2,1] true,
oJ 88 87 true (.move (oO 10)) [10,9,0,8,7,6,4,5,3,2,1] false,
oJ 89 87 true (.move (oO 1)) [10,9,0,8,7,6,4,5,3,2,1] true,
oJ 90 87 true (.nilCheck (oO 89)) [12,10,9,0,8,7,6,4,5,3,2,1] true,
oJ 91 87 true (.fieldAddr 2 (oO 90)) [13,10,12,9,0,8,7,6,4,5,3,2,1] true,
oJ 92 87 true (.load none (oO 91)) [14,10,13,12,9,0,8,7,6,4,5,3,2,1] true,
oJ 93 87 true (.move (oO 2)) [10,9,0,8,7,6,4,5,3,2,1] false,
oJ 94 87 true (.indexAddr 3 (oO 92) (oO 93)) [15,16,10,14,13,12,9,0,8,7,6,4,5,3,2,1] true,
oJ 95 87 true (.fieldAddr 1 (oO 94)) [17,10,15,16,14,13,12,9,0,8,7,6,4,5,3,2,1] true,
oJ 96 87 true (.load none (oO 95)) [18,10,17,15,16,14,13,12,9,0,8,7,6,4,5,3,2,1] true,
oJ 97 87 true (.bin .eql (oO 88) (oO 96)) [11,19,10,9,0,8,7,6,4,5,3,2,1,18,17,15,16,14,13,12] true,
oH 98 (.pick (oO 87) (oO 97) (.const (.bool false))) [10,20,9,0,8,7,6,4,5,3,2,1,11,19,18,17,15,16,14,13,12] true,
oH 99 (.move (oO 98)) [21,10,20,9,0,8,7,6,4,5,3,2,1,11,19,18,17,15,16,14,13,12] true,
oJ 100 99 true (.move (oO 0)) [22,21,10,20,9,0,8,7,6,4,5,3,2,1,11,19,18,17,15,16,14,13,12] false,
oJ 101 99 true (.move (oO 2)) [22,21,10,20,9,0,8,7,6,4,5,3,2,1,11,19,18,17,15,16,14,13,12] false,
oJ 102 99 true (.call (.const (.func (.func 24) #[] #[])) [(oO 100), (oO 101)]) [23,24,22,21,10,20,9,0,8,7,6,4,5,3,2,1,11,19,18,17,15,16,14,13,12] false,
oJ 103 99 true (.move (oO 1)) [22,21,10,20,9,0,8,7,6,4,5,3,2,1,11,19,18,17,15,16,14,13,12] false,
oJ 104 99 true (.nilCheck (oO 103)) [26,22,21,10,20,9,0,8,7,6,4,5,3,2,1,11,19,18,17,15,16,14,13,12] false,
oJ 105 99 true (.fieldAddr 2 (oO 104)) [27,22,26,21,10,20,9,0,8,7,6,4,5,3,2,1,11,19,18,17,15,16,14,13,12] false,
oJ 106 99 true (.load none (oO 105)) [28,22,27,26,21,10,20,9,0,8,7,6,4,5,3,2,1,11,19,18,17,15,16,14,13,12] false,
oJ 107 99 true (.move (oO 2)) [22,21,10,20,9,0,8,7,6,4,5,3,2,1,11,19,18,17,15,16,14,13,12] false,
oJ 108 99 true (.indexAddr 3 (oO 106) (oO 107)) [29,30,22,28,27,26,21,10,20,9,0,8,7,6,4,5,3,2,1,11,19,18,17,15,16,14,13,12] false,
oJ 109 99 true (.fieldAddr 2 (oO 108)) [31,22,29,30,28,27,26,21,10,20,9,0,8,7,6,4,5,3,2,1,11,19,18,17,15,16,14,13,12] false,
oJ 110 99 true (.load none (oO 109)) [32,22,31,29,30,28,27,26,21,10,20,9,0,8,7,6,4,5,3,2,1,11,19,18,17,15,16,14,13,12] false,
oJ 111 99 true (.call (.const (.func (.func 52) #[] #[])) [(oO 102), (oO 110)]) [25,33,22,23,24,21,10,20,9,0,8,7,6,4,5,3,2,1,11,19,18,17,15,16,14,13,12,32,31,29,30,28,27,26] true,
oH 112 (.pick (oO 99) (oO 111) (.const (.bool false))) [22,34,21,10,20,9,0,8,7,6,4,5,3,2,1,11,19,18,17,15,16,14,13,12,25,33,23,24,32,31,29,30,28,27,26] true,
oH 8 (.move (oO 112)) [35,34,0,1,2,3,4,5,6,7,8,9,10,11,12,13,14,15,16,17,18,19,20,21,22,23,24,25,26,27,28,29,30,31,32,33] true])
.ret)))))) }
theorem ir23_eq : funcC Try.prog 23 = some ir23 := by kernel_rfl
def ir24 : IFunc :=
{ ntmps := 16, results := [.tmp 4], body :=
(.seq (.region [
oT 4 (.move (.const (.slice none 0 0)))])
(.seq (.seq (.region [
oM 5 0,
oM 6 1,
oX 7 26 [5,6],
oT 8 (.un .not (oO 7))])
(.cond (oO 8)
(.seq (.region [
oT 4 (.move (.const (.slice none 0 0)))])
.ret)
.skip))
(.seq (.region [
oM 9 0,
oC 10 9,
oF 11 4 10,
oL 12 11,
oM 13 1,
oT 14 (.lookup none (.pointer none) false (oO 12) (oO 13)),
oX 15 53 [14],
oM 4 15])
.ret))) }
theorem ir24_eq : funcC Try.prog 24 = some ir24 := by kernel_rfl
def ir25 : IFunc :=
{ ntmps := 18, results := [.tmp 4, .tmp 5], body :=
(.seq (.region [
oI 4 0,
oT 5 (.move (.const (.int .u32 0)))])
(.seq (.seq (.region [
oM 7 0,
oM 8 1,
oX 9 26 [7,8],
oT 10 (.un .not (oO 9))])
(.cond (oO 10)
(.seq (.region [
oI 4 (-1),
oT 5 (.move (.const (.int .u32 0)))])
.ret)
.skip))
(.seq (.region [
oM 11 0,
oM 12 1,
oX 13 32 [11,12],
oT 6 (.box (.const (.agg #[(.int .i64 0), (.int .u32 0)]))),
oS 2 6 13])
(.seq (.drawn [
oU 14 (.fieldAddr 0 (oO 6)),
oH 15 (.load none (oO 14)) [0] false,
oU 16 (.fieldAddr 1 (oO 6)),
oH 17 (.load none (oO 16)) [2] false,
oH 4 (.move (oO 15)) [1,0] false,
oH 5 (.move (oO 17)) [3,4,0,1,2] true])
.ret)))) }
theorem ir25_eq : funcC Try.prog 25 = some ir25 := by kernel_rfl
def ir26 : IFunc :=
{ ntmps := 33, results := [.tmp 4], body :=
(.seq (.region [
oT 4 (.move (.const (.bool false)))])
(.seq (.drawn [
oM 5 0,
oH 6 (.call (.const (.func (.func 30) #[] #[])) [(oO 5)]) [0] true,
oH 7 (.un .not (oO 6)) [1,0] true,
oH 8 (.move (oO 7)) [2,1,0] true,
oJ 9 8 true (.move (oO 1)) [3,2,1,0] true,
oJ 10 8 true (.bin .geq (oO 9) (.const (.int .i64 0))) [4,3,2,1,0] true,
oH 11 (.pick (oO 8) (oO 10) (.const (.bool false))) [3,5,2,1,0,4] true,
oH 12 (.move (oO 11)) [6,3,5,2,1,0,4] true,
oJ 13 12 true (.move (oO 1)) [7,6,3,5,2,1,0,4] false,
oJ 14 12 true (.move (oO 0)) [7,6,3,5,2,1,0,4] true,
oJ 15 12 true (.nilCheck (oO 14)) [9,7,6,3,5,2,1,0,4] true,
oJ 16 12 true (.fieldAddr 2 (oO 15)) [10,7,9,6,3,5,2,1,0,4] true,
oJ 17 12 true (.load none (oO 16)) [11,7,10,9,6,3,5,2,1,0,4] true,
oJ 18 12 true (.bin .lss (oO 13) (oO 17)) [8,12,7,6,3,5,2,1,0,4,11,10,9] true,
oH 19 (.pick (oO 12) (oO 18) (.const (.bool false))) [7,13,6,3,5,2,1,0,4,8,12,11,10,9] true,
oH 20 (.move (oO 19)) [14,7,13,6,3,5,2,1,0,4,8,12,11,10,9] true,
oJ 21 20 true (.move (oO 1)) [15,14,7,13,6,3,5,2,1,0,4,8,12,11,10,9] false,
oJ 22 20 true (.move (oO 0)) [15,14,7,13,6,3,5,2,1,0,4,8,12,11,10,9] false,
oJ 23 20 true (.nilCheck (oO 22)) [17,15,14,7,13,6,3,5,2,1,0,4,8,12,11,10,9] false,
oJ 24 20 true (.fieldAddr 1 (oO 23)) [18,15,17,14,7,13,6,3,5,2,1,0,4,8,12,11,10,9] false,
oJ 25 20 true (.load none (oO 24)) [19,15,18,17,14,7,13,6,3,5,2,1,0,4,8,12,11,10,9] false,
oJ 26 20 true (.bin .rem (oO 21) (oO 25)) [16,20,15,14,7,13,6,3,5,2,1,0,4,8,12,11,10,9,19,18,17] false,
oJ 27 20 true (.move (oO 0)) [15,14,7,13,6,3,5,2,1,0,4,8,12,11,10,9] false,
oJ 28 20 true (.nilCheck (oO 27)) [22,15,14,7,13,6,3,5,2,1,0,4,8,12,11,10,9] false,
oJ 29 20 true (.fieldAddr 0 (oO 28)) [23,15,22,14,7,13,6,3,5,2,1,0,4,8,12,11,10,9] false,
oJ 30 20 true (.load none (oO 29)) [24,15,23,22,14,7,13,6,3,5,2,1,0,4,8,12,11,10,9] false,
oJ 31 20 true (.bin .eql (oO 26) (oO 30)) [21,25,15,16,20,14,7,13,6,3,5,2,1,0,4,8,12,11,10,9,19,18,17,24,23,22] true,
oH 32 (.pick (oO 20) (oO 31) (.const (.bool false))) [15,26,14,7,13,6,3,5,2,1,0,4,8,12,11,10,9,21,25,16,20,19,18,17,24,23,22] true,
oH 4 (.move (oO 32)) [27,15,0,1,2,3,4,5,6,7,8,9,10,11,12,13,14,16,17,18,19,20,21,22,23,24,25,26] true])
.ret)) }
theorem ir26_eq : funcC Try.prog 26 = some ir26 := by kernel_rfl
def ir28 : IFunc :=
{ ntmps := 17, results := [.tmp 4], body :=
(.seq (.region [
oT 4 (.move (.const (.bool false)))])
(.seq (.region [
oM 5 0,
oM 6 1,
oX 7 31 [5,6],
oM 8 7,
oP 9 8 true 0,
oG 10 8 true (.nilCheck (oO 9)),
oR 11 8 true 5 10,
oQ 12 8 true 11,
oP 13 8 true 1,
oG 14 8 true (.lookup none (.int .i64 0) false (oO 12) (oO 13)),
oG 15 8 true (.bin .gtr (oO 14) (.const (.int .i64 0))),
oT 16 (.pick (oO 8) (oO 15) (.const (.bool false))),
oM 4 16])
.ret)) }
theorem ir28_eq : funcC Try.prog 28 = some ir28 := by kernel_rfl
def ir29 : IFunc :=
{ ntmps := 87, results := [.tmp 4], body :=
(.seq (.region [
oB 2 0,
oB 3 1,
oT 4 (.move (.const (.bool false)))])
(.seq (.seq (.region [
oF 6 0 2,
oL 7 6,
oF 8 0 3,
oL 9 8,
oT 10 (.bin .neq (oO 7) (oO 9)),
oM 11 10,
oR 12 11 false 1 2,
oQ 13 11 false 12,
oR 14 11 false 1 3,
oQ 15 11 false 14,
oG 16 11 false (.bin .neq (oO 13) (oO 15)),
oT 17 (.pick (oO 11) (.const (.bool true)) (oO 16)),
oM 18 17,
oR 19 18 false 2 2,
oQ 20 18 false 19,
oR 21 18 false 2 3,
oQ 22 18 false 21,
oG 23 18 false (.bin .neq (oO 20) (oO 22)),
oT 24 (.pick (oO 18) (.const (.bool true)) (oO 23)),
oM 25 24,
oR 26 25 false 3 2,
oQ 27 25 false 26,
oR 28 25 false 3 3,
oQ 29 25 false 28,
oG 30 25 false (.bin .neq (oO 27) (oO 29)),
oT 31 (.pick (oO 25) (.const (.bool true)) (oO 30)),
oM 32 31,
oR 33 32 false 4 2,
oQ 34 32 false 33,
oR 35 32 false 4 3,
oQ 36 32 false 35,
oG 37 32 false (.bin .neq (oO 34) (oO 36)),
oT 38 (.pick (oO 32) (.const (.bool true)) (oO 37)),
oM 39 38,
oR 40 39 false 5 2,
oQ 41 39 false 40,
oR 42 39 false 5 3,
oQ 43 39 false 42,
oG 44 39 false (.bin .neq (oO 41) (oO 43)),
oT 45 (.pick (oO 39) (.const (.bool true)) (oO 44)),
oM 46 45,
oR 47 46 false 6 2,
oQ 48 46 false 47,
oR 49 46 false 6 3,
oQ 50 46 false 49,
oG 51 46 false (.bin .neq (oO 48) (oO 50)),
oT 52 (.pick (oO 46) (.const (.bool true)) (oO 51)),
oM 53 52,
oR 54 53 false 7 2,
oQ 55 53 false 54,
oR 56 53 false 7 3,
oQ 57 53 false 56,
oG 58 53 false (.bin .neq (oO 55) (oO 57)),
oT 59 (.pick (oO 53) (.const (.bool true)) (oO 58)),
oM 60 59,
oR 61 60 false 8 2,
oQ 62 60 false 61,
oG 63 60 false (.lenSlice (oO 62)),
oR 64 60 false 8 3,
oQ 65 60 false 64,
oG 66 60 false (.lenSlice (oO 65)),
oG 67 60 false (.bin .neq (oO 63) (oO 66)),
oT 68 (.pick (oO 60) (.const (.bool true)) (oO 67))])
(.cond (oO 68)
(.seq (.region [
oT 4 (.move (.const (.bool false)))])
.ret)
.skip))
(.seq (.seq (.region [
oI 5 0])
(.block 0 (.loop (.seq (.seq (.region [
oM 69 5,
oF 70 8 2,
oL 71 70,
oT 72 (.lenSlice (oO 71)),
oT 73 (.bin .lss (oO 69) (oO 72))])
(.cond (oO 73)
.skip
(.exit 0)))
(.seq (.block 1 (.seq (.drawn [
oU 76 (.fieldAddr 8 (oO 2)),
oH 77 (.load none (oO 76)) [0] false,
oN 78 5,
oH 79 (.indexAddr 2 (oO 77) (oO 78)) [1,2,0] false,
oH 80 (.load (some 2) (oO 79)) [3,1,2,0] false,
oU 81 (.fieldAddr 8 (oO 3)),
oH 82 (.load none (oO 81)) [5] false,
oN 83 5,
oH 84 (.indexAddr 2 (oO 82) (oO 83)) [6,7,5] false,
oH 85 (.load (some 2) (oO 84)) [8,6,7,5] false,
oH 86 (.eqAgg true [.int, .int] (oO 80) (oO 85)) [4,9,3,1,2,0,8,6,7,5] true])
(.cond (oO 86)
(.seq (.region [
oT 4 (.move (.const (.bool false)))])
.ret)
.skip)))
(.region [
oM 74 5,
oT 75 (.bin .add (oO 74) (.const (.int .i64 1))),
oM 5 75]))))))
(.seq (.region [
oT 4 (.move (.const (.bool true)))])
.ret)))) }
theorem ir29_eq : funcC Try.prog 29 = some ir29 := by kernel_rfl
def ir30 : IFunc :=
{ ntmps := 12, results := [.tmp 2], body :=
(.seq (.region [
oT 2 (.move (.const (.bool false)))])
(.seq (.region [
oM 3 0,
oT 4 (.eqPtr false (oO 3) (.const (.pointer none))),
oM 5 4,
oP 6 5 false 0,
oG 7 5 false (.nilCheck (oO 6)),
oR 8 5 false 1 7,
oQ 9 5 false 8,
oG 10 5 false (.bin .eql (oO 9) (.const (.int .i64 0))),
oT 11 (.pick (oO 5) (.const (.bool true)) (oO 10)),
oM 2 11])
.ret)) }
theorem ir30_eq : funcC Try.prog 30 = some ir30 := by kernel_rfl
def ir31 : IFunc :=
{ ntmps := 20, results := [.tmp 4], body :=
(.seq (.region [
oT 4 (.move (.const (.bool false)))])
(.seq (.region [
oM 5 0,
oX 6 30 [5],
oT 7 (.un .not (oO 6)),
oM 8 7,
oP 9 8 true 1,
oG 10 8 true (.bin .geq (oO 9) (.const (.int .i64 0))),
oT 11 (.pick (oO 8) (oO 10) (.const (.bool false))),
oM 12 11,
oP 13 12 true 1,
oP 14 12 true 0,
oG 15 12 true (.nilCheck (oO 14)),
oR 16 12 true 1 15,
oQ 17 12 true 16,
oG 18 12 true (.bin .lss (oO 13) (oO 17)),
oT 19 (.pick (oO 12) (oO 18) (.const (.bool false))),
oM 4 19])
.ret)) }
theorem ir31_eq : funcC Try.prog 31 = some ir31 := by kernel_rfl
def ir32 : IFunc :=
{ ntmps := 19, results := [.cell 4 (some 2)], body :=
(.seq (.region [
oT 4 (.box (.const (.agg #[(.int .i64 0), (.int .u32 0)])))])
(.seq (.seq (.region [
oM 8 0,
oC 9 8,
oF 10 3 9,
oL 11 10,
oM 12 1,
oT 13 (.lookup none (.agg #[(.int .i64 0), (.int .u32 0)]) true (oO 11) (oO 12)),
oM 7 13,
oE 14 7 0,
oE 15 7 1,
oT 5 (.box (.const (.agg #[(.int .i64 0), (.int .u32 0)]))),
oS 2 5 14,
oM 6 15])
(.seq (.region [
oM 16 6])
(.cond (oO 16)
(.seq (.region [
oK 17 2 5,
oS 2 4 17])
.ret)
.skip)))
(.seq (.region [
oX 18 33 [],
oS 2 4 18])
.ret))) }
theorem ir32_eq : funcC Try.prog 32 = some ir32 := by kernel_rfl
def ir33 : IFunc :=
{ ntmps := 2, results := [.cell 0 (some 2)], body :=
(.seq (.region [
oT 0 (.box (.const (.agg #[(.int .i64 0), (.int .u32 0)])))])
(.seq (.region [
oT 1 (.build [(.int .i64 0), (.int .u32 0)] [(0, 1, (.const (.int .i64 (-1))))]),
oS 2 0 1])
.ret)) }
theorem ir33_eq : funcC Try.prog 33 = some ir33 := by kernel_rfl
def ir34 : IFunc :=
{ ntmps := 34, results := [], body :=
(.seq (.region [
oB 6 2])
(.seq (.drawn [
oN 8 0,
oH 9 (.nilCheck (oO 8)) [0] false,
oH 10 (.fieldAddr 3 (oO 9)) [1,0] false,
oH 11 (.load none (oO 10)) [2,1,0] false,
oN 12 1,
oU 13 (.load (some 2) (oO 6)),
⟨none, .mapUpdate none (.tmp 11) (.tmp 12) (.tmp 13), none, [3, 4, 5, 0, 1, 2], true⟩])
(.seq (.seq (.drawn [
oU 14 (.load (some 2) (oO 6)),
oU 15 (.call (.const (.func (.func 33) #[] #[])) []),
oH 16 (.eqAgg false [.int, .int] (oO 14) (oO 15)) [0,1] true])
(.cond (oO 16)
(.region [
oM 17 0,
oC 18 17,
oF 19 3 18,
oL 20 19,
oM 21 1,
oY (.delete none (oO 20) (oO 21))])
.skip))
(.drawn [
oN 22 3,
oN 23 3,
oH 24 (.nilCheck (oO 23)) [1] false,
oH 25 (.fieldAddr 0 (oO 24)) [2,1] false,
oH 26 (.load none (oO 25)) [3,2,1] false,
oN 27 1,
oU 28 (.load (some 2) (oO 6)),
oH 29 (.call (.const (.func (.func 42) #[] #[])) [(oO 27), (oO 28)]) [5,6] false,
oH 30 (.buildSlice 3 1 [(.int .i64 0), (.int .i64 0), (.slice none 0 0)] [(0, (oO 29))]) [7,5,6] false,
oH 31 (.append 3 40 (oO 26) (oO 30)) [4,8,7,3,2,1,5,6] true,
oH 32 (.nilCheck (oO 22)) [0,1,2,3,4,5,6,7,8,9] true,
oH 33 (.fieldAddr 0 (oO 32)) [10,0,1,2,3,4,5,6,7,8,9] true,
⟨none, .store 1 (.tmp 33) (.tmp 31), none, [11, 9, 0, 1, 2, 3, 4, 5, 6, 7, 8, 10], true⟩])))) }
theorem ir34_eq : funcC Try.prog 34 = some ir34 := by kernel_rfl
def ir35 : IFunc :=
{ ntmps := 16, results := [], body :=
(.seq (.region [
oB 2 0,
oB 3 1])
(.seq (.region [
oL 5 2,
oX 6 36 [5]])
(.block 0 (.rangeFunc (.tmp 6) [7]
(.region [
oM 4 7])
(.block 1 (.drawn [
oU 8 (.load none (oO 2)),
oH 9 (.nilCheck (oO 8)) [0] false,
oH 10 (.fieldAddr 4 (oO 9)) [1,0] false,
oH 11 (.load none (oO 10)) [2,1,0] false,
oN 12 4,
oH 13 (.lookup none (.pointer none) false (oO 11) (oO 12)) [3,4,2,1,0] false,
oU 14 (.load none (oO 3)),
oH 15 (.call (.const (.func (.func 54) #[] #[])) [(oO 13), (oO 14)]) [5,6,3,4,2,1,0] true])))))) }
theorem ir35_eq : funcC Try.prog 35 = some ir35 := by kernel_rfl
def ir36 : IFunc :=
{ ntmps := 4, results := [.tmp 2], body :=
(.seq (.region [
oB 1 0,
oT 2 (.move (.const .nilFunc))])
(.seq (.region [
oT 3 (.func (.func 55) [] [(oO 1)]),
oM 2 3])
.ret)) }
theorem ir36_eq : funcC Try.prog 36 = some ir36 := by kernel_rfl
def ir37 : IFunc :=
{ ntmps := 9, results := [.tmp 4], body :=
(.seq (.region [
oB 3 1,
oT 4 (.move (.const (.bool false)))])
(.seq (.region [
oM 5 0,
oK 6 2 3,
oX 7 56 [5,6],
oT 8 (.bin .geq (oO 7) (.const (.int .i64 0))),
oM 4 8])
.ret)) }
theorem ir37_eq : funcC Try.prog 37 = some ir37 := by kernel_rfl
def ir38 : IFunc :=
{ ntmps := 45, results := [], body :=
(.seq (.region [
oM 9 0,
oM 10 1,
oM 11 0,
oM 12 1,
oX 13 32 [11,12],
oT 14 (.field 1 none (oO 13)),
oT 15 (.build [(.int .i64 0), (.int .u32 0)] [(0, 1, (.const (.int .i64 (-1)))), (1, 1, (oO 14))]),
oM 16 2,
oX 17 34 [9,10,15,16]])
(.seq (.region [
oM 18 0,
oC 19 18,
oF 20 4 19,
oL 21 20,
oM 22 1,
oT 23 (.lookup none (.pointer none) false (oO 21) (oO 22)),
oM 6 23])
(.seq (.region [
oM 25 6,
oX 26 57 [25],
oM 24 26,
oE 27 24 0,
oE 28 24 1,
oT 7 (.box (.const (.agg #[(.int .i64 0), (.int .u64 0), (.int .i64 0)]))),
oS 3 7 27,
oM 8 28])
(.block 0 (.loop (.seq (.seq (.region [
oM 29 8])
(.cond (oO 29)
.skip
(.exit 0)))
(.seq (.block 1 (.seq (.region [
oM 35 6,
oF 36 0 7,
oL 37 36,
oX 38 54 [35,37]])
(.seq (.region [
oM 39 0,
oK 40 3 7,
oM 41 1,
oM 42 2,
oX 43 40 [39,40,41,42]])
(.cond (oO 43)
.ret
.skip))))
(.seq (.seq (.region [
oK 44 3 7])
(.region [
oT 7 (.box (.const (.agg #[(.int .i64 0), (.int .u64 0), (.int .i64 0)]))),
oS 3 7 44]))
(.region [
oM 31 6,
oX 32 57 [31],
oM 30 32,
oE 33 30 0,
oE 34 30 1,
oS 3 7 33,
oM 8 34]))))))))) }
theorem ir38_eq : funcC Try.prog 38 = some ir38 := by kernel_rfl
def ir39 : IFunc :=
{ ntmps := 32, results := [], body :=
(.seq (.region [
oB 5 2])
(.seq (.drawn [
oN 6 0,
oN 7 0,
oH 8 (.nilCheck (oO 7)) [1] false,
oH 9 (.fieldAddr 1 (oO 8)) [2,1] false,
oH 10 (.load none (oO 9)) [3,2,1] false,
oN 11 1,
oU 12 (.load (some 9) (oO 5)),
oH 13 (.build [(.int .i64 0), (.int .i64 0), (.int .i64 0), (.int .u32 0), (.int .u64 0), (.int .i64 0), (.int .i64 0), (.int .i64 0), (.int .i64 0), (.slice none 0 0)] [(0, 1, (oO 11)), (1, 9, (oO 12))]) [5,6] false,
oH 14 (.buildSlice 10 1 [(.int .i64 0), (.int .i64 0), (.int .i64 0), (.int .u32 0), (.int .u64 0), (.int .i64 0), (.int .i64 0), (.int .i64 0), (.int .i64 0), (.slice none 0 0)] [(0, (oO 13))]) [7,5,6] false,
oH 15 (.append 10 96 (oO 10) (oO 14)) [4,8,3,2,1,7,5,6] true,
oH 16 (.nilCheck (oO 6)) [0,1,2,3,4,5,6,7,8,9] true,
oH 17 (.fieldAddr 1 (oO 16)) [10,0,1,2,3,4,5,6,7,8,9] true,
⟨none, .store 1 (.tmp 17) (.tmp 15), none, [11, 9, 0, 1, 2, 3, 4, 5, 6, 7, 8, 10], true⟩])
(.drawn [
oN 18 0,
oN 19 0,
oH 20 (.nilCheck (oO 19)) [1] false,
oH 21 (.fieldAddr 2 (oO 20)) [2,1] false,
oH 22 (.load none (oO 21)) [3,2,1] false,
oN 23 0,
oH 24 (.nilCheck (oO 23)) [5] false,
oH 25 (.fieldAddr 0 (oO 24)) [6,5] false,
oH 26 (.load none (oO 25)) [7,6,5] false,
oH 27 (.lenSlice (oO 26)) [8,7,6,5] false,
oH 28 (.buildSlice 1 1 [(.int .i64 0)] [(0, (oO 27))]) [9,8,7,6,5] false,
oH 29 (.append 1 8 (oO 22) (oO 28)) [4,10,3,2,1,9,8,7,6,5] true,
oH 30 (.nilCheck (oO 18)) [0,1,2,3,4,5,6,7,8,9,10,11] true,
oH 31 (.fieldAddr 2 (oO 30)) [12,0,1,2,3,4,5,6,7,8,9,10,11] true,
⟨none, .store 1 (.tmp 31) (.tmp 29), none, [13, 11, 0, 1, 2, 3, 4, 5, 6, 7, 8, 9, 10, 12], true⟩]))) }
theorem ir39_eq : funcC Try.prog 39 = some ir39 := by kernel_rfl
def ir40 : IFunc :=
{ ntmps := 45, results := [.tmp 8], body :=
(.seq (.region [
oB 5 1,
oT 8 (.move (.const (.bool false)))])
(.seq (.region [
oM 10 0,
oM 11 2,
oX 12 32 [10,11],
oT 9 (.box (.const (.agg #[(.int .i64 0), (.int .u32 0)]))),
oS 2 9 12])
(.seq (.seq (.region [
oF 13 1 9,
oL 14 13,
oT 15 (.bin .eql (oO 14) (.const (.int .u32 4294967295)))])
(.cond (oO 15)
(.seq (.region [
oM 16 3,
oF 17 0 5,
oL 18 17,
oM 19 2,
oF 20 1 5,
oL 21 20,
oT 22 (.build [(.int .i64 0), (.int .i64 0), (.int .u32 0), (.int .u64 0), (.int .i64 0), (.int .i64 0), (.int .i64 0), (.int .i64 0), (.slice none 0 0)] [(0, 1, (.const (.int .i64 5))), (1, 1, (oO 19)), (3, 1, (oO 21)), (7, 1, (.const (.int .i64 (-1))))]),
oX 23 39 [16,18,22]])
(.seq (.region [
oT 8 (.move (.const (.bool false)))])
.ret))
.skip))
(.seq (.region [
oF 24 0 5,
oL 25 24,
oF 26 1 9,
oL 27 26,
oT 28 (.bin .add (oO 27) (.const (.int .u32 1))),
oT 29 (.build [(.int .i64 0), (.int .u32 0)] [(0, 1, (oO 25)), (1, 1, (oO 28))]),
oS 2 9 29])
(.seq (.region [
oM 30 0,
oM 31 2,
oK 32 2 9,
oM 33 3,
oX 34 34 [30,31,32,33]])
(.seq (.region [
oM 35 3,
oF 36 0 5,
oL 37 36,
oM 38 2,
oF 39 1 9,
oL 40 39,
oF 41 1 5,
oL 42 41,
oT 43 (.build [(.int .i64 0), (.int .i64 0), (.int .u32 0), (.int .u64 0), (.int .i64 0), (.int .i64 0), (.int .i64 0), (.int .i64 0), (.slice none 0 0)] [(0, 1, (.const (.int .i64 2))), (1, 1, (oO 38)), (2, 1, (oO 40)), (3, 1, (oO 42))]),
oX 44 39 [35,37,43]])
(.seq (.region [
oT 8 (.move (.const (.bool true)))])
.ret))))))) }
theorem ir40_eq : funcC Try.prog 40 = some ir40 := by kernel_rfl
def ir41 : IFunc :=
{ ntmps := 78, results := [], body :=
(.seq (.region [
oB 6 1,
oB 8 3])
(.seq (.region [
oM 16 0,
oC 17 16,
oF 18 4 17,
oL 19 18,
oM 20 2,
oT 21 (.lookup none (.pointer none) false (oO 19) (oO 20)),
oM 10 21])
(.seq (.seq (.region [
oM 22 10,
oT 23 (.eqPtr false (oO 22) (.const (.pointer none)))])
(.cond (oO 23)
(.seq (.region [
oT 24 (.build [(.slice none 0 0)] []),
oB 25 24,
oM 10 25])
(.region [
oM 26 0,
oC 27 26,
oF 28 4 27,
oL 29 28,
oM 30 2,
oM 31 10,
oY (.mapUpdate none (oO 29) (oO 30) (oO 31))]))
.skip))
(.seq (.region [
oM 32 2,
oF 33 1 6,
oL 34 33,
oT 35 (.build [(.int .i64 0), (.int .i64 0), (.int .u32 0), (.int .u64 0), (.int .i64 0), (.int .i64 0), (.int .i64 0), (.int .i64 0), (.slice none 0 0)] [(0, 1, (.const (.int .i64 5))), (1, 1, (oO 32)), (3, 1, (oO 34)), (7, 1, (.const (.int .i64 (-1))))]),
oT 11 (.box (.const (.agg #[(.int .i64 0), (.int .i64 0), (.int .u32 0), (.int .u64 0), (.int .i64 0), (.int .i64 0), (.int .i64 0), (.int .i64 0), (.slice none 0 0)]))),
oS 9 11 35])
(.seq (.seq (.region [
oM 37 10,
oK 38 3 6,
oX 39 58 [37,38],
oM 36 39,
oE 40 36 0,
oE 41 36 1,
oM 12 40,
oM 13 41])
(.seq (.region [
oM 42 12,
oT 43 (.un .not (oO 42))])
(.cond (oO 43)
(.seq (.region [
oM 44 4,
oF 45 0 6,
oL 46 45,
oK 47 9 11,
oX 48 39 [44,46,47]])
.ret)
.skip)))
(.seq (.region [
oF 49 0 8,
oL 50 49,
oF 51 7 11,
oS 1 51 50])
(.seq (.region [
oM 52 4,
oF 53 0 6,
oL 54 53,
oK 55 9 11,
oX 56 39 [52,54,55]])
(.seq (.region [
oM 58 10,
oX 59 57 [58],
oM 57 59,
oE 60 57 0,
oE 61 57 1,
oT 14 (.box (.const (.agg #[(.int .i64 0), (.int .u64 0), (.int .i64 0)]))),
oS 3 14 60,
oM 15 61])
(.seq (.region [
oM 62 4,
oF 63 0 8,
oL 64 63,
oM 65 2,
oF 66 2 14,
oL 67 66,
oT 68 (.build [(.int .i64 0), (.int .i64 0), (.int .u32 0), (.int .u64 0), (.int .i64 0), (.int .i64 0), (.int .i64 0), (.int .i64 0), (.slice none 0 0)] [(0, 1, (.const (.int .i64 8))), (1, 1, (oO 65)), (4, 1, (oO 67))]),
oX 69 39 [62,64,68]])
(.region [
oM 70 4,
oF 71 0 8,
oL 72 71,
oM 73 2,
oF 74 1 8,
oL 75 74,
oT 76 (.build [(.int .i64 0), (.int .i64 0), (.int .u32 0), (.int .u64 0), (.int .i64 0), (.int .i64 0), (.int .i64 0), (.int .i64 0), (.slice none 0 0)] [(0, 1, (.const (.int .i64 10))), (1, 1, (oO 73)), (2, 1, (oO 75))]),
oX 77 39 [70,72,76]])))))))))) }
theorem ir41_eq : funcC Try.prog 41 = some ir41 := by kernel_rfl
def ir42 : IFunc :=
{ ntmps := 32, results := [.cell 4 (some 3)], body :=
(.seq (.region [
oB 3 1,
oT 4 (.box (.const (.agg #[(.int .i64 0), (.int .i64 0), (.slice none 0 0)])))])
(.seq (.region [
oM 6 0,
oT 7 (.build [(.int .i64 0), (.int .i64 0), (.slice none 0 0)] [(0, 1, (.const (.int .i64 3))), (1, 1, (oO 6))]),
oT 5 (.box (.const (.agg #[(.int .i64 0), (.int .i64 0), (.slice none 0 0)]))),
oS 3 5 7])
(.seq (.seq (.drawn [
oU 8 (.load (some 2) (oO 3)),
oU 9 (.call (.const (.func (.func 33) #[] #[])) []),
oH 10 (.eqAgg true [.int, .int] (oO 8) (oO 9)) [0,1] true])
(.cond (oO 10)
(.region [
oF 11 0 3,
oL 12 11,
oT 13 (.conv .u8 (oO 12)),
oF 14 1 3,
oL 15 14,
oT 16 (.bin .shr (oO 15) (.const (.int .u64 24))),
oT 17 (.conv .u8 (oO 16)),
oF 18 1 3,
oL 19 18,
oT 20 (.bin .shr (oO 19) (.const (.int .u64 16))),
oT 21 (.conv .u8 (oO 20)),
oF 22 1 3,
oL 23 22,
oT 24 (.bin .shr (oO 23) (.const (.int .u64 8))),
oT 25 (.conv .u8 (oO 24)),
oF 26 1 3,
oL 27 26,
oT 28 (.conv .u8 (oO 27)),
oT 29 (.buildSlice 1 5 [(.int .u8 0)] [(0, (oO 13)), (1, (oO 17)), (2, (oO 21)), (3, (oO 25)), (4, (oO 28))]),
oF 30 2 5,
oS 1 30 29])
.skip))
(.seq (.region [
oK 31 3 5,
oS 3 4 31])
.ret)))) }
theorem ir42_eq : funcC Try.prog 42 = some ir42 := by kernel_rfl
end Go.Proofs.Ytmpnldmdchchjaa
