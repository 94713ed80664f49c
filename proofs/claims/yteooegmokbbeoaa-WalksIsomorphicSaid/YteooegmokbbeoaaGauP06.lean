/- The functions' abstract code, printed by acgen.py. -/
import Derived.Test.YteooegmokbbeoaaGauA
set_option maxRecDepth 100000
namespace Go.AM
def B2_2 : AC :=
(.seq (.seq (.reg 0 [⟨some 31, .mv (.t 7), none, 0, false, []⟩,
⟨some 32, .fad 0 (.t 4), none, 0, false, []⟩,
⟨some 33, .ld 1 false (.t 32), none, 0, false, []⟩,
⟨some 34, .bin .lss (.t 31) (.t 33), none, 0, false, []⟩])
(.cond (.t 34)
.skip
(.exit 2)))
(.seq (.block 3 (.seq (.reg 0 [⟨some 8, .mv (.c (.int .i64 0)), none, 0, false, []⟩])
(.seq (.seq (.reg 0 [⟨some 37, .mv (.t 5), none, 0, false, []⟩,
⟨some 38, .fad 0 (.t 4), none, 0, false, []⟩,
⟨some 39, .ld 1 false (.t 38), none, 0, false, []⟩,
⟨some 40, .bin .mul (.t 37) (.t 39), none, 0, false, []⟩,
⟨some 41, .mv (.t 7), none, 0, false, []⟩,
⟨some 42, .bin .add (.t 40) (.t 41), none, 0, false, []⟩,
⟨some 9, .mv (.t 42), none, 0, false, []⟩])
(.seq (.reg 0 [⟨some 43, .mv (.t 9), none, 0, false, []⟩,
⟨some 44, .fad 4 (.t 1), none, 0, false, []⟩,
⟨some 45, .ld 1 false (.t 44), none, 0, false, []⟩,
⟨some 46, .len 0 (.t 45), none, 0, false, []⟩,
⟨some 47, .bin .lss (.t 43) (.t 46), none, 0, false, []⟩])
(.cond (.t 47)
(.reg 0 [⟨some 48, .fad 4 (.t 1), none, 0, false, []⟩,
⟨some 49, .ld 1 false (.t 48), none, 0, false, []⟩,
⟨some 50, .mv (.t 9), none, 0, false, []⟩,
⟨some 51, .iad 1 (.t 49) (.t 50), none, 0, false, []⟩,
⟨some 52, .ld 1 false (.t 51), none, 0, false, []⟩,
⟨some 53, .conv .i64 (.t 52), none, 0, false, []⟩,
⟨some 8, .mv (.t 53), none, 0, false, []⟩])
.skip)))
(.seq (.reg 0 [⟨some 54, .fad 3 (.t 1), none, 0, false, []⟩,
⟨some 55, .ld 1 false (.t 54), none, 0, false, []⟩,
⟨some 56, .mv (.t 55), none, 0, false, []⟩,
⟨some 57, .mv (.t 8), (some (56, true)), 0, false, []⟩,
⟨some 58, .bin .rem (.t 57) (.c (.int .i64 4)), (some (56, true)), 0, false, []⟩,
⟨some 59, .bin .eql (.t 58) (.c (.int .i64 3)), (some (56, true)), 0, false, []⟩,
⟨some 60, .pick (.t 56) (.t 59) (.c (.bool false)), none, 0, false, []⟩])
(.cond (.t 60)
(.reg 2 [⟨some 61, .mv (.t 6), none, 0, false, []⟩,
⟨some 62, .build [.int .i64 0, .int .i64 0] [(0, 1, (.c (.int .i64 (-1)))), (1, 1, (.c (.int .i64 (-1))))], none, 0, false, []⟩,
⟨some 63, .bsl 2 1 [.int .i64 0, .int .i64 0] [(0, 2, (.t 62))], none, 0, false, []⟩,
⟨some 64, .app 2 16 (.t 61) (.t 63), none, 1, false, []⟩,
⟨some 6, .mv (.t 64), none, 2, false, []⟩])
(.regd [[], [], [1], [], [1, 2, 3], [], [5], [], [5, 6, 7], [], [9], [5, 6, 7, 8, 9, 10], [1, 2, 3, 4, 5, 6, 7, 8, 9, 10, 11], [1, 2, 3, 4, 5, 6, 7, 8, 9, 10, 11, 12], [0, 1, 2, 3, 4, 5, 6, 7, 8, 9, 10, 11, 12, 13], [0, 1, 2, 3, 4, 5, 6, 7, 8, 9, 10, 11, 12, 13, 14]] 2 [⟨some 65, .mv (.t 6), none, 0, false, []⟩,
⟨some 66, .mv (.t 8), none, 0, false, []⟩,
⟨some 67, .bin .quo (.t 66) (.c (.int .i64 4)), none, 0, false, []⟩,
⟨some 68, .mv (.t 3), none, 0, false, []⟩,
⟨some 69, .bin .rem (.t 67) (.t 68), none, 0, false, []⟩,
⟨some 70, .mv (.t 8), none, 0, false, []⟩,
⟨some 71, .bin .quo (.t 70) (.c (.int .i64 4)), none, 0, false, []⟩,
⟨some 72, .mv (.t 3), none, 0, false, []⟩,
⟨some 73, .bin .quo (.t 71) (.t 72), none, 0, false, []⟩,
⟨some 74, .fad 1 (.t 4), none, 0, false, []⟩,
⟨some 75, .ld 1 false (.t 74), none, 0, false, []⟩,
⟨some 76, .bin .rem (.t 73) (.t 75), none, 0, false, []⟩,
⟨some 77, .build [.int .i64 0, .int .i64 0] [(0, 1, (.t 69)), (1, 1, (.t 76))], none, 0, false, []⟩,
⟨some 78, .bsl 2 1 [.int .i64 0, .int .i64 0] [(0, 2, (.t 77))], none, 0, false, []⟩,
⟨some 79, .app 2 16 (.t 65) (.t 78), none, 1, false, []⟩,
⟨some 6, .mv (.t 79), none, 2, false, []⟩]))))))
(.reg 0 [⟨some 35, .mv (.t 7), none, 0, false, []⟩,
⟨some 36, .bin .add (.t 35) (.c (.int .i64 1)), none, 0, false, []⟩,
⟨some 7, .mv (.t 36), none, 0, false, []⟩])))
def B2_1 : AC :=
(.seq (.seq (.reg 0 [⟨some 26, .mv (.t 5), none, 0, false, []⟩,
⟨some 27, .mv (.t 3), none, 0, false, []⟩,
⟨some 28, .bin .lss (.t 26) (.t 27), none, 0, false, []⟩])
(.cond (.t 28)
.skip
(.exit 0)))
(.seq (.block 1 (.seq (.reg 1 [⟨some 6, .mv (.c (.nils)), none, 0, false, [(0, 2)]⟩])
(.seq (.seq (.reg 0 [⟨some 7, .mv (.c (.int .i64 0)), none, 0, false, []⟩])
(.block 2 (.loop false B2_2)))
(.reg 2 [⟨some 80, .fad 2 (.t 4), none, 0, false, []⟩,
⟨some 81, .ld 1 false (.t 80), none, 0, false, []⟩,
⟨some 82, .mv (.t 6), none, 0, false, []⟩,
⟨some 83, .bsl 1 1 [.nils] [(0, 1, (.t 82))], none, 0, true, []⟩,
⟨some 84, .app 1 24 (.t 81) (.t 83), none, 1, false, []⟩,
⟨some 85, .fad 2 (.t 4), none, 2, false, []⟩,
⟨none, .st 1 (.t 85) (.t 84), none, 2, false, []⟩]))))
(.reg 0 [⟨some 29, .mv (.t 5), none, 0, false, []⟩,
⟨some 30, .bin .add (.t 29) (.c (.int .i64 1)), none, 0, false, []⟩,
⟨some 5, .mv (.t 30), none, 0, false, []⟩])))
def c2 : AFun :=
{ keep := true, np := 1, nt := 87, res := [.cell 2 3 true], body :=
(.seq (.reg 2 [⟨some 1, .box (.t 0), none, 0, false, []⟩,
⟨some 2, .alloc [.int .i64 0, .int .i64 0, .nils], none, 1, false, []⟩])
(.seq (.reg 0 [⟨some 10, .fad 0 (.t 1), none, 0, false, []⟩,
⟨some 11, .ld 1 false (.t 10), none, 0, false, []⟩,
⟨some 12, .bin .rem (.t 11) (.c (.int .u8 6)), none, 0, false, []⟩,
⟨some 13, .conv .i64 (.t 12), none, 0, false, []⟩,
⟨some 14, .bin .add (.c (.int .i64 1)) (.t 13), none, 0, false, []⟩,
⟨some 3, .mv (.t 14), none, 0, false, []⟩])
(.seq (.reg 3 [⟨some 15, .fad 1 (.t 1), none, 0, false, []⟩,
⟨some 16, .ld 1 false (.t 15), none, 0, false, []⟩,
⟨some 17, .bin .rem (.t 16) (.c (.int .u8 3)), none, 0, false, []⟩,
⟨some 18, .conv .i64 (.t 17), none, 0, false, []⟩,
⟨some 19, .bin .add (.c (.int .i64 1)) (.t 18), none, 0, false, []⟩,
⟨some 20, .fad 2 (.t 1), none, 0, false, []⟩,
⟨some 21, .ld 1 false (.t 20), none, 0, false, []⟩,
⟨some 22, .bin .rem (.t 21) (.c (.int .u8 3)), none, 0, false, []⟩,
⟨some 23, .conv .i64 (.t 22), none, 0, false, []⟩,
⟨some 24, .bin .add (.c (.int .i64 1)) (.t 23), none, 0, false, []⟩,
⟨some 25, .build [.int .i64 0, .int .i64 0, .nils] [(0, 1, (.t 19)), (1, 1, (.t 24))], none, 0, false, []⟩,
⟨some 4, .alloc [.int .i64 0, .int .i64 0, .nils], none, 0, false, [(2, 1)]⟩,
⟨none, .st 3 (.t 4) (.t 25), none, 2, false, [(2, 1)]⟩])
(.seq (.seq (.reg 0 [⟨some 5, .mv (.c (.int .i64 0)), none, 0, false, []⟩])
(.block 0 (.loop false B2_1)))
(.seq (.reg 0 [⟨some 86, .ld 3 true (.t 4), none, 0, false, []⟩,
⟨none, .st 3 (.t 2) (.t 86), none, 0, false, []⟩])
.ret))))) }
def c3 : AFun :=
{ keep := true, np := 1, nt := 20, res := [.tmp 2, .tmp 3, .tmp 4], body :=
(.seq (.reg 1 [⟨some 1, .box (.t 0), none, 0, false, []⟩,
⟨some 2, .mv (.c (.nils)), none, 1, false, []⟩,
⟨some 3, .mv (.c (.nils)), none, 1, false, []⟩,
⟨some 4, .mv (.c (.int .i64 0)), none, 1, false, []⟩])
(.seq (.seq (.reg 1 [⟨some 8, .ld 3 true (.t 1), none, 0, false, []⟩,
⟨some 9, .call .iso (.c (.fn 18 [] [])) [(.t 8)], none, 0, false, []⟩,
⟨some 5, .mv (.t 9), none, 1, false, []⟩])
(.seq (.reg 0 [⟨some 10, .mv (.t 5), none, 0, false, []⟩,
⟨some 11, .bin .neq (.t 10) (.c (.int .i64 0)), none, 0, false, []⟩])
(.cond (.t 11)
(.seq (.reg 0 [⟨some 12, .mv (.t 5), none, 0, false, []⟩,
⟨some 2, .mv (.c (.nils)), none, 0, false, []⟩,
⟨some 3, .mv (.c (.nils)), none, 0, false, []⟩,
⟨some 4, .mv (.t 12), none, 0, false, []⟩])
.ret)
.skip)))
(.seq (.reg 1 [⟨some 14, .ld 3 true (.t 1), none, 0, false, []⟩,
⟨some 15, .call .iso (.c (.fn 19 [] [])) [(.t 14), (.c (.int .i64 0))], none, 0, true, []⟩,
⟨some 13, .mv (.t 15), none, 1, false, []⟩,
⟨some 16, .ext (.t 13) 0, none, 1, false, []⟩,
⟨some 17, .ext (.t 13) 1, none, 1, false, []⟩,
⟨some 6, .mv (.t 16), none, 1, false, []⟩,
⟨some 7, .mv (.t 17), none, 1, false, []⟩])
(.seq (.reg 0 [⟨some 18, .mv (.t 6), none, 0, false, []⟩,
⟨some 19, .mv (.t 7), none, 0, false, []⟩,
⟨some 2, .mv (.t 18), none, 0, false, []⟩,
⟨some 3, .mv (.t 19), none, 0, false, []⟩,
⟨some 4, .mv (.c (.int .i64 0)), none, 0, false, []⟩])
.ret)))) }
def c4 : AFun :=
{ keep := true, np := 1, nt := 8, res := [.tmp 2, .tmp 3], body :=
(.seq (.reg 1 [⟨some 1, .box (.t 0), none, 0, false, []⟩,
⟨some 2, .mv (.c (.nils)), none, 1, false, []⟩,
⟨some 3, .mv (.c (.nils)), none, 1, false, []⟩])
(.seq (.reg 1 [⟨some 4, .ld 3 true (.t 1), none, 0, false, []⟩,
⟨some 5, .call .iso (.c (.fn 7 [] [])) [(.t 4), (.c (.int .i64 0))], none, 0, true, []⟩,
⟨some 6, .ext (.t 5) 0, none, 1, false, []⟩,
⟨some 7, .ext (.t 5) 1, none, 1, false, []⟩,
⟨some 2, .mv (.t 6), none, 1, false, []⟩,
⟨some 3, .mv (.t 7), none, 1, false, []⟩])
.ret)) }
def c5 : AFun :=
{ keep := true, np := 3, nt := 34, res := [.tmp 6, .tmp 7, .tmp 8], body :=
(.seq (.reg 1 [⟨some 3, .box (.t 0), none, 0, false, []⟩,
⟨some 6, .mv (.c (.nils)), none, 1, false, []⟩,
⟨some 7, .mv (.c (.bool false)), none, 1, false, []⟩,
⟨some 8, .mv (.c (.int .i64 0)), none, 1, false, []⟩])
(.seq (.seq (.reg 2 [⟨some 12, .ld 3 true (.t 3), none, 0, false, []⟩,
⟨some 13, .mv (.t 1), none, 0, false, []⟩,
⟨some 14, .mv (.t 2), none, 0, false, []⟩,
⟨some 15, .bsl 1 2 [.int .i64 0] [(0, 1, (.t 13)), (1, 1, (.t 14))], none, 0, false, []⟩,
⟨some 16, .call .iso (.c (.fn 31 [] [])) [(.t 12), (.t 15)], none, 1, false, []⟩,
⟨some 9, .mv (.t 16), none, 2, false, []⟩])
(.seq (.reg 0 [⟨some 17, .mv (.t 9), none, 0, false, []⟩,
⟨some 18, .bin .neq (.t 17) (.c (.int .i64 0)), none, 0, false, []⟩])
(.cond (.t 18)
(.seq (.reg 0 [⟨some 19, .mv (.t 9), none, 0, false, []⟩,
⟨some 6, .mv (.c (.nils)), none, 0, false, []⟩,
⟨some 7, .mv (.c (.bool false)), none, 0, false, []⟩,
⟨some 8, .mv (.t 19), none, 0, false, []⟩])
.ret)
.skip)))
(.seq (.reg 1 [⟨some 21, .ld 3 true (.t 3), none, 0, false, []⟩,
⟨some 22, .mv (.t 1), none, 0, false, []⟩,
⟨some 23, .call .iso (.c (.fn 19 [] [])) [(.t 21), (.t 22)], none, 0, true, []⟩,
⟨some 20, .mv (.t 23), none, 1, false, []⟩,
⟨some 24, .ext (.t 20) 0, none, 1, false, []⟩,
⟨some 25, .ext (.t 20) 1, none, 1, false, []⟩,
⟨some 10, .mv (.t 24), none, 1, false, []⟩,
⟨some 11, .mv (.t 25), none, 1, false, []⟩])
(.seq (.regd [[], [], [0, 1], [0, 1, 2], [], [], [4, 5], [4, 5, 6], [0, 1, 2, 3], [0, 1, 2, 3, 4, 5, 6, 7, 8], [0, 1, 2, 3, 4, 5, 6, 7, 8, 9]] 0 [⟨some 26, .mv (.t 10), none, 0, false, []⟩,
⟨some 27, .mv (.t 2), none, 0, false, []⟩,
⟨some 28, .iad 1 (.t 26) (.t 27), none, 0, false, []⟩,
⟨some 29, .ld 1 false (.t 28), none, 0, false, []⟩,
⟨some 30, .mv (.t 11), none, 0, false, []⟩,
⟨some 31, .mv (.t 2), none, 0, false, []⟩,
⟨some 32, .iad 1 (.t 30) (.t 31), none, 0, false, []⟩,
⟨some 33, .ld 1 false (.t 32), none, 0, false, []⟩,
⟨some 6, .mv (.t 29), none, 0, false, []⟩,
⟨some 7, .mv (.t 33), none, 0, false, []⟩,
⟨some 8, .mv (.c (.int .i64 0)), none, 0, false, []⟩])
.ret)))) }
def B6_1 : AC :=
(.seq (.reg 0 [⟨some 31, .bin .lss (.t 30) (.t 29), none, 0, false, []⟩])
(.seq (.cond (.t 31)
.skip
(.exit 0))
(.seq (.block 1 (.seq (.reg 0 [⟨some 32, .mv (.t 30), none, 0, false, []⟩,
⟨some 33, .iad 1 (.t 28) (.t 30), none, 0, false, []⟩,
⟨some 34, .ld 1 false (.t 33), none, 0, false, []⟩,
⟨some 10, .mv (.t 32), none, 0, false, []⟩,
⟨some 11, .mv (.t 34), none, 0, false, []⟩])
(.seq (.reg 0 [⟨some 35, .mv (.t 9), none, 0, false, []⟩,
⟨some 36, .mv (.t 10), none, 0, false, []⟩,
⟨some 37, .iad 1 (.t 35) (.t 36), none, 0, false, []⟩,
⟨none, .st 1 (.t 37) (.c (.int .i64 (-1))), none, 0, false, []⟩])
(.seq (.reg 0 [⟨some 38, .mv (.t 8), none, 0, false, []⟩,
⟨some 39, .mv (.t 10), none, 0, false, []⟩,
⟨some 40, .iad 1 (.t 38) (.t 39), none, 0, false, []⟩,
⟨some 41, .ld 1 false (.t 40), none, 0, false, []⟩])
(.cond (.t 41)
(.reg 0 [⟨some 42, .mv (.t 9), none, 0, false, []⟩,
⟨some 43, .mv (.t 10), none, 0, false, []⟩,
⟨some 44, .mv (.t 11), none, 0, false, []⟩,
⟨some 45, .len 0 (.t 44), none, 0, false, []⟩,
⟨some 46, .iad 1 (.t 42) (.t 43), none, 0, false, []⟩,
⟨none, .st 1 (.t 46) (.t 45), none, 0, false, []⟩])
.skip)))))
(.reg 0 [⟨some 47, .bin .add (.t 30) (.c (.int .i64 1)), none, 0, false, []⟩,
⟨some 30, .mv (.t 47), none, 0, false, []⟩]))))
def c6 : AFun :=
{ keep := true, np := 2, nt := 49, res := [.tmp 4, .tmp 5], body :=
(.seq (.reg 1 [⟨some 2, .box (.t 0), none, 0, false, []⟩,
⟨some 4, .mv (.c (.nils)), none, 1, false, []⟩,
⟨some 5, .mv (.c (.int .i64 0)), none, 1, false, []⟩])
(.seq (.seq (.reg 2 [⟨some 12, .ld 3 true (.t 2), none, 0, false, []⟩,
⟨some 13, .mv (.t 1), none, 0, false, []⟩,
⟨some 14, .bsl 1 1 [.int .i64 0] [(0, 1, (.t 13))], none, 0, false, []⟩,
⟨some 15, .call .iso (.c (.fn 31 [] [])) [(.t 12), (.t 14)], none, 1, false, []⟩,
⟨some 6, .mv (.t 15), none, 2, false, []⟩])
(.seq (.reg 0 [⟨some 16, .mv (.t 6), none, 0, false, []⟩,
⟨some 17, .bin .neq (.t 16) (.c (.int .i64 0)), none, 0, false, []⟩])
(.cond (.t 17)
(.seq (.reg 0 [⟨some 18, .mv (.t 6), none, 0, false, []⟩,
⟨some 4, .mv (.c (.nils)), none, 0, false, []⟩,
⟨some 5, .mv (.t 18), none, 0, false, []⟩])
.ret)
.skip)))
(.seq (.reg 1 [⟨some 20, .ld 3 true (.t 2), none, 0, false, []⟩,
⟨some 21, .mv (.t 1), none, 0, false, []⟩,
⟨some 22, .call .iso (.c (.fn 19 [] [])) [(.t 20), (.t 21)], none, 0, true, []⟩,
⟨some 19, .mv (.t 22), none, 1, false, []⟩,
⟨some 23, .ext (.t 19) 0, none, 1, false, []⟩,
⟨some 24, .ext (.t 19) 1, none, 1, false, []⟩,
⟨some 7, .mv (.t 23), none, 1, false, []⟩,
⟨some 8, .mv (.t 24), none, 1, false, []⟩])
(.seq (.reg 1 [⟨some 25, .mv (.t 7), none, 0, false, []⟩,
⟨some 26, .len 0 (.t 25), none, 0, false, []⟩,
⟨some 27, .mks 1 8 [.int .i64 0] (.t 26) (.t 26), none, 0, false, []⟩,
⟨some 9, .mv (.t 27), none, 1, false, []⟩])
(.seq (.seq (.reg 0 [⟨some 28, .mv (.t 7), none, 0, false, []⟩,
⟨some 29, .len 0 (.t 28), none, 0, false, []⟩,
⟨some 30, .mv (.c (.int .i64 0)), none, 0, false, []⟩])
(.block 0 (.loop false B6_1)))
(.seq (.reg 0 [⟨some 48, .mv (.t 9), none, 0, false, []⟩,
⟨some 4, .mv (.t 48), none, 0, false, []⟩,
⟨some 5, .mv (.c (.int .i64 0)), none, 0, false, []⟩])
.ret)))))) }
def B7_3 : AC :=
(.seq (.seq (.reg 0 [⟨some 63, .mv (.t 12), none, 0, false, []⟩,
⟨some 64, .fad 0 (.t 2), none, 0, false, []⟩,
⟨some 65, .ld 1 false (.t 64), none, 0, false, []⟩,
⟨some 66, .bin .lss (.t 63) (.t 65), none, 0, false, []⟩])
(.cond (.t 66)
.skip
(.exit 4)))
(.seq (.block 5 (.reg 6 [⟨some 69, .mv (.t 9), none, 0, false, []⟩,
⟨some 70, .bsl 1 0 [.int .i64 0] [], none, 0, false, []⟩,
⟨some 71, .mv (.t 8), none, 1, false, []⟩,
⟨some 72, .mv (.t 10), none, 1, false, []⟩,
⟨some 73, .iad 1 (.t 71) (.t 72), none, 1, false, []⟩,
⟨some 74, .ld 1 false (.t 73), none, 1, false, []⟩,
⟨some 75, .app 1 8 (.t 70) (.t 74), none, 1, false, []⟩,
⟨some 76, .mv (.t 12), none, 2, false, []⟩,
⟨some 77, .bsl 1 1 [.int .i64 0] [(0, 1, (.t 76))], none, 2, false, []⟩,
⟨some 78, .app 1 8 (.t 75) (.t 77), none, 3, false, []⟩,
⟨some 79, .bsl 1 1 [.nils] [(0, 1, (.t 78))], none, 4, true, []⟩,
⟨some 80, .app 1 24 (.t 69) (.t 79), none, 5, false, []⟩,
⟨some 9, .mv (.t 80), none, 6, false, []⟩]))
(.reg 0 [⟨some 67, .mv (.t 12), none, 0, false, []⟩,
⟨some 68, .bin .add (.t 67) (.c (.int .i64 1)), none, 0, false, []⟩,
⟨some 12, .mv (.t 68), none, 0, false, []⟩])))
def B7_2 : AC :=
(.seq (.seq (.reg 0 [⟨some 32, .mv (.t 10), none, 0, false, []⟩,
⟨some 33, .mv (.t 8), none, 0, false, []⟩,
⟨some 34, .len 0 (.t 33), none, 0, false, []⟩,
⟨some 35, .bin .lss (.t 32) (.t 34), none, 0, false, []⟩])
(.cond (.t 35)
.skip
(.exit 2)))
(.seq (.block 3 (.seq (.regd [[], [], [], [], [2, 3], [2, 3, 4], [0, 1, 2, 3, 4, 5], [0, 1, 2, 3, 4, 5, 6]] 1 [⟨some 38, .ld 3 true (.t 2), none, 0, false, []⟩,
⟨some 39, .mv (.t 1), none, 0, false, []⟩,
⟨some 40, .mv (.t 8), none, 0, false, []⟩,
⟨some 41, .mv (.t 10), none, 0, false, []⟩,
⟨some 42, .iad 1 (.t 40) (.t 41), none, 0, false, []⟩,
⟨some 43, .ld 1 false (.t 42), none, 0, false, []⟩,
⟨some 44, .call .iso (.c (.fn 21 [] [])) [(.t 38), (.t 39), (.t 43)], none, 0, false, []⟩,
⟨some 11, .mv (.t 44), none, 1, false, []⟩])
(.seq (.seq (.reg 0 [⟨some 45, .mv (.t 11), none, 0, false, []⟩,
⟨some 46, .bin .lss (.t 45) (.c (.int .i64 0)), none, 0, false, []⟩,
⟨some 47, .mv (.t 46), none, 0, false, []⟩,
⟨some 48, .mv (.t 7), (some (47, false)), 0, false, []⟩,
⟨some 49, .mv (.t 11), (some (47, false)), 0, false, []⟩,
⟨some 50, .iad 1 (.t 48) (.t 49), (some (47, false)), 0, false, []⟩,
⟨some 51, .ld 1 false (.t 50), (some (47, false)), 0, false, []⟩,
⟨some 52, .pick (.t 47) (.c (.bool true)) (.t 51), none, 0, false, []⟩])
(.cond (.t 52)
(.exit 3)
.skip))
(.seq (.reg 0 [⟨some 53, .mv (.t 7), none, 0, false, []⟩,
⟨some 54, .mv (.t 11), none, 0, false, []⟩,
⟨some 55, .iad 1 (.t 53) (.t 54), none, 0, false, []⟩,
⟨none, .st 1 (.t 55) (.c (.bool true)), none, 0, false, []⟩])
(.seq (.reg 0 [⟨some 56, .mv (.t 6), none, 0, false, []⟩,
⟨some 57, .mv (.t 11), none, 0, false, []⟩,
⟨some 58, .mv (.t 8), none, 0, false, []⟩,
⟨some 59, .mv (.t 10), none, 0, false, []⟩,
⟨some 60, .iad 1 (.t 58) (.t 59), none, 0, false, []⟩,
⟨some 61, .ld 1 false (.t 60), none, 0, false, []⟩,
⟨some 62, .iad 1 (.t 56) (.t 57), none, 0, false, []⟩,
⟨none, .st 1 (.t 62) (.t 61), none, 0, false, []⟩])
(.seq (.reg 0 [⟨some 12, .mv (.c (.int .i64 0)), none, 0, false, []⟩])
(.block 4 (.loop false B7_3))))))))
(.reg 0 [⟨some 36, .mv (.t 10), none, 0, false, []⟩,
⟨some 37, .bin .add (.t 36) (.c (.int .i64 1)), none, 0, false, []⟩,
⟨some 10, .mv (.t 37), none, 0, false, []⟩])))
def B7_1 : AC :=
(.seq (.seq (.reg 0 [⟨some 23, .mv (.t 8), none, 0, false, []⟩,
⟨some 24, .len 0 (.t 23), none, 0, false, []⟩,
⟨some 25, .bin .gtr (.t 24) (.c (.int .i64 0)), none, 0, false, []⟩,
⟨some 26, .mv (.t 25), none, 0, false, []⟩,
⟨some 27, .fad 2 (.t 2), (some (26, true)), 0, false, []⟩,
⟨some 28, .ld 1 false (.t 27), (some (26, true)), 0, false, []⟩,
⟨some 29, .len 0 (.t 28), (some (26, true)), 0, false, []⟩,
⟨some 30, .bin .gtr (.t 29) (.c (.int .i64 0)), (some (26, true)), 0, false, []⟩,
⟨some 31, .pick (.t 26) (.t 30) (.c (.bool false)), none, 0, false, []⟩])
(.cond (.t 31)
.skip
(.exit 0)))
(.block 1 (.seq (.reg 1 [⟨some 9, .mv (.c (.nils)), none, 0, false, [(0, 1)]⟩])
(.seq (.seq (.reg 0 [⟨some 10, .mv (.c (.int .i64 0)), none, 0, false, []⟩])
(.block 2 (.loop false B7_2)))
(.reg 0 [⟨some 81, .mv (.t 9), none, 0, true, []⟩,
⟨some 8, .mv (.t 81), none, 0, false, []⟩])))))
def c7 : AFun :=
{ keep := true, np := 2, nt := 84, res := [.tmp 4, .tmp 5], body :=
(.seq (.reg 1 [⟨some 2, .box (.t 0), none, 0, false, []⟩,
⟨some 4, .mv (.c (.nils)), none, 1, false, []⟩,
⟨some 5, .mv (.c (.nils)), none, 1, false, []⟩])
(.seq (.reg 1 [⟨some 13, .fad 2 (.t 2), none, 0, false, []⟩,
⟨some 14, .ld 1 false (.t 13), none, 0, false, []⟩,
⟨some 15, .len 0 (.t 14), none, 0, false, []⟩,
⟨some 16, .mks 1 24 [.nils] (.t 15) (.t 15), none, 0, false, []⟩,
⟨some 6, .mv (.t 16), none, 1, false, []⟩])
(.seq (.reg 1 [⟨some 17, .fad 2 (.t 2), none, 0, false, []⟩,
⟨some 18, .ld 1 false (.t 17), none, 0, false, []⟩,
⟨some 19, .len 0 (.t 18), none, 0, false, []⟩,
⟨some 20, .mks 1 1 [.bool false] (.t 19) (.t 19), none, 0, false, []⟩,
⟨some 7, .mv (.t 20), none, 1, false, []⟩])
(.seq (.reg 2 [⟨some 21, .bsl 1 0 [.int .i64 0] [], none, 0, false, []⟩,
⟨some 22, .bsl 1 1 [.nils] [(0, 1, (.t 21))], none, 1, true, []⟩,
⟨some 8, .mv (.t 22), none, 2, true, []⟩])
(.seq (.block 0 (.loop false B7_1))
(.seq (.reg 0 [⟨some 82, .mv (.t 6), none, 0, false, []⟩,
⟨some 83, .mv (.t 7), none, 0, false, []⟩,
⟨some 4, .mv (.t 82), none, 0, false, []⟩,
⟨some 5, .mv (.t 83), none, 0, false, []⟩])
.ret)))))) }
def c8 : AFun :=
{ keep := true, np := 4, nt := 24, res := [.tmp 8], body :=
(.seq (.reg 0 [⟨some 8, .mv (.c (.bool false)), none, 0, false, []⟩])
(.seq (.reg 1 [⟨some 9, .mv (.t 1), none, 0, false, []⟩,
⟨some 10, .mv (.t 3), none, 0, false, []⟩,
⟨some 11, .bin .eql (.t 9) (.t 10), none, 0, false, []⟩,
⟨some 12, .mv (.t 11), none, 0, false, []⟩,
⟨some 13, .mv (.t 0), (some (12, true)), 0, false, []⟩,
⟨some 14, .mv (.t 2), (some (12, true)), 0, false, []⟩,
⟨some 15, .call .iso (.c (.fn 15 [] [])) [(.t 13), (.t 14)], (some (12, true)), 0, false, []⟩,
⟨some 16, .pick (.t 12) (.t 15) (.c (.bool false)), none, 1, false, []⟩,
⟨some 17, .mv (.t 16), none, 1, false, []⟩,
⟨some 18, .mv (.t 0), (some (17, true)), 1, false, []⟩,
⟨some 19, .cap (.t 18), (some (17, true)), 1, false, []⟩,
⟨some 20, .mv (.t 0), (some (17, true)), 1, false, []⟩,
⟨some 21, .len 0 (.t 20), (some (17, true)), 1, false, []⟩,
⟨some 22, .bin .eql (.t 19) (.t 21), (some (17, true)), 1, false, []⟩,
⟨some 23, .pick (.t 17) (.t 22) (.c (.bool false)), none, 1, false, []⟩,
⟨some 8, .mv (.t 23), none, 1, false, []⟩])
.ret)) }
def B9_1 : AC :=
(.seq (.seq (.reg 0 [⟨some 7, .mv (.t 6), none, 0, false, []⟩,
⟨some 8, .fad 0 (.t 2), none, 0, false, []⟩,
⟨some 9, .ld 1 false (.t 8), none, 0, false, []⟩,
⟨some 10, .len 0 (.t 9), none, 0, false, []⟩,
⟨some 11, .bin .lss (.t 7) (.t 10), none, 0, false, []⟩,
⟨some 12, .mv (.t 11), none, 0, false, []⟩,
⟨some 13, .mv (.t 6), (some (12, true)), 0, false, []⟩,
⟨some 14, .bin .lss (.t 13) (.c (.int .i64 12)), (some (12, true)), 0, false, []⟩,
⟨some 15, .pick (.t 12) (.t 14) (.c (.bool false)), none, 0, false, []⟩])
(.cond (.t 15)
.skip
(.exit 0)))
(.seq (.block 1 (.reg 2 [⟨some 18, .mv (.t 5), none, 0, false, []⟩,
⟨some 19, .fad 0 (.t 2), none, 0, false, []⟩,
⟨some 20, .ld 1 false (.t 19), none, 0, false, []⟩,
⟨some 21, .mv (.t 6), none, 0, false, []⟩,
⟨some 22, .iad 1 (.t 20) (.t 21), none, 0, false, []⟩,
⟨some 23, .ld 1 false (.t 22), none, 0, false, []⟩,
⟨some 24, .conv .i64 (.t 23), none, 0, false, []⟩,
⟨some 25, .mv (.t 1), none, 0, false, []⟩,
⟨some 26, .bin .rem (.t 24) (.t 25), none, 0, false, []⟩,
⟨some 27, .bsl 1 1 [.int .i64 0] [(0, 1, (.t 26))], none, 0, false, []⟩,
⟨some 28, .app 1 8 (.t 18) (.t 27), none, 1, false, []⟩,
⟨some 5, .mv (.t 28), none, 2, false, []⟩]))
(.reg 0 [⟨some 16, .mv (.t 6), none, 0, false, []⟩,
⟨some 17, .bin .add (.t 16) (.c (.int .i64 1)), none, 0, false, []⟩,
⟨some 6, .mv (.t 17), none, 0, false, []⟩])))
def c9 : AFun :=
{ keep := true, np := 2, nt := 30, res := [.tmp 4], body :=
(.seq (.reg 1 [⟨some 2, .box (.t 0), none, 0, false, []⟩,
⟨some 4, .mv (.c (.nils)), none, 1, false, []⟩])
(.seq (.reg 1 [⟨some 5, .mv (.c (.nils)), none, 0, false, [(0, 1)]⟩])
(.seq (.seq (.reg 0 [⟨some 6, .mv (.c (.int .i64 0)), none, 0, false, []⟩])
(.block 0 (.loop false B9_1)))
(.seq (.reg 0 [⟨some 29, .mv (.t 5), none, 0, false, []⟩,
⟨some 4, .mv (.t 29), none, 0, false, []⟩])
.ret)))) }
def c10 : AFun :=
{ keep := true, np := 1, nt := 20, res := [.cell 2 3 true, .tmp 3, .tmp 4], body :=
(.seq (.reg 2 [⟨some 1, .box (.t 0), none, 0, false, []⟩,
⟨some 2, .alloc [.int .i64 0, .int .i64 0, .nils], none, 1, false, []⟩,
⟨some 3, .mv (.c (.nils)), none, 2, false, []⟩,
⟨some 4, .mv (.c (.int .i64 0)), none, 2, false, []⟩])
(.seq (.reg 1 [⟨some 8, .ld 3 true (.t 1), none, 0, false, []⟩,
⟨some 9, .call .iso (.c (.fn 27 [] [])) [(.t 8)], none, 0, true, []⟩,
⟨some 7, .mv (.t 9), none, 1, false, []⟩,
⟨some 10, .ext (.t 7) 0, none, 1, false, []⟩,
⟨some 11, .ext (.t 7) 1, none, 1, false, []⟩,
⟨some 5, .mv (.t 10), none, 1, false, []⟩,
⟨some 6, .mv (.t 11), none, 1, false, []⟩])
(.seq (.seq (.reg 0 [⟨some 12, .mv (.t 6), none, 0, false, []⟩,
⟨some 13, .bin .neq (.t 12) (.c (.int .i64 0)), none, 0, false, []⟩])
(.cond (.t 13)
(.seq (.reg 0 [⟨some 14, .build [.int .i64 0, .int .i64 0, .nils] [], none, 0, false, []⟩,
⟨some 15, .mv (.t 6), none, 0, false, []⟩,
⟨none, .st 3 (.t 2) (.t 14), none, 0, false, []⟩,
⟨some 3, .mv (.c (.nils)), none, 0, false, []⟩,
⟨some 4, .mv (.t 15), none, 0, false, []⟩])
.ret)
.skip))
(.seq (.reg 1 [⟨some 16, .ld 3 true (.t 1), none, 0, false, []⟩,
⟨some 17, .mv (.t 5), none, 0, false, []⟩,
⟨some 18, .call .iso (.c (.fn 32 [] [])) [(.t 16), (.t 17)], none, 0, true, []⟩,
⟨some 19, .mv (.t 5), none, 1, false, []⟩,
⟨none, .st 3 (.t 2) (.t 18), none, 1, false, []⟩,
⟨some 3, .mv (.t 19), none, 1, false, []⟩,
⟨some 4, .mv (.c (.int .i64 0)), none, 1, false, []⟩])
.ret)))) }
def c11 : AFun :=
{ keep := true, np := 1, nt := 15, res := [.cell 2 3 true, .tmp 3], body :=
(.seq (.reg 2 [⟨some 1, .box (.t 0), none, 0, false, []⟩,
⟨some 2, .alloc [.int .i64 0, .int .i64 0, .nils], none, 1, false, []⟩,
⟨some 3, .mv (.c (.int .i64 0)), none, 2, false, []⟩])
(.seq (.seq (.reg 1 [⟨some 5, .ld 3 true (.t 1), none, 0, false, []⟩,
⟨some 6, .call .iso (.c (.fn 18 [] [])) [(.t 5)], none, 0, false, []⟩,
⟨some 4, .mv (.t 6), none, 1, false, []⟩])
(.seq (.reg 0 [⟨some 7, .mv (.t 4), none, 0, false, []⟩,
⟨some 8, .bin .neq (.t 7) (.c (.int .i64 0)), none, 0, false, []⟩])
(.cond (.t 8)
(.seq (.reg 0 [⟨some 9, .build [.int .i64 0, .int .i64 0, .nils] [], none, 0, false, []⟩,
⟨some 10, .mv (.t 4), none, 0, false, []⟩,
⟨none, .st 3 (.t 2) (.t 9), none, 0, false, []⟩,
⟨some 3, .mv (.t 10), none, 0, false, []⟩])
.ret)
.skip)))
(.seq (.regd [[], [], [1], [0, 1, 2], [0, 1, 2, 3], [0, 1, 2, 3, 4]] 2 [⟨some 11, .ld 3 true (.t 1), none, 0, false, []⟩,
⟨some 12, .ld 3 true (.t 1), none, 0, false, []⟩,
⟨some 13, .call .iso (.c (.fn 23 [] [])) [(.t 12)], none, 0, true, []⟩,
⟨some 14, .call .iso (.c (.fn 32 [] [])) [(.t 11), (.t 13)], none, 1, true, []⟩,
⟨none, .st 3 (.t 2) (.t 14), none, 2, false, []⟩,
⟨some 3, .mv (.c (.int .i64 0)), none, 2, false, []⟩])
.ret))) }
def c12 : AFun :=
{ keep := true, np := 1, nt := 7, res := [.cell 2 3 true], body :=
(.seq (.reg 2 [⟨some 1, .box (.t 0), none, 0, false, []⟩,
⟨some 2, .alloc [.int .i64 0, .int .i64 0, .nils], none, 1, false, []⟩])
(.seq (.regd [[], [], [1], [0, 1, 2], [0, 1, 2, 3]] 2 [⟨some 3, .ld 3 true (.t 1), none, 0, false, []⟩,
⟨some 4, .ld 3 true (.t 1), none, 0, false, []⟩,
⟨some 5, .call .iso (.c (.fn 34 [] [])) [(.t 4)], none, 0, true, []⟩,
⟨some 6, .call .iso (.c (.fn 35 [] [])) [(.t 3), (.t 5)], none, 1, true, []⟩,
⟨none, .st 3 (.t 2) (.t 6), none, 2, false, []⟩])
.ret)) }
def Yck : AC :=
(.seq (.seq (.reg 0 [⟨some 25, .mv (.t 7), none, 0, false, []⟩,
⟨some 26, .fad 2 (.t 3), none, 0, false, []⟩,
⟨some 27, .ld 1 false (.t 26), none, 0, false, []⟩,
⟨some 28, .len 0 (.t 27), none, 0, false, []⟩,
⟨some 29, .bin .lss (.t 25) (.t 28), none, 0, false, []⟩])
(.cond (.t 29)
.skip
(.exit 0)))
(.seq (.block 1 (.seq (.regd [[], [0], [], [0, 1, 2], [0, 1, 2, 3], [0, 1, 2, 3, 4], [], [6], [], [6, 7, 8], [6, 7, 8, 9], [6, 7, 8, 9, 10], [0, 1, 2, 3, 4, 5, 6, 7, 8, 9, 10, 11]] 0 [⟨some 32, .fad 2 (.t 3), none, 0, false, []⟩,
⟨some 33, .ld 1 false (.t 32), none, 0, false, []⟩,
⟨some 34, .mv (.t 7), none, 0, false, []⟩,
⟨some 35, .iad 1 (.t 33) (.t 34), none, 0, false, []⟩,
⟨some 36, .ld 1 false (.t 35), none, 0, false, []⟩,
⟨some 37, .cap (.t 36), none, 0, false, []⟩,
⟨some 38, .fad 2 (.t 3), none, 0, false, []⟩,
⟨some 39, .ld 1 false (.t 38), none, 0, false, []⟩,
⟨some 40, .mv (.t 7), none, 0, false, []⟩,
⟨some 41, .iad 1 (.t 39) (.t 40), none, 0, false, []⟩,
⟨some 42, .ld 1 false (.t 41), none, 0, false, []⟩,
⟨some 43, .len 0 (.t 42), none, 0, false, []⟩,
⟨some 44, .bin .neq (.t 37) (.t 43), none, 0, false, []⟩])
(.cond (.t 44)
(.seq (.reg 0 [⟨some 6, .mv (.c (.bool false)), none, 0, false, []⟩])
.ret)
.skip)))
(.reg 0 [⟨some 30, .mv (.t 7), none, 0, false, []⟩,
⟨some 31, .bin .add (.t 30) (.c (.int .i64 1)), none, 0, false, []⟩,
⟨some 7, .mv (.t 31), none, 0, false, []⟩])))
def c13 : AFun :=
{ keep := true, np := 3, nt := 45, res := [.tmp 6], body :=
(.seq (.reg 2 [⟨some 3, .box (.t 0), none, 0, false, []⟩,
⟨some 5, .box (.t 2), none, 1, false, []⟩,
⟨some 6, .mv (.c (.bool false)), none, 2, false, []⟩])
(.seq (.seq (.reg 1 [⟨some 8, .mv (.t 1), none, 0, false, []⟩,
⟨some 9, .bin .neq (.t 8) (.c (.int .i64 0)), none, 0, false, []⟩,
⟨some 10, .mv (.t 9), none, 0, false, []⟩,
⟨some 11, .ld 3 true (.t 3), (some (10, false)), 0, false, []⟩,
⟨some 12, .ld 3 true (.t 5), (some (10, false)), 0, false, []⟩,
⟨some 13, .call .iso (.c (.fn 17 [] [])) [(.t 11), (.t 12)], (some (10, false)), 0, false, []⟩,
⟨some 14, .un .not (.t 13), (some (10, false)), 1, false, []⟩,
⟨some 15, .pick (.t 10) (.c (.bool true)) (.t 14), none, 1, false, []⟩,
⟨some 16, .mv (.t 15), none, 1, false, []⟩,
⟨some 17, .fad 2 (.t 3), (some (16, false)), 1, false, []⟩,
⟨some 18, .ld 1 false (.t 17), (some (16, false)), 1, false, []⟩,
⟨some 19, .cap (.t 18), (some (16, false)), 1, false, []⟩,
⟨some 20, .fad 2 (.t 3), (some (16, false)), 1, false, []⟩,
⟨some 21, .ld 1 false (.t 20), (some (16, false)), 1, false, []⟩,
⟨some 22, .len 0 (.t 21), (some (16, false)), 1, false, []⟩,
⟨some 23, .bin .neq (.t 19) (.t 22), (some (16, false)), 1, false, []⟩,
⟨some 24, .pick (.t 16) (.c (.bool true)) (.t 23), none, 1, false, []⟩])
(.cond (.t 24)
(.seq (.reg 0 [⟨some 6, .mv (.c (.bool false)), none, 0, false, []⟩])
.ret)
.skip))
(.seq (.seq (.reg 0 [⟨some 7, .mv (.c (.int .i64 0)), none, 0, false, []⟩])
(.block 0 (.loop false Yck)))
(.seq (.reg 0 [⟨some 6, .mv (.c (.bool true)), none, 0, false, []⟩])
.ret)))) }
def Ydy : AC :=
(.seq (.seq (.reg 0 [⟨some 10, .mv (.t 8), none, 0, false, []⟩,
⟨some 11, .mv (.t 2), none, 0, false, []⟩,
⟨some 12, .len 0 (.t 11), none, 0, false, []⟩,
⟨some 13, .bin .lss (.t 10) (.t 12), none, 0, false, []⟩])
(.cond (.t 13)
.skip
(.exit 0)))
(.seq (.block 1 (.seq (.regd [[], [], [], [], [2, 3], [2, 3, 4], [0, 1, 2, 3, 4, 5], [], [0, 1, 2, 3, 4, 5, 6, 7]] 2 [⟨some 16, .ld 3 true (.t 3), none, 0, false, []⟩,
⟨some 17, .mv (.t 1), none, 0, false, []⟩,
⟨some 18, .mv (.t 2), none, 0, false, []⟩,
⟨some 19, .mv (.t 8), none, 0, false, []⟩,
⟨some 20, .iad 1 (.t 18) (.t 19), none, 0, false, []⟩,
⟨some 21, .ld 1 false (.t 20), none, 0, false, []⟩,
⟨some 22, .call .iso (.c (.fn 20 [] [])) [(.t 16), (.t 17), (.t 21)], none, 0, false, []⟩,
⟨some 9, .alloc [.int .i64 0, .int .i64 0], none, 1, false, []⟩,
⟨none, .st 2 (.t 9) (.t 22), none, 2, false, []⟩])
(.seq (.reg 2 [⟨some 23, .mv (.t 7), none, 0, false, []⟩,
⟨some 24, .fad 1 (.t 9), none, 0, false, []⟩,
⟨some 25, .ld 1 false (.t 24), none, 0, false, []⟩,
⟨some 26, .bsl 1 1 [.int .i64 0] [(0, 1, (.t 25))], none, 0, false, []⟩,
⟨some 27, .app 1 8 (.t 23) (.t 26), none, 1, false, []⟩,
⟨some 7, .mv (.t 27), none, 2, false, []⟩])
(.reg 0 [⟨some 28, .fad 0 (.t 9), none, 0, false, []⟩,
⟨some 29, .ld 1 false (.t 28), none, 0, false, []⟩,
⟨some 1, .mv (.t 29), none, 0, false, []⟩]))))
(.reg 0 [⟨some 14, .mv (.t 8), none, 0, false, []⟩,
⟨some 15, .bin .add (.t 14) (.c (.int .i64 1)), none, 0, false, []⟩,
⟨some 8, .mv (.t 15), none, 0, false, []⟩])))
def c14 : AFun :=
{ keep := true, np := 3, nt := 31, res := [.tmp 6], body :=
(.seq (.reg 1 [⟨some 3, .box (.t 0), none, 0, false, []⟩,
⟨some 6, .mv (.c (.nils)), none, 1, false, []⟩])
(.seq (.reg 1 [⟨some 7, .mv (.c (.nils)), none, 0, false, [(0, 1)]⟩])
(.seq (.seq (.reg 0 [⟨some 8, .mv (.c (.int .i64 0)), none, 0, false, []⟩])
(.block 0 (.loop false Ydy)))
(.seq (.reg 0 [⟨some 30, .mv (.t 7), none, 0, false, []⟩,
⟨some 6, .mv (.t 30), none, 0, false, []⟩])
.ret)))) }
def c15 : AFun :=
{ keep := true, np := 2, nt := 9, res := [.tmp 4], body :=
(.seq (.reg 0 [⟨some 4, .mv (.c (.bool false)), none, 0, false, []⟩])
(.seq (.reg 1 [⟨some 5, .mv (.t 0), none, 0, false, []⟩,
⟨some 6, .mv (.t 1), none, 0, false, []⟩,
⟨some 7, .call .iso (.c (.fn 22 [] [])) [(.t 5), (.t 6)], none, 0, false, []⟩,
⟨some 8, .bin .eql (.t 7) (.c (.int .i64 0)), none, 1, false, []⟩,
⟨some 4, .mv (.t 8), none, 1, false, []⟩])
.ret)) }
def c16 : AFun :=
{ keep := true, np := 1, nt := 19, res := [.tmp 2, .tmp 3], body :=
(.seq (.reg 1 [⟨some 1, .box (.t 0), none, 0, false, []⟩,
⟨some 2, .mv (.c (.bool false)), none, 1, false, []⟩,
⟨some 3, .mv (.c (.int .i64 0)), none, 1, false, []⟩])
(.seq (.reg 2 [⟨some 7, .ld 3 true (.t 1), none, 0, false, []⟩,
⟨some 8, .call .iso (.c (.fn 11 [] [])) [(.t 7)], none, 0, true, []⟩,
⟨some 6, .mv (.t 8), none, 1, false, []⟩,
⟨some 9, .ext (.t 6) 0, none, 1, false, []⟩,
⟨some 10, .ext (.t 6) 1, none, 1, false, []⟩,
⟨some 4, .alloc [.int .i64 0, .int .i64 0, .nils], none, 1, false, []⟩,
⟨none, .st 3 (.t 4) (.t 9), none, 2, false, []⟩,
⟨some 5, .mv (.t 10), none, 2, false, []⟩])
(.seq (.reg 1 [⟨some 11, .mv (.t 5), none, 0, false, []⟩,
⟨some 12, .bin .eql (.t 11) (.c (.int .i64 0)), none, 0, false, []⟩,
⟨some 13, .mv (.t 12), none, 0, false, []⟩,
⟨some 14, .ld 3 true (.t 4), (some (13, true)), 0, false, []⟩,
⟨some 15, .ld 3 true (.t 1), (some (13, true)), 0, false, []⟩,
⟨some 16, .call .iso (.c (.fn 36 [] [])) [(.t 14), (.t 15)], (some (13, true)), 0, false, []⟩,
⟨some 17, .pick (.t 13) (.t 16) (.c (.bool false)), none, 1, false, []⟩,
⟨some 18, .mv (.t 5), none, 1, false, []⟩,
⟨some 2, .mv (.t 17), none, 1, false, []⟩,
⟨some 3, .mv (.t 18), none, 1, false, []⟩])
.ret))) }
def Ybz : AC :=
(.seq (.seq (.reg 0 [⟨some 48, .mv (.t 6), none, 0, false, []⟩,
⟨some 49, .fad 2 (.t 2), none, 0, false, []⟩,
⟨some 50, .ld 1 false (.t 49), none, 0, false, []⟩,
⟨some 51, .mv (.t 5), none, 0, false, []⟩,
⟨some 52, .iad 1 (.t 50) (.t 51), none, 0, false, []⟩,
⟨some 53, .ld 1 false (.t 52), none, 0, false, []⟩,
⟨some 54, .len 0 (.t 53), none, 0, false, []⟩,
⟨some 55, .bin .lss (.t 48) (.t 54), none, 0, false, []⟩])
(.cond (.t 55)
.skip
(.exit 2)))
(.seq (.block 3 (.seq (.regd [[], [0], [], [0, 1, 2], [0, 1, 2, 3], [], [0, 1, 2, 3, 4, 5], [0, 1, 2, 3, 4, 5, 6], [], [8], [], [8, 9, 10], [8, 9, 10, 11], [], [8, 9, 10, 11, 12, 13], [8, 9, 10, 11, 12, 13, 14], [0, 1, 2, 3, 4, 5, 6, 7, 8, 9, 10, 11, 12, 13, 14, 15]] 0 [⟨some 58, .fad 2 (.t 2), none, 0, false, []⟩,
⟨some 59, .ld 1 false (.t 58), none, 0, false, []⟩,
⟨some 60, .mv (.t 5), none, 0, false, []⟩,
⟨some 61, .iad 1 (.t 59) (.t 60), none, 0, false, []⟩,
⟨some 62, .ld 1 false (.t 61), none, 0, false, []⟩,
⟨some 63, .mv (.t 6), none, 0, false, []⟩,
⟨some 64, .iad 2 (.t 62) (.t 63), none, 0, false, []⟩,
⟨some 65, .ld 2 true (.t 64), none, 0, false, []⟩,
⟨some 66, .fad 2 (.t 3), none, 0, false, []⟩,
⟨some 67, .ld 1 false (.t 66), none, 0, false, []⟩,
⟨some 68, .mv (.t 5), none, 0, false, []⟩,
⟨some 69, .iad 1 (.t 67) (.t 68), none, 0, false, []⟩,
⟨some 70, .ld 1 false (.t 69), none, 0, false, []⟩,
⟨some 71, .mv (.t 6), none, 0, false, []⟩,
⟨some 72, .iad 2 (.t 70) (.t 71), none, 0, false, []⟩,
⟨some 73, .ld 2 true (.t 72), none, 0, false, []⟩,
⟨some 74, .eqb true true [.i, .i] (.t 65) (.t 73), none, 0, false, []⟩])
(.cond (.t 74)
(.seq (.reg 0 [⟨some 4, .mv (.c (.bool false)), none, 0, false, []⟩])
.ret)
.skip)))
(.reg 0 [⟨some 56, .mv (.t 6), none, 0, false, []⟩,
⟨some 57, .bin .add (.t 56) (.c (.int .i64 1)), none, 0, false, []⟩,
⟨some 6, .mv (.t 57), none, 0, false, []⟩])))
def Yeu : AC :=
(.seq (.seq (.reg 0 [⟨some 28, .mv (.t 5), none, 0, false, []⟩,
⟨some 29, .fad 2 (.t 2), none, 0, false, []⟩,
⟨some 30, .ld 1 false (.t 29), none, 0, false, []⟩,
⟨some 31, .len 0 (.t 30), none, 0, false, []⟩,
⟨some 32, .bin .lss (.t 28) (.t 31), none, 0, false, []⟩])
(.cond (.t 32)
.skip
(.exit 0)))
(.seq (.block 1 (.seq (.seq (.regd [[], [0], [], [0, 1, 2], [0, 1, 2, 3], [0, 1, 2, 3, 4], [], [6], [], [6, 7, 8], [6, 7, 8, 9], [6, 7, 8, 9, 10], [0, 1, 2, 3, 4, 5, 6, 7, 8, 9, 10, 11]] 0 [⟨some 35, .fad 2 (.t 2), none, 0, false, []⟩,
⟨some 36, .ld 1 false (.t 35), none, 0, false, []⟩,
⟨some 37, .mv (.t 5), none, 0, false, []⟩,
⟨some 38, .iad 1 (.t 36) (.t 37), none, 0, false, []⟩,
⟨some 39, .ld 1 false (.t 38), none, 0, false, []⟩,
⟨some 40, .len 0 (.t 39), none, 0, false, []⟩,
⟨some 41, .fad 2 (.t 3), none, 0, false, []⟩,
⟨some 42, .ld 1 false (.t 41), none, 0, false, []⟩,
⟨some 43, .mv (.t 5), none, 0, false, []⟩,
⟨some 44, .iad 1 (.t 42) (.t 43), none, 0, false, []⟩,
⟨some 45, .ld 1 false (.t 44), none, 0, false, []⟩,
⟨some 46, .len 0 (.t 45), none, 0, false, []⟩,
⟨some 47, .bin .neq (.t 40) (.t 46), none, 0, false, []⟩])
(.cond (.t 47)
(.seq (.reg 0 [⟨some 4, .mv (.c (.bool false)), none, 0, false, []⟩])
.ret)
.skip))
(.seq (.reg 0 [⟨some 6, .mv (.c (.int .i64 0)), none, 0, false, []⟩])
(.block 2 (.loop false Ybz)))))
(.reg 0 [⟨some 33, .mv (.t 5), none, 0, false, []⟩,
⟨some 34, .bin .add (.t 33) (.c (.int .i64 1)), none, 0, false, []⟩,
⟨some 5, .mv (.t 34), none, 0, false, []⟩])))
def c17 : AFun :=
{ keep := true, np := 2, nt := 75, res := [.tmp 4], body :=
(.seq (.reg 2 [⟨some 2, .box (.t 0), none, 0, false, []⟩,
⟨some 3, .box (.t 1), none, 1, false, []⟩,
⟨some 4, .mv (.c (.bool false)), none, 2, false, []⟩])
(.seq (.seq (.reg 0 [⟨some 7, .fad 0 (.t 2), none, 0, false, []⟩,
⟨some 8, .ld 1 false (.t 7), none, 0, false, []⟩,
⟨some 9, .fad 0 (.t 3), none, 0, false, []⟩,
⟨some 10, .ld 1 false (.t 9), none, 0, false, []⟩,
⟨some 11, .bin .neq (.t 8) (.t 10), none, 0, false, []⟩,
⟨some 12, .mv (.t 11), none, 0, false, []⟩,
⟨some 13, .fad 1 (.t 2), (some (12, false)), 0, false, []⟩,
⟨some 14, .ld 1 false (.t 13), (some (12, false)), 0, false, []⟩,
⟨some 15, .fad 1 (.t 3), (some (12, false)), 0, false, []⟩,
⟨some 16, .ld 1 false (.t 15), (some (12, false)), 0, false, []⟩,
⟨some 17, .bin .neq (.t 14) (.t 16), (some (12, false)), 0, false, []⟩,
⟨some 18, .pick (.t 12) (.c (.bool true)) (.t 17), none, 0, false, []⟩,
⟨some 19, .mv (.t 18), none, 0, false, []⟩,
⟨some 20, .fad 2 (.t 2), (some (19, false)), 0, false, []⟩,
⟨some 21, .ld 1 false (.t 20), (some (19, false)), 0, false, []⟩,
⟨some 22, .len 0 (.t 21), (some (19, false)), 0, false, []⟩,
⟨some 23, .fad 2 (.t 3), (some (19, false)), 0, false, []⟩,
⟨some 24, .ld 1 false (.t 23), (some (19, false)), 0, false, []⟩,
⟨some 25, .len 0 (.t 24), (some (19, false)), 0, false, []⟩,
⟨some 26, .bin .neq (.t 22) (.t 25), (some (19, false)), 0, false, []⟩,
⟨some 27, .pick (.t 19) (.c (.bool true)) (.t 26), none, 0, false, []⟩])
(.cond (.t 27)
(.seq (.reg 0 [⟨some 4, .mv (.c (.bool false)), none, 0, false, []⟩])
.ret)
.skip))
(.seq (.seq (.reg 0 [⟨some 5, .mv (.c (.int .i64 0)), none, 0, false, []⟩])
(.block 0 (.loop false Yeu)))
(.seq (.reg 0 [⟨some 4, .mv (.c (.bool true)), none, 0, false, []⟩])
.ret)))) }
def Yeo : AC :=
(.seq (.reg 0 [⟨some 37, .bin .lss (.t 36) (.t 35), none, 0, false, []⟩])
(.seq (.cond (.t 37)
.skip
(.exit 0))
(.seq (.block 1 (.seq (.reg 0 [⟨some 38, .iad 1 (.t 34) (.t 36), none, 0, false, []⟩,
⟨some 39, .ld 1 false (.t 38), none, 0, false, []⟩,
⟨some 4, .mv (.t 39), none, 0, false, []⟩])
(.seq (.reg 1 [⟨some 40, .mv (.t 4), none, 0, false, []⟩,
⟨some 41, .len 0 (.t 40), none, 0, false, []⟩,
⟨some 42, .fad 0 (.t 1), none, 0, false, []⟩,
⟨some 43, .ld 1 false (.t 42), none, 0, false, []⟩,
⟨some 44, .bin .neq (.t 41) (.t 43), none, 0, false, []⟩,
⟨some 45, .mv (.t 44), none, 0, false, []⟩,
⟨some 46, .mv (.t 4), (some (45, false)), 0, false, []⟩,
⟨some 47, .mkf 56 [] [(.t 1)], (some (45, false)), 0, false, []⟩,
⟨some 48, .call .iso (.c (.fn 54 [] [])) [(.t 46), (.t 47)], (some (45, false)), 0, false, []⟩,
⟨some 49, .pick (.t 45) (.c (.bool true)) (.t 48), none, 1, false, []⟩])
(.cond (.t 49)
(.seq (.reg 0 [⟨some 2, .mv (.c (.int .i64 1)), none, 0, false, []⟩])
.ret)
.skip))))
(.reg 0 [⟨some 50, .bin .add (.t 36) (.c (.int .i64 1)), none, 0, false, []⟩,
⟨some 36, .mv (.t 50), none, 0, false, []⟩]))))
def c18 : AFun :=
{ keep := true, np := 1, nt := 51, res := [.tmp 2], body :=
(.seq (.reg 1 [⟨some 1, .box (.t 0), none, 0, false, []⟩,
⟨some 2, .mv (.c (.int .i64 0)), none, 1, false, []⟩])
(.seq (.seq (.reg 0 [⟨some 5, .fad 0 (.t 1), none, 0, false, []⟩,
⟨some 6, .ld 1 false (.t 5), none, 0, false, []⟩,
⟨some 7, .bin .gtr (.t 6) (.c (.int .i64 16)), none, 0, false, []⟩,
⟨some 8, .mv (.t 7), none, 0, false, []⟩,
⟨some 9, .fad 1 (.t 1), (some (8, false)), 0, false, []⟩,
⟨some 10, .ld 1 false (.t 9), (some (8, false)), 0, false, []⟩,
⟨some 11, .bin .gtr (.t 10) (.c (.int .i64 16)), (some (8, false)), 0, false, []⟩,
⟨some 12, .pick (.t 8) (.c (.bool true)) (.t 11), none, 0, false, []⟩,
⟨some 13, .mv (.t 12), none, 0, false, []⟩,
⟨some 14, .fad 2 (.t 1), (some (13, false)), 0, false, []⟩,
⟨some 15, .ld 1 false (.t 14), (some (13, false)), 0, false, []⟩,
⟨some 16, .len 0 (.t 15), (some (13, false)), 0, false, []⟩,
⟨some 17, .bin .gtr (.t 16) (.c (.int .i64 64)), (some (13, false)), 0, false, []⟩,
⟨some 18, .pick (.t 13) (.c (.bool true)) (.t 17), none, 0, false, []⟩])
(.cond (.t 18)
(.seq (.reg 0 [⟨some 2, .mv (.c (.int .i64 3)), none, 0, false, []⟩])
.ret)
.skip))
(.seq (.seq (.reg 0 [⟨some 19, .fad 0 (.t 1), none, 0, false, []⟩,
⟨some 20, .ld 1 false (.t 19), none, 0, false, []⟩,
⟨some 21, .bin .lss (.t 20) (.c (.int .i64 1)), none, 0, false, []⟩,
⟨some 22, .mv (.t 21), none, 0, false, []⟩,
⟨some 23, .fad 1 (.t 1), (some (22, false)), 0, false, []⟩,
⟨some 24, .ld 1 false (.t 23), (some (22, false)), 0, false, []⟩,
⟨some 25, .bin .lss (.t 24) (.c (.int .i64 1)), (some (22, false)), 0, false, []⟩,
⟨some 26, .pick (.t 22) (.c (.bool true)) (.t 25), none, 0, false, []⟩,
⟨some 27, .mv (.t 26), none, 0, false, []⟩,
⟨some 28, .fad 2 (.t 1), (some (27, false)), 0, false, []⟩,
⟨some 29, .ld 1 false (.t 28), (some (27, false)), 0, false, []⟩,
⟨some 30, .len 0 (.t 29), (some (27, false)), 0, false, []⟩,
⟨some 31, .bin .lss (.t 30) (.c (.int .i64 1)), (some (27, false)), 0, false, []⟩,
⟨some 32, .pick (.t 27) (.c (.bool true)) (.t 31), none, 0, false, []⟩])
(.cond (.t 32)
(.seq (.reg 0 [⟨some 2, .mv (.c (.int .i64 1)), none, 0, false, []⟩])
.ret)
.skip))
(.seq (.seq (.reg 0 [⟨some 33, .fad 2 (.t 1), none, 0, false, []⟩,
⟨some 34, .ld 1 false (.t 33), none, 0, false, []⟩,
⟨some 35, .len 0 (.t 34), none, 0, false, []⟩,
⟨some 36, .mv (.c (.int .i64 0)), none, 0, false, []⟩])
(.block 0 (.loop false Yeo)))
(.seq (.reg 0 [⟨some 2, .mv (.c (.int .i64 0)), none, 0, false, []⟩])
.ret))))) }
def Zni : AC :=
(.reg 1 [⟨some 8, .alloc [.int .i64 0, .int .i64 0, .int .i64 0], none, 0, false, []⟩,
⟨none, .st 3 (.t 8) (.t 20), none, 1, false, []⟩])
def Znl : AC :=
(.block 1 (.seq (.reg 0 [⟨some 21, .ld 1 false (.t 7), none, 0, false, []⟩,
⟨some 22, .fad 0 (.t 8), none, 0, false, []⟩,
⟨some 23, .ld 1 false (.t 22), none, 0, false, []⟩,
⟨some 24, .iad 1 (.t 21) (.t 23), none, 0, false, []⟩,
⟨none, .st 1 (.t 24) (.c (.bool true)), none, 0, false, []⟩])
(.seq (.reg 0 [⟨some 25, .fad 1 (.t 8), none, 0, false, []⟩,
⟨some 26, .ld 1 false (.t 25), none, 0, false, []⟩,
⟨some 27, .bin .neq (.t 26) (.c (.int .i64 (-1))), none, 0, false, []⟩])
(.cond (.t 27)
(.regd [[], [], [1], [], [], [4], [3, 4, 5], [3, 4, 5, 6], [3, 4, 5, 6, 7], [], [9], [9, 10], [3, 4, 5, 6, 7, 8, 9, 10, 11], [3, 4, 5, 6, 7, 8, 9, 10, 11, 12], [0, 1, 2, 3, 4, 5, 6, 7, 8, 9, 10, 11, 12, 13], [0, 1, 2, 3, 4, 5, 6, 7, 8, 9, 10, 11, 12, 13, 14]] 4 [⟨some 28, .ld 1 false (.t 6), none, 0, false, []⟩,
⟨some 29, .fad 0 (.t 8), none, 0, false, []⟩,
⟨some 30, .ld 1 false (.t 29), none, 0, false, []⟩,
⟨some 31, .ld 1 false (.t 6), none, 0, false, []⟩,
⟨some 32, .fad 1 (.t 8), none, 0, false, []⟩,
⟨some 33, .ld 1 false (.t 32), none, 0, false, []⟩,
⟨some 34, .iad 1 (.t 31) (.t 33), none, 0, false, []⟩,
⟨some 35, .ld 1 false (.t 34), none, 0, false, []⟩,
⟨some 36, .call .fresh (.c (.fn 44 [] [])) [(.t 35)], none, 0, false, []⟩,
⟨some 37, .fad 2 (.t 8), none, 1, false, []⟩,
⟨some 38, .ld 1 false (.t 37), none, 1, false, []⟩,
⟨some 39, .bsl 1 1 [.int .i64 0] [(0, 1, (.t 38))], none, 1, false, []⟩,
⟨some 40, .app 1 8 (.t 36) (.t 39), none, 2, false, []⟩,
⟨some 41, .call .iso (.c (.fn 26 [] [])) [(.t 40)], none, 3, true, []⟩,
⟨some 42, .iad 1 (.t 28) (.t 30), none, 4, false, []⟩,
⟨none, .st 1 (.t 42) (.t 41), none, 4, false, []⟩])
.skip))))
def c19 : AFun :=
{ keep := true, np := 2, nt := 45, res := [.tmp 4, .tmp 5], body :=
(.seq (.reg 1 [⟨some 2, .box (.t 0), none, 0, false, []⟩,
⟨some 4, .mv (.c (.nils)), none, 1, false, []⟩,
⟨some 5, .mv (.c (.nils)), none, 1, false, []⟩])
(.seq (.regd [[], [0], [0, 1], [0, 1, 2], [], [4], [4, 5], [4, 5, 6], [], [], [0, 1, 2, 3, 8, 9], [0, 1, 2, 3, 4, 5, 6, 7, 8, 9, 10]] 4 [⟨some 9, .fad 2 (.t 2), none, 0, false, []⟩,
⟨some 10, .ld 1 false (.t 9), none, 0, false, []⟩,
⟨some 11, .len 0 (.t 10), none, 0, false, []⟩,
⟨some 12, .mks 1 24 [.nils] (.t 11) (.t 11), none, 0, false, []⟩,
⟨some 13, .fad 2 (.t 2), none, 1, false, []⟩,
⟨some 14, .ld 1 false (.t 13), none, 1, false, []⟩,
⟨some 15, .len 0 (.t 14), none, 1, false, []⟩,
⟨some 16, .mks 1 1 [.bool false] (.t 15) (.t 15), none, 1, false, []⟩,
⟨some 6, .alloc [.nils], none, 2, false, []⟩,
⟨some 7, .alloc [.nils], none, 3, false, []⟩,
⟨none, .st 1 (.t 6) (.t 12), none, 4, false, []⟩,
⟨none, .st 1 (.t 7) (.t 16), none, 4, false, []⟩])
(.seq (.seq (.reg 1 [⟨some 17, .ld 3 true (.t 2), none, 0, false, []⟩,
⟨some 18, .mv (.t 1), none, 0, false, []⟩,
⟨some 19, .call .raw (.c (.fn 43 [] [])) [(.t 17), (.t 18)], none, 0, false, []⟩])
(.block 0 (.rngf false (.t 19) [20] Zni Znl)))
(.seq (.regd [[], [], [0], [0, 1, 2]] 0 [⟨some 43, .ld 1 false (.t 6), none, 0, false, []⟩,
⟨some 44, .ld 1 false (.t 7), none, 0, false, []⟩,
⟨some 4, .mv (.t 43), none, 0, false, []⟩,
⟨some 5, .mv (.t 44), none, 0, false, []⟩])
.ret)))) }
def c20 : AFun :=
{ keep := true, np := 3, nt := 18, res := [.cell 6 2 true], body :=
(.seq (.reg 2 [⟨some 3, .box (.t 0), none, 0, false, []⟩,
⟨some 6, .alloc [.int .i64 0, .int .i64 0], none, 1, false, []⟩])
(.seq (.seq (.reg 0 [⟨some 7, .mv (.t 1), none, 0, false, []⟩,
⟨some 8, .bin .lss (.t 7) (.c (.int .i64 0)), none, 0, false, []⟩])
(.cond (.t 8)
(.seq (.reg 0 [⟨some 9, .build [.int .i64 0, .int .i64 0] [(0, 1, (.c (.int .i64 (-1)))), (1, 1, (.c (.int .i64 (-1))))], none, 0, false, []⟩,
⟨none, .st 2 (.t 6) (.t 9), none, 0, false, []⟩])
.ret)
.skip))
(.seq (.reg 0 [⟨some 10, .fad 2 (.t 3), none, 0, false, []⟩,
⟨some 11, .ld 1 false (.t 10), none, 0, false, []⟩,
⟨some 12, .mv (.t 1), none, 0, false, []⟩,
⟨some 13, .iad 1 (.t 11) (.t 12), none, 0, false, []⟩,
⟨some 14, .ld 1 false (.t 13), none, 0, false, []⟩,
⟨some 15, .mv (.t 2), none, 0, false, []⟩,
⟨some 16, .iad 2 (.t 14) (.t 15), none, 0, false, []⟩,
⟨some 17, .ld 2 true (.t 16), none, 0, false, []⟩,
⟨none, .st 2 (.t 6) (.t 17), none, 0, false, []⟩])
.ret))) }
def c21 : AFun :=
{ keep := true, np := 3, nt := 22, res := [.tmp 6], body :=
(.seq (.reg 1 [⟨some 3, .box (.t 0), none, 0, false, []⟩,
⟨some 6, .mv (.c (.int .i64 0)), none, 1, false, []⟩])
(.seq (.seq (.reg 0 [⟨some 7, .mv (.t 2), none, 0, false, []⟩,
⟨some 8, .len 0 (.t 7), none, 0, false, []⟩,
⟨some 9, .bin .eql (.t 8) (.c (.int .i64 0)), none, 0, false, []⟩])
(.cond (.t 9)
(.seq (.reg 0 [⟨some 10, .mv (.t 1), none, 0, false, []⟩,
⟨some 6, .mv (.t 10), none, 0, false, []⟩])
.ret)
.skip))
(.seq (.regd [[], [], [], [], [3], [3, 4], [1, 2, 3, 4, 5], [1, 2, 3, 4, 5, 6], [], [8], [0, 1, 2, 3, 4, 5, 6, 7, 8, 9], [0, 1, 2, 3, 4, 5, 6, 7, 8, 9, 10]] 2 [⟨some 11, .ld 3 true (.t 3), none, 0, false, []⟩,
⟨some 12, .ld 3 true (.t 3), none, 0, false, []⟩,
⟨some 13, .mv (.t 1), none, 0, false, []⟩,
⟨some 14, .mv (.t 2), none, 0, false, []⟩,
⟨some 15, .iad 1 (.t 14) (.c (.int .i64 0)), none, 0, false, []⟩,
⟨some 16, .ld 1 false (.t 15), none, 0, false, []⟩,
⟨some 17, .call .iso (.c (.fn 20 [] [])) [(.t 12), (.t 13), (.t 16)], none, 0, false, []⟩,
⟨some 18, .fld 0 1 false (.t 17), none, 1, false, []⟩,
⟨some 19, .mv (.t 2), none, 1, false, []⟩,
⟨some 20, .slc 1 (.t 19) (some (.c (.int .i64 1))) none none, none, 1, false, []⟩,
⟨some 21, .call .iso (.c (.fn 21 [] [])) [(.t 11), (.t 18), (.t 20)], none, 1, false, []⟩,
⟨some 6, .mv (.t 21), none, 2, false, []⟩])
.ret))) }
def Ych : AC :=
(.seq (.seq (.reg 0 [⟨some 16, .mv (.t 5), none, 0, false, []⟩,
⟨some 17, .mv (.t 0), none, 0, false, []⟩,
⟨some 18, .len 0 (.t 17), none, 0, false, []⟩,
⟨some 19, .bin .lss (.t 16) (.t 18), none, 0, false, []⟩])
(.cond (.t 19)
.skip
(.exit 0)))
(.seq (.block 1 (.seq (.seq (.regd [[], [], [0, 1], [0, 1, 2], [], [], [4, 5], [4, 5, 6], [0, 1, 2, 3, 4, 5, 6, 7]] 0 [⟨some 22, .mv (.t 0), none, 0, false, []⟩,
⟨some 23, .mv (.t 5), none, 0, false, []⟩,
⟨some 24, .iad 1 (.t 22) (.t 23), none, 0, false, []⟩,
⟨some 25, .ld 1 false (.t 24), none, 0, false, []⟩,
⟨some 26, .mv (.t 1), none, 0, false, []⟩,
⟨some 27, .mv (.t 5), none, 0, false, []⟩,
⟨some 28, .iad 1 (.t 26) (.t 27), none, 0, false, []⟩,
⟨some 29, .ld 1 false (.t 28), none, 0, false, []⟩,
⟨some 30, .bin .lss (.t 25) (.t 29), none, 0, false, []⟩])
(.cond (.t 30)
(.seq (.reg 0 [⟨some 4, .mv (.c (.int .i64 (-1))), none, 0, false, []⟩])
.ret)
.skip))
(.seq (.regd [[], [], [0, 1], [0, 1, 2], [], [], [4, 5], [4, 5, 6], [0, 1, 2, 3, 4, 5, 6, 7]] 0 [⟨some 31, .mv (.t 0), none, 0, false, []⟩,
⟨some 32, .mv (.t 5), none, 0, false, []⟩,
⟨some 33, .iad 1 (.t 31) (.t 32), none, 0, false, []⟩,
⟨some 34, .ld 1 false (.t 33), none, 0, false, []⟩,
⟨some 35, .mv (.t 1), none, 0, false, []⟩,
⟨some 36, .mv (.t 5), none, 0, false, []⟩,
⟨some 37, .iad 1 (.t 35) (.t 36), none, 0, false, []⟩,
⟨some 38, .ld 1 false (.t 37), none, 0, false, []⟩,
⟨some 39, .bin .gtr (.t 34) (.t 38), none, 0, false, []⟩])
(.cond (.t 39)
(.seq (.reg 0 [⟨some 4, .mv (.c (.int .i64 1)), none, 0, false, []⟩])
.ret)
.skip))))
(.reg 0 [⟨some 20, .mv (.t 5), none, 0, false, []⟩,
⟨some 21, .bin .add (.t 20) (.c (.int .i64 1)), none, 0, false, []⟩,
⟨some 5, .mv (.t 21), none, 0, false, []⟩])))
def c22 : AFun :=
{ keep := true, np := 2, nt := 40, res := [.tmp 4], body :=
(.seq (.reg 0 [⟨some 4, .mv (.c (.int .i64 0)), none, 0, false, []⟩])
(.seq (.seq (.reg 0 [⟨some 6, .mv (.t 0), none, 0, false, []⟩,
⟨some 7, .len 0 (.t 6), none, 0, false, []⟩,
⟨some 8, .mv (.t 1), none, 0, false, []⟩,
⟨some 9, .len 0 (.t 8), none, 0, false, []⟩,
⟨some 10, .bin .lss (.t 7) (.t 9), none, 0, false, []⟩])
(.cond (.t 10)
(.seq (.reg 0 [⟨some 4, .mv (.c (.int .i64 (-1))), none, 0, false, []⟩])
.ret)
.skip))
(.seq (.seq (.reg 0 [⟨some 11, .mv (.t 0), none, 0, false, []⟩,
⟨some 12, .len 0 (.t 11), none, 0, false, []⟩,
⟨some 13, .mv (.t 1), none, 0, false, []⟩,
⟨some 14, .len 0 (.t 13), none, 0, false, []⟩,
⟨some 15, .bin .gtr (.t 12) (.t 14), none, 0, false, []⟩])
(.cond (.t 15)
(.seq (.reg 0 [⟨some 4, .mv (.c (.int .i64 1)), none, 0, false, []⟩])
.ret)
.skip))
(.seq (.seq (.reg 0 [⟨some 5, .mv (.c (.int .i64 0)), none, 0, false, []⟩])
(.block 0 (.loop false Ych)))
(.seq (.reg 0 [⟨some 4, .mv (.c (.int .i64 0)), none, 0, false, []⟩])
.ret))))) }
def Zox : AC :=
(.reg 1 [⟨some 4, .alloc [.int .i64 0, .int .i64 0, .int .i64 0], none, 0, false, []⟩,
⟨none, .st 3 (.t 4) (.t 7), none, 1, false, []⟩])
def Znx : AC :=
(.block 1 (.reg 2 [⟨some 8, .ld 1 false (.t 3), none, 0, false, []⟩,
⟨some 9, .fad 0 (.t 4), none, 0, false, []⟩,
⟨some 10, .ld 1 false (.t 9), none, 0, false, []⟩,
⟨some 11, .bsl 1 1 [.int .i64 0] [(0, 1, (.t 10))], none, 0, false, []⟩,
⟨some 12, .app 1 8 (.t 8) (.t 11), none, 1, false, []⟩,
⟨none, .st 1 (.t 3) (.t 12), none, 2, false, []⟩]))
def c23 : AFun :=
{ keep := true, np := 1, nt := 14, res := [.tmp 2], body :=
(.seq (.reg 1 [⟨some 1, .box (.t 0), none, 0, false, []⟩,
⟨some 2, .mv (.c (.nils)), none, 1, false, []⟩])
(.seq (.reg 2 [⟨some 3, .alloc [.nils], none, 0, false, [(0, 1)]⟩])
(.seq (.seq (.reg 1 [⟨some 5, .ld 3 true (.t 1), none, 0, false, []⟩,
⟨some 6, .call .raw (.c (.fn 43 [] [])) [(.t 5), (.c (.int .i64 0))], none, 0, false, []⟩])
(.block 0 (.rngf false (.t 6) [7] Zox Znx)))
(.seq (.reg 0 [⟨some 13, .ld 1 false (.t 3), none, 0, false, []⟩,
⟨some 2, .mv (.t 13), none, 0, false, []⟩])
.ret)))) }
def c24 : AFun :=
{ keep := true, np := 1, nt := 4, res := [.tmp 2], body :=
(.seq (.reg 1 [⟨some 1, .box (.t 0), none, 0, false, []⟩,
⟨some 2, .mv (.c (.nilf)), none, 1, false, []⟩])
(.seq (.reg 0 [⟨some 3, .mkf 47 [] [(.t 1)], none, 0, false, []⟩,
⟨some 2, .mv (.t 3), none, 0, false, []⟩])
.ret)) }
def c25 : AFun :=
{ keep := true, np := 1, nt := 9, res := [.tmp 2], body :=
(.seq (.reg 0 [⟨some 2, .mv (.c (.nils)), none, 0, false, []⟩])
(.seq (.reg 1 [⟨some 4, .mv (.t 0), none, 0, false, []⟩,
⟨some 5, .call .raw (.c (.fn 45 [] [])) [(.t 4)], none, 0, false, []⟩,
⟨some 3, .mv (.t 5), none, 1, false, []⟩])
(.seq (.reg 1 [⟨some 6, .mv (.t 3), none, 0, false, []⟩,
⟨some 7, .call .raw (.c (.fn 46 [] [])) [(.t 6)], none, 0, false, []⟩])
(.seq (.reg 0 [⟨some 8, .mv (.t 3), none, 0, false, []⟩,
⟨some 2, .mv (.t 8), none, 0, false, []⟩])
.ret)))) }
def c26 : AFun :=
{ keep := true, np := 1, nt := 9, res := [.tmp 2], body :=
(.seq (.reg 0 [⟨some 2, .mv (.c (.nils)), none, 0, false, []⟩])
(.seq (.reg 0 [⟨some 3, .mv (.t 0), none, 0, false, []⟩,
⟨some 4, .mv (.t 0), none, 0, false, []⟩,
⟨some 5, .len 0 (.t 4), none, 0, false, []⟩,
⟨some 6, .mv (.t 0), none, 0, false, []⟩,
⟨some 7, .len 0 (.t 6), none, 0, false, []⟩,
⟨some 8, .slc 1 (.t 3) none (some (.t 5)) (some (.t 7)), none, 0, false, []⟩,
⟨some 2, .mv (.t 8), none, 0, false, []⟩])
.ret)) }
def c27 : AFun :=
{ keep := true, np := 1, nt := 15, res := [.tmp 2, .tmp 3], body :=
(.seq (.reg 1 [⟨some 1, .box (.t 0), none, 0, false, []⟩,
⟨some 2, .mv (.c (.nils)), none, 1, false, []⟩,
⟨some 3, .mv (.c (.int .i64 0)), none, 1, false, []⟩])
(.seq (.seq (.reg 1 [⟨some 5, .ld 3 true (.t 1), none, 0, false, []⟩,
⟨some 6, .call .iso (.c (.fn 18 [] [])) [(.t 5)], none, 0, false, []⟩,
⟨some 4, .mv (.t 6), none, 1, false, []⟩])
(.seq (.reg 0 [⟨some 7, .mv (.t 4), none, 0, false, []⟩,
⟨some 8, .bin .neq (.t 7) (.c (.int .i64 0)), none, 0, false, []⟩])
(.cond (.t 8)
(.seq (.reg 0 [⟨some 9, .mv (.t 4), none, 0, false, []⟩,
⟨some 2, .mv (.c (.nils)), none, 0, false, []⟩,
⟨some 3, .mv (.t 9), none, 0, false, []⟩])
.ret)
.skip)))
(.seq (.reg 4 [⟨some 10, .ld 3 true (.t 1), none, 0, false, []⟩,
⟨some 11, .call .iso (.c (.fn 23 [] [])) [(.t 10)], none, 0, true, []⟩,
⟨some 12, .call .raw (.c (.fn 24 [] [])) [(.t 11)], none, 1, false, []⟩,
⟨some 13, .call .raw (.c (.fn 25 [] [])) [(.t 12)], none, 2, false, []⟩,
⟨some 14, .call .iso (.c (.fn 26 [] [])) [(.t 13)], none, 3, true, []⟩,
⟨some 2, .mv (.t 14), none, 4, false, []⟩,
⟨some 3, .mv (.c (.int .i64 0)), none, 4, false, []⟩])
.ret))) }
def c28 : AFun :=
{ keep := true, np := 2, nt := 8, res := [.cell 4 2 true], body :=
(.seq (.reg 1 [⟨some 4, .alloc [.int .i64 0, .int .i64 0], none, 0, false, []⟩])
(.seq (.reg 0 [⟨some 5, .mv (.t 0), none, 0, false, []⟩,
⟨some 6, .mv (.t 1), none, 0, false, []⟩,
⟨some 7, .build [.int .i64 0, .int .i64 0] [(0, 1, (.t 5)), (1, 1, (.t 6))], none, 0, false, []⟩,
⟨none, .st 2 (.t 4) (.t 7), none, 0, false, []⟩])
.ret)) }
def Ybu : AC :=
(.seq (.reg 0 [⟨some 42, .bin .lss (.t 41) (.t 40), none, 0, false, []⟩])
(.seq (.cond (.t 42)
.skip
(.exit 0))
(.seq (.block 1 (.seq (.reg 0 [⟨some 43, .mv (.t 41), none, 0, false, []⟩,
⟨some 44, .iad 1 (.t 39) (.t 41), none, 0, false, []⟩,
⟨some 45, .ld 1 false (.t 44), none, 0, false, []⟩,
⟨some 11, .mv (.t 43), none, 0, false, []⟩,
⟨some 12, .mv (.t 45), none, 0, false, []⟩])
(.reg 0 [⟨some 46, .mv (.t 10), none, 0, false, []⟩,
⟨some 47, .mv (.t 12), none, 0, false, []⟩,
⟨some 48, .mv (.t 9), none, 0, false, []⟩,
⟨some 49, .mv (.t 11), none, 0, false, []⟩,
⟨some 50, .iad 1 (.t 48) (.t 49), none, 0, false, []⟩,
⟨some 51, .ld 1 false (.t 50), none, 0, false, []⟩,
⟨some 52, .iad 1 (.t 46) (.t 47), none, 0, false, []⟩,
⟨none, .st 1 (.t 52) (.t 51), none, 0, false, []⟩])))
(.reg 0 [⟨some 53, .bin .add (.t 41) (.c (.int .i64 1)), none, 0, false, []⟩,
⟨some 41, .mv (.t 53), none, 0, false, []⟩]))))
def c29 : AFun :=
{ keep := true, np := 2, nt := 56, res := [.tmp 4, .tmp 5, .tmp 6], body :=
(.seq (.reg 2 [⟨some 2, .box (.t 0), none, 0, false, []⟩,
⟨some 3, .box (.t 1), none, 1, false, []⟩,
⟨some 4, .mv (.c (.nils)), none, 2, false, []⟩,
⟨some 5, .mv (.c (.bool false)), none, 2, false, []⟩,
⟨some 6, .mv (.c (.int .i64 0)), none, 2, false, []⟩])
(.seq (.seq (.regd [[], [0], [], [0, 1, 2], [0, 1, 2, 3], [0, 1, 2, 3, 4], [0, 1, 2, 3, 4, 5]] 4 [⟨some 13, .ld 3 true (.t 2), none, 0, false, []⟩,
⟨some 14, .call .iso (.c (.fn 18 [] [])) [(.t 13)], none, 0, false, []⟩,
⟨some 15, .ld 3 true (.t 3), none, 1, false, []⟩,
⟨some 16, .call .iso (.c (.fn 18 [] [])) [(.t 15)], none, 1, false, []⟩,
⟨some 17, .bsl 1 2 [.int .i64 0] [(0, 1, (.t 14)), (1, 1, (.t 16))], none, 2, false, []⟩,
⟨some 18, .call .iso (.c (.fn 37 [] [])) [(.t 17)], none, 3, false, []⟩,
⟨some 7, .mv (.t 18), none, 4, false, []⟩])
(.seq (.reg 0 [⟨some 19, .mv (.t 7), none, 0, false, []⟩,
⟨some 20, .bin .neq (.t 19) (.c (.int .i64 0)), none, 0, false, []⟩])
(.cond (.t 20)
(.seq (.reg 0 [⟨some 21, .mv (.t 7), none, 0, false, []⟩,
⟨some 4, .mv (.c (.nils)), none, 0, false, []⟩,
⟨some 5, .mv (.c (.bool false)), none, 0, false, []⟩,
⟨some 6, .mv (.t 21), none, 0, false, []⟩])
.ret)
.skip)))
(.seq (.regd [[], [0], [], [0, 1, 2], [0, 1, 2, 3], [0, 1, 2, 3, 4]] 2 [⟨some 22, .ld 3 true (.t 2), none, 0, false, []⟩,
⟨some 23, .call .iso (.c (.fn 23 [] [])) [(.t 22)], none, 0, true, []⟩,
⟨some 24, .ld 3 true (.t 3), none, 1, false, []⟩,
⟨some 25, .call .iso (.c (.fn 23 [] [])) [(.t 24)], none, 1, true, []⟩,
⟨some 8, .mv (.t 23), none, 2, false, []⟩,
⟨some 9, .mv (.t 25), none, 2, false, []⟩])
(.seq (.seq (.regd [[], [], [0, 1], [], [], [0, 1, 2, 3, 4], [0, 1, 2, 3, 4, 5], [0, 1, 2, 3, 4, 5, 6]] 3 [⟨some 26, .ld 3 true (.t 2), none, 0, false, []⟩,
⟨some 27, .mv (.t 8), none, 0, false, []⟩,
⟨some 28, .call .iso (.c (.fn 32 [] [])) [(.t 26), (.t 27)], none, 0, true, []⟩,
⟨some 29, .ld 3 true (.t 3), none, 1, false, []⟩,
⟨some 30, .mv (.t 9), none, 1, false, []⟩,
⟨some 31, .call .iso (.c (.fn 32 [] [])) [(.t 29), (.t 30)], none, 1, true, []⟩,
⟨some 32, .call .iso (.c (.fn 36 [] [])) [(.t 28), (.t 31)], none, 2, false, []⟩,
⟨some 33, .un .not (.t 32), none, 3, false, []⟩])
(.cond (.t 33)
(.seq (.reg 0 [⟨some 4, .mv (.c (.nils)), none, 0, false, []⟩,
⟨some 5, .mv (.c (.bool false)), none, 0, false, []⟩,
⟨some 6, .mv (.c (.int .i64 0)), none, 0, false, []⟩])
.ret)
.skip))
(.seq (.reg 2 [⟨some 34, .bsl 1 1 [.int .i64 0] [(0, 1, (.c (.int .i64 (-1))))], none, 0, false, []⟩,
⟨some 35, .fad 2 (.t 2), none, 1, false, []⟩,
⟨some 36, .ld 1 false (.t 35), none, 1, false, []⟩,
⟨some 37, .len 0 (.t 36), none, 1, false, []⟩,
⟨some 38, .call .fresh (.c (.fn 38 [] [])) [(.t 34), (.t 37)], none, 1, false, []⟩,
⟨some 10, .mv (.t 38), none, 2, false, []⟩])
(.seq (.seq (.reg 0 [⟨some 39, .mv (.t 8), none, 0, false, []⟩,
⟨some 40, .len 0 (.t 39), none, 0, false, []⟩,
⟨some 41, .mv (.c (.int .i64 0)), none, 0, false, []⟩])
(.block 0 (.loop false Ybu)))
(.seq (.reg 1 [⟨some 54, .mv (.t 10), none, 0, false, []⟩,
⟨some 55, .call .iso (.c (.fn 26 [] [])) [(.t 54)], none, 0, true, []⟩,
⟨some 4, .mv (.t 55), none, 1, false, []⟩,
⟨some 5, .mv (.c (.bool true)), none, 1, false, []⟩,
⟨some 6, .mv (.c (.int .i64 0)), none, 1, false, []⟩])
.ret))))))) }
def c30 : AFun :=
{ keep := true, np := 0, nt := 266, res := [.tmp 0], body :=
(.seq (.reg 0 [⟨some 0, .mv (.c (.bool false)), none, 0, false, []⟩])
(.seq (.reg 14 [⟨some 32, .call .iso (.c (.fn 28 [] [])) [(.c (.int .i64 2)), (.c (.int .i64 0))], none, 0, false, []⟩,
⟨some 33, .call .iso (.c (.fn 28 [] [])) [(.c (.int .i64 0)), (.c (.int .i64 1))], none, 1, false, []⟩,
⟨some 34, .bsl 2 2 [.int .i64 0, .int .i64 0] [(0, 2, (.t 32)), (2, 2, (.t 33))], none, 2, false, []⟩,
⟨some 35, .call .iso (.c (.fn 28 [] [])) [(.c (.int .i64 1)), (.c (.int .i64 0))], none, 3, false, []⟩,
⟨some 36, .call .iso (.c (.fn 28 [] [])) [(.c (.int .i64 2)), (.c (.int .i64 0))], none, 4, false, []⟩,
⟨some 37, .bsl 2 2 [.int .i64 0, .int .i64 0] [(0, 2, (.t 35)), (2, 2, (.t 36))], none, 5, false, []⟩,
⟨some 38, .call .iso (.c (.fn 28 [] [])) [(.c (.int .i64 (-1))), (.c (.int .i64 (-1)))], none, 6, false, []⟩,
⟨some 39, .call .iso (.c (.fn 28 [] [])) [(.c (.int .i64 3)), (.c (.int .i64 1))], none, 7, false, []⟩,
⟨some 40, .bsl 2 2 [.int .i64 0, .int .i64 0] [(0, 2, (.t 38)), (2, 2, (.t 39))], none, 8, false, []⟩,
⟨some 41, .call .iso (.c (.fn 28 [] [])) [(.c (.int .i64 2)), (.c (.int .i64 0))], none, 9, false, []⟩,
⟨some 42, .call .iso (.c (.fn 28 [] [])) [(.c (.int .i64 0)), (.c (.int .i64 0))], none, 10, false, []⟩,
⟨some 43, .bsl 2 2 [.int .i64 0, .int .i64 0] [(0, 2, (.t 41)), (2, 2, (.t 42))], none, 11, false, []⟩,
⟨some 44, .bsl 1 4 [.nils] [(0, 1, (.t 34)), (1, 1, (.t 37)), (2, 1, (.t 40)), (3, 1, (.t 43))], none, 12, true, []⟩,
⟨some 45, .build [.int .i64 0, .int .i64 0, .nils] [(0, 1, (.c (.int .i64 2))), (1, 1, (.c (.int .i64 2))), (2, 1, (.t 44))], none, 13, true, []⟩,
⟨some 1, .alloc [.int .i64 0, .int .i64 0, .nils], none, 13, false, []⟩,
⟨none, .st 3 (.t 1) (.t 45), none, 14, false, []⟩])
(.seq (.reg 11 [⟨some 46, .call .iso (.c (.fn 28 [] [])) [(.c (.int .i64 1)), (.c (.int .i64 0))], none, 0, false, []⟩,
⟨some 47, .call .iso (.c (.fn 28 [] [])) [(.c (.int .i64 0)), (.c (.int .i64 1))], none, 1, false, []⟩,
⟨some 48, .bsl 2 2 [.int .i64 0, .int .i64 0] [(0, 2, (.t 46)), (2, 2, (.t 47))], none, 2, false, []⟩,
⟨some 49, .call .iso (.c (.fn 28 [] [])) [(.c (.int .i64 (-1))), (.c (.int .i64 (-1)))], none, 3, false, []⟩,
⟨some 50, .call .iso (.c (.fn 28 [] [])) [(.c (.int .i64 2)), (.c (.int .i64 1))], none, 4, false, []⟩,
⟨some 51, .bsl 2 2 [.int .i64 0, .int .i64 0] [(0, 2, (.t 49)), (2, 2, (.t 50))], none, 5, false, []⟩,
⟨some 52, .call .iso (.c (.fn 28 [] [])) [(.c (.int .i64 1)), (.c (.int .i64 0))], none, 6, false, []⟩,
⟨some 53, .call .iso (.c (.fn 28 [] [])) [(.c (.int .i64 0)), (.c (.int .i64 0))], none, 7, false, []⟩,
⟨some 54, .bsl 2 2 [.int .i64 0, .int .i64 0] [(0, 2, (.t 52)), (2, 2, (.t 53))], none, 8, false, []⟩,
⟨some 55, .bsl 1 3 [.nils] [(0, 1, (.t 48)), (1, 1, (.t 51)), (2, 1, (.t 54))], none, 9, true, []⟩,
⟨some 56, .build [.int .i64 0, .int .i64 0, .nils] [(0, 1, (.c (.int .i64 2))), (1, 1, (.c (.int .i64 2))), (2, 1, (.t 55))], none, 10, true, []⟩,
⟨some 2, .alloc [.int .i64 0, .int .i64 0, .nils], none, 10, false, []⟩,
⟨none, .st 3 (.t 2) (.t 56), none, 11, false, []⟩])
(.seq (.reg 1 [⟨some 58, .ld 3 true (.t 1), none, 0, false, []⟩,
⟨some 59, .call .iso (.c (.fn 27 [] [])) [(.t 58)], none, 0, true, []⟩,
⟨some 57, .mv (.t 59), none, 1, false, []⟩,
⟨some 60, .ext (.t 57) 0, none, 1, false, []⟩,
⟨some 61, .ext (.t 57) 1, none, 1, false, []⟩,
⟨some 3, .mv (.t 60), none, 1, false, []⟩,
⟨some 4, .mv (.t 61), none, 1, false, []⟩])
(.seq (.reg 1 [⟨some 63, .ld 3 true (.t 1), none, 0, false, []⟩,
⟨some 64, .call .iso (.c (.fn 3 [] [])) [(.t 63)], none, 0, true, []⟩,
⟨some 62, .mv (.t 64), none, 1, false, []⟩,
⟨some 65, .ext (.t 62) 0, none, 1, false, []⟩,
⟨some 66, .ext (.t 62) 1, none, 1, false, []⟩,
⟨some 67, .ext (.t 62) 2, none, 1, false, []⟩,
⟨some 5, .mv (.t 65), none, 1, false, []⟩,
⟨some 6, .mv (.t 66), none, 1, false, []⟩,
⟨some 7, .mv (.t 67), none, 1, false, []⟩])
(.seq (.seq (.reg 8 [⟨some 68, .mv (.t 3), none, 0, false, []⟩,
⟨some 69, .mv (.t 4), none, 0, false, []⟩,
⟨some 70, .bsl 1 3 [.int .i64 0] [(0, 1, (.c (.int .i64 0))), (1, 1, (.c (.int .i64 2))), (2, 1, (.c (.int .i64 3)))], none, 0, false, []⟩,
⟨some 71, .call .iso (.c (.fn 8 [] [])) [(.t 68), (.t 69), (.t 70), (.c (.int .i64 0))], none, 1, false, []⟩,
⟨some 72, .un .not (.t 71), none, 2, false, []⟩,
⟨some 73, .mv (.t 72), none, 2, false, []⟩,
⟨some 74, .mv (.t 7), (some (73, false)), 2, false, []⟩,
⟨some 75, .bin .neq (.t 74) (.c (.int .i64 0)), (some (73, false)), 2, false, []⟩,
⟨some 76, .pick (.t 73) (.c (.bool true)) (.t 75), none, 2, false, []⟩,
⟨some 77, .mv (.t 76), none, 2, false, []⟩,
⟨some 78, .mv (.t 5), (some (77, false)), 2, false, []⟩,
⟨some 79, .len 0 (.t 78), (some (77, false)), 2, false, []⟩,
⟨some 80, .bin .neq (.t 79) (.c (.int .i64 4)), (some (77, false)), 2, false, []⟩,
⟨some 81, .pick (.t 77) (.c (.bool true)) (.t 80), none, 2, false, []⟩,
⟨some 82, .mv (.t 81), none, 2, false, []⟩,
⟨some 83, .mv (.t 6), (some (82, false)), 2, false, []⟩,
⟨some 84, .len 0 (.t 83), (some (82, false)), 2, false, []⟩,
⟨some 85, .bin .neq (.t 84) (.c (.int .i64 4)), (some (82, false)), 2, false, []⟩,
⟨some 86, .pick (.t 82) (.c (.bool true)) (.t 85), none, 2, false, []⟩,
⟨some 87, .mv (.t 86), none, 2, false, []⟩,
⟨some 88, .mv (.t 6), (some (87, false)), 2, false, []⟩,
⟨some 89, .iad 1 (.t 88) (.c (.int .i64 0)), (some (87, false)), 2, false, []⟩,
⟨some 90, .ld 1 false (.t 89), (some (87, false)), 2, false, []⟩,
⟨some 91, .un .not (.t 90), (some (87, false)), 2, false, []⟩,
⟨some 92, .pick (.t 87) (.c (.bool true)) (.t 91), none, 2, false, []⟩,
⟨some 93, .mv (.t 92), none, 2, false, []⟩,
⟨some 94, .mv (.t 6), (some (93, false)), 2, false, []⟩,
⟨some 95, .iad 1 (.t 94) (.c (.int .i64 1)), (some (93, false)), 2, false, []⟩,
⟨some 96, .ld 1 false (.t 95), (some (93, false)), 2, false, []⟩,
⟨some 97, .pick (.t 93) (.c (.bool true)) (.t 96), none, 2, false, []⟩,
⟨some 98, .mv (.t 97), none, 2, false, []⟩,
⟨some 99, .mv (.t 6), (some (98, false)), 2, false, []⟩,
⟨some 100, .iad 1 (.t 99) (.c (.int .i64 2)), (some (98, false)), 2, false, []⟩,
⟨some 101, .ld 1 false (.t 100), (some (98, false)), 2, false, []⟩,
⟨some 102, .un .not (.t 101), (some (98, false)), 2, false, []⟩,
⟨some 103, .pick (.t 98) (.c (.bool true)) (.t 102), none, 2, false, []⟩,
⟨some 104, .mv (.t 103), none, 2, false, []⟩,
⟨some 105, .mv (.t 6), (some (104, false)), 2, false, []⟩,
⟨some 106, .iad 1 (.t 105) (.c (.int .i64 3)), (some (104, false)), 2, false, []⟩,
⟨some 107, .ld 1 false (.t 106), (some (104, false)), 2, false, []⟩,
⟨some 108, .un .not (.t 107), (some (104, false)), 2, false, []⟩,
⟨some 109, .pick (.t 104) (.c (.bool true)) (.t 108), none, 2, false, []⟩,
⟨some 110, .mv (.t 109), none, 2, false, []⟩,
⟨some 111, .mv (.t 5), (some (110, false)), 2, false, []⟩,
⟨some 112, .iad 1 (.t 111) (.c (.int .i64 0)), (some (110, false)), 2, false, []⟩,
⟨some 113, .ld 1 false (.t 112), (some (110, false)), 2, false, []⟩,
⟨some 114, .call .iso (.c (.fn 8 [] [])) [(.t 113), (.c (.int .i64 0)), (.c (.nils)), (.c (.int .i64 0))], (some (110, false)), 2, false, []⟩,
⟨some 115, .un .not (.t 114), (some (110, false)), 3, false, []⟩,
⟨some 116, .pick (.t 110) (.c (.bool true)) (.t 115), none, 3, false, []⟩,
⟨some 117, .mv (.t 116), none, 3, false, []⟩,
⟨some 118, .mv (.t 5), (some (117, false)), 3, false, []⟩,
⟨some 119, .iad 1 (.t 118) (.c (.int .i64 1)), (some (117, false)), 3, false, []⟩,
⟨some 120, .ld 1 false (.t 119), (some (117, false)), 3, false, []⟩,
⟨some 121, .call .iso (.c (.fn 8 [] [])) [(.t 120), (.c (.int .i64 0)), (.c (.nils)), (.c (.int .i64 0))], (some (117, false)), 3, false, []⟩,
⟨some 122, .un .not (.t 121), (some (117, false)), 4, false, []⟩,
⟨some 123, .pick (.t 117) (.c (.bool true)) (.t 122), none, 4, false, []⟩,
⟨some 124, .mv (.t 123), none, 4, false, []⟩,
⟨some 125, .mv (.t 5), (some (124, false)), 4, false, []⟩,
⟨some 126, .iad 1 (.t 125) (.c (.int .i64 2)), (some (124, false)), 4, false, []⟩,
⟨some 127, .ld 1 false (.t 126), (some (124, false)), 4, false, []⟩,
⟨some 128, .bsl 1 1 [.int .i64 0] [(0, 1, (.c (.int .i64 0)))], (some (124, false)), 4, false, []⟩,
⟨some 129, .call .iso (.c (.fn 8 [] [])) [(.t 127), (.c (.int .i64 0)), (.t 128), (.c (.int .i64 0))], (some (124, false)), 5, false, []⟩,
⟨some 130, .un .not (.t 129), (some (124, false)), 6, false, []⟩,
⟨some 131, .pick (.t 124) (.c (.bool true)) (.t 130), none, 6, false, []⟩,
⟨some 132, .mv (.t 131), none, 6, false, []⟩,
⟨some 133, .mv (.t 5), (some (132, false)), 6, false, []⟩,
⟨some 134, .iad 1 (.t 133) (.c (.int .i64 3)), (some (132, false)), 6, false, []⟩,
⟨some 135, .ld 1 false (.t 134), (some (132, false)), 6, false, []⟩,
⟨some 136, .bsl 1 2 [.int .i64 0] [(0, 1, (.c (.int .i64 0))), (1, 1, (.c (.int .i64 1)))], (some (132, false)), 6, false, []⟩,
⟨some 137, .call .iso (.c (.fn 8 [] [])) [(.t 135), (.c (.int .i64 0)), (.t 136), (.c (.int .i64 0))], (some (132, false)), 7, false, []⟩,
⟨some 138, .un .not (.t 137), (some (132, false)), 8, false, []⟩,
⟨some 139, .pick (.t 132) (.c (.bool true)) (.t 138), none, 8, false, []⟩])
(.cond (.t 139)
(.seq (.reg 0 [⟨some 0, .mv (.c (.bool false)), none, 0, false, []⟩])
.ret)
.skip))
(.seq (.reg 1 [⟨some 141, .ld 3 true (.t 1), none, 0, false, []⟩,
⟨some 142, .call .iso (.c (.fn 5 [] [])) [(.t 141), (.c (.int .i64 3)), (.c (.int .i64 2))], none, 0, true, []⟩,
⟨some 140, .mv (.t 142), none, 1, false, []⟩,
⟨some 143, .ext (.t 140) 0, none, 1, false, []⟩,
⟨some 144, .ext (.t 140) 1, none, 1, false, []⟩,
⟨some 145, .ext (.t 140) 2, none, 1, false, []⟩,
⟨some 8, .mv (.t 143), none, 1, false, []⟩,
⟨some 9, .mv (.t 144), none, 1, false, []⟩,
⟨some 10, .mv (.t 145), none, 1, false, []⟩])
(.seq (.reg 1 [⟨some 147, .ld 3 true (.t 1), none, 0, false, []⟩,
⟨some 148, .call .iso (.c (.fn 5 [] [])) [(.t 147), (.c (.int .i64 2)), (.c (.int .i64 2))], none, 0, true, []⟩,
⟨some 146, .mv (.t 148), none, 1, false, []⟩,
⟨some 149, .ext (.t 146) 0, none, 1, false, []⟩,
⟨some 150, .ext (.t 146) 1, none, 1, false, []⟩,
⟨some 151, .ext (.t 146) 2, none, 1, false, []⟩,
⟨some 11, .mv (.t 149), none, 1, false, []⟩,
⟨some 12, .mv (.t 150), none, 1, false, []⟩,
⟨some 13, .mv (.t 151), none, 1, false, []⟩])
(.seq (.reg 1 [⟨some 153, .ld 3 true (.t 1), none, 0, false, []⟩,
⟨some 154, .call .iso (.c (.fn 5 [] [])) [(.t 153), (.c (.int .i64 2)), (.c (.int .i64 0))], none, 0, true, []⟩,
⟨some 152, .mv (.t 154), none, 1, false, []⟩,
⟨some 155, .ext (.t 152) 0, none, 1, false, []⟩,
⟨some 156, .ext (.t 152) 1, none, 1, false, []⟩,
⟨some 157, .ext (.t 152) 2, none, 1, false, []⟩,
⟨some 14, .mv (.t 155), none, 1, false, []⟩,
⟨some 15, .mv (.t 156), none, 1, false, []⟩,
⟨some 16, .mv (.t 157), none, 1, false, []⟩])
(.seq (.reg 1 [⟨some 159, .ld 3 true (.t 1), none, 0, false, []⟩,
⟨some 160, .call .iso (.c (.fn 5 [] [])) [(.t 159), (.c (.int .i64 0)), (.c (.int .i64 1))], none, 0, true, []⟩,
⟨some 158, .mv (.t 160), none, 1, false, []⟩,
⟨some 161, .ext (.t 158) 0, none, 1, false, []⟩,
⟨some 162, .ext (.t 158) 1, none, 1, false, []⟩,
⟨some 163, .ext (.t 158) 2, none, 1, false, []⟩,
⟨some 17, .mv (.t 161), none, 1, false, []⟩,
⟨some 18, .mv (.t 162), none, 1, false, []⟩,
⟨some 19, .mv (.t 163), none, 1, false, []⟩])
(.seq (.reg 1 [⟨some 165, .ld 3 true (.t 1), none, 0, false, []⟩,
⟨some 166, .call .iso (.c (.fn 6 [] [])) [(.t 165), (.c (.int .i64 2))], none, 0, true, []⟩,
⟨some 164, .mv (.t 166), none, 1, false, []⟩,
⟨some 167, .ext (.t 164) 0, none, 1, false, []⟩,
⟨some 168, .ext (.t 164) 1, none, 1, false, []⟩,
⟨some 20, .mv (.t 167), none, 1, false, []⟩,
⟨some 21, .mv (.t 168), none, 1, false, []⟩])
(.seq (.reg 2 [⟨some 170, .ld 3 true (.t 1), none, 0, false, []⟩,
⟨some 171, .call .iso (.c (.fn 10 [] [])) [(.t 170)], none, 0, true, []⟩,
⟨some 169, .mv (.t 171), none, 1, false, []⟩,
⟨some 172, .ext (.t 169) 0, none, 1, false, []⟩,
⟨some 173, .ext (.t 169) 1, none, 1, false, []⟩,
⟨some 174, .ext (.t 169) 2, none, 1, false, []⟩,
⟨some 22, .alloc [.int .i64 0, .int .i64 0, .nils], none, 1, false, []⟩,
⟨none, .st 3 (.t 22) (.t 172), none, 2, false, []⟩,
⟨some 23, .mv (.t 173), none, 2, false, []⟩,
⟨some 24, .mv (.t 174), none, 2, false, []⟩])
(.seq (.reg 2 [⟨some 176, .ld 3 true (.t 1), none, 0, false, []⟩,
⟨some 177, .call .iso (.c (.fn 11 [] [])) [(.t 176)], none, 0, true, []⟩,
⟨some 175, .mv (.t 177), none, 1, false, []⟩,
⟨some 178, .ext (.t 175) 0, none, 1, false, []⟩,
⟨some 179, .ext (.t 175) 1, none, 1, false, []⟩,
⟨some 25, .alloc [.int .i64 0, .int .i64 0, .nils], none, 1, false, []⟩,
⟨none, .st 3 (.t 25) (.t 178), none, 2, false, []⟩,
⟨some 26, .mv (.t 179), none, 2, false, []⟩])
(.seq (.reg 1 [⟨some 181, .ld 3 true (.t 1), none, 0, false, []⟩,
⟨some 182, .call .iso (.c (.fn 16 [] [])) [(.t 181)], none, 0, false, []⟩,
⟨some 180, .mv (.t 182), none, 1, false, []⟩,
⟨some 183, .ext (.t 180) 0, none, 1, false, []⟩,
⟨some 184, .ext (.t 180) 1, none, 1, false, []⟩,
⟨some 27, .mv (.t 183), none, 1, false, []⟩,
⟨some 28, .mv (.t 184), none, 1, false, []⟩])
(.seq (.reg 1 [⟨some 186, .ld 3 true (.t 1), none, 0, false, []⟩,
⟨some 187, .ld 3 true (.t 2), none, 0, false, []⟩,
⟨some 188, .call .iso (.c (.fn 29 [] [])) [(.t 186), (.t 187)], none, 0, true, []⟩,
⟨some 185, .mv (.t 188), none, 1, false, []⟩,
⟨some 189, .ext (.t 185) 0, none, 1, false, []⟩,
⟨some 190, .ext (.t 185) 1, none, 1, false, []⟩,
⟨some 191, .ext (.t 185) 2, none, 1, false, []⟩,
⟨some 29, .mv (.t 189), none, 1, false, []⟩,
⟨some 30, .mv (.t 190), none, 1, false, []⟩,
⟨some 31, .mv (.t 191), none, 1, false, []⟩])
(.seq (.reg 14 [⟨some 192, .mv (.t 8), none, 0, false, []⟩,
⟨some 193, .mv (.t 10), none, 0, false, []⟩,
⟨some 194, .bsl 1 1 [.int .i64 0] [(0, 1, (.c (.int .i64 0)))], none, 0, false, []⟩,
⟨some 195, .call .iso (.c (.fn 8 [] [])) [(.t 192), (.t 193), (.t 194), (.c (.int .i64 0))], none, 1, false, []⟩,
⟨some 196, .mv (.t 195), none, 2, false, []⟩,
⟨some 197, .mv (.t 9), (some (196, true)), 2, false, []⟩,
⟨some 198, .pick (.t 196) (.t 197) (.c (.bool false)), none, 2, false, []⟩,
⟨some 199, .mv (.t 198), none, 2, false, []⟩,
⟨some 200, .mv (.t 11), (some (199, true)), 2, false, []⟩,
⟨some 201, .mv (.t 13), (some (199, true)), 2, false, []⟩,
⟨some 202, .call .iso (.c (.fn 8 [] [])) [(.t 200), (.t 201), (.c (.nils)), (.c (.int .i64 0))], (some (199, true)), 2, false, []⟩,
⟨some 203, .pick (.t 199) (.t 202) (.c (.bool false)), none, 3, false, []⟩,
⟨some 204, .mv (.t 203), none, 3, false, []⟩,
⟨some 205, .mv (.t 12), (some (204, true)), 3, false, []⟩,
⟨some 206, .pick (.t 204) (.t 205) (.c (.bool false)), none, 3, false, []⟩,
⟨some 207, .mv (.t 206), none, 3, false, []⟩,
⟨some 208, .mv (.t 14), (some (207, true)), 3, false, []⟩,
⟨some 209, .mv (.t 16), (some (207, true)), 3, false, []⟩,
⟨some 210, .bsl 1 2 [.int .i64 0] [(0, 1, (.c (.int .i64 1))), (1, 1, (.c (.int .i64 1)))], (some (207, true)), 3, false, []⟩,
⟨some 211, .call .iso (.c (.fn 8 [] [])) [(.t 208), (.t 209), (.t 210), (.c (.int .i64 0))], (some (207, true)), 4, false, []⟩,
⟨some 212, .pick (.t 207) (.t 211) (.c (.bool false)), none, 5, false, []⟩,
⟨some 213, .mv (.t 212), none, 5, false, []⟩,
⟨some 214, .mv (.t 15), (some (213, true)), 5, false, []⟩,
⟨some 215, .pick (.t 213) (.t 214) (.c (.bool false)), none, 5, false, []⟩,
⟨some 216, .mv (.t 215), none, 5, false, []⟩,
⟨some 217, .mv (.t 17), (some (216, true)), 5, false, []⟩,
⟨some 218, .mv (.t 19), (some (216, true)), 5, false, []⟩,
⟨some 219, .call .iso (.c (.fn 8 [] [])) [(.t 217), (.t 218), (.c (.nils)), (.c (.int .i64 0))], (some (216, true)), 5, false, []⟩,
⟨some 220, .pick (.t 216) (.t 219) (.c (.bool false)), none, 6, false, []⟩,
⟨some 221, .mv (.t 220), none, 6, false, []⟩,
⟨some 222, .mv (.t 18), (some (221, true)), 6, false, []⟩,
⟨some 223, .un .not (.t 222), (some (221, true)), 6, false, []⟩,
⟨some 224, .pick (.t 221) (.t 223) (.c (.bool false)), none, 6, false, []⟩,
⟨some 225, .mv (.t 224), none, 6, false, []⟩,
⟨some 226, .mv (.t 20), (some (225, true)), 6, false, []⟩,
⟨some 227, .mv (.t 21), (some (225, true)), 6, false, []⟩,
⟨some 228, .bsl 1 4 [.int .i64 0] [(0, 1, (.c (.int .i64 2))), (1, 1, (.c (.int .i64 (-1)))), (2, 1, (.c (.int .i64 0))), (3, 1, (.c (.int .i64 1)))], (some (225, true)), 6, false, []⟩,
⟨some 229, .call .iso (.c (.fn 8 [] [])) [(.t 226), (.t 227), (.t 228), (.c (.int .i64 0))], (some (225, true)), 7, false, []⟩,
⟨some 230, .pick (.t 225) (.t 229) (.c (.bool false)), none, 8, false, []⟩,
⟨some 231, .mv (.t 230), none, 8, false, []⟩,
⟨some 232, .ld 3 true (.t 22), (some (231, true)), 8, false, []⟩,
⟨some 233, .mv (.t 24), (some (231, true)), 8, false, []⟩,
⟨some 234, .ld 3 true (.t 2), (some (231, true)), 8, false, []⟩,
⟨some 235, .call .iso (.c (.fn 13 [] [])) [(.t 232), (.t 233), (.t 234)], (some (231, true)), 8, false, []⟩,
⟨some 236, .pick (.t 231) (.t 235) (.c (.bool false)), none, 9, false, []⟩,
⟨some 237, .mv (.t 236), none, 9, false, []⟩,
⟨some 238, .mv (.t 23), (some (237, true)), 9, false, []⟩,
⟨some 239, .mv (.t 24), (some (237, true)), 9, false, []⟩,
⟨some 240, .bsl 1 3 [.int .i64 0] [(0, 1, (.c (.int .i64 0))), (1, 1, (.c (.int .i64 2))), (2, 1, (.c (.int .i64 3)))], (some (237, true)), 9, false, []⟩,
⟨some 241, .call .iso (.c (.fn 8 [] [])) [(.t 238), (.t 239), (.t 240), (.c (.int .i64 0))], (some (237, true)), 10, false, []⟩,
⟨some 242, .pick (.t 237) (.t 241) (.c (.bool false)), none, 11, false, []⟩,
⟨some 243, .mv (.t 242), none, 11, false, []⟩,
⟨some 244, .ld 3 true (.t 25), (some (243, true)), 11, false, []⟩,
⟨some 245, .mv (.t 26), (some (243, true)), 11, false, []⟩,
⟨some 246, .ld 3 true (.t 2), (some (243, true)), 11, false, []⟩,
⟨some 247, .call .iso (.c (.fn 13 [] [])) [(.t 244), (.t 245), (.t 246)], (some (243, true)), 11, false, []⟩,
⟨some 248, .pick (.t 243) (.t 247) (.c (.bool false)), none, 12, false, []⟩,
⟨some 249, .mv (.t 248), none, 12, false, []⟩,
⟨some 250, .mv (.t 27), (some (249, true)), 12, false, []⟩,
⟨some 251, .un .not (.t 250), (some (249, true)), 12, false, []⟩,
⟨some 252, .pick (.t 249) (.t 251) (.c (.bool false)), none, 12, false, []⟩,
⟨some 253, .mv (.t 252), none, 12, false, []⟩,
⟨some 254, .mv (.t 28), (some (253, true)), 12, false, []⟩,
⟨some 255, .bin .eql (.t 254) (.c (.int .i64 0)), (some (253, true)), 12, false, []⟩,
⟨some 256, .pick (.t 253) (.t 255) (.c (.bool false)), none, 12, false, []⟩,
⟨some 257, .mv (.t 256), none, 12, false, []⟩,
⟨some 258, .mv (.t 29), (some (257, true)), 12, false, []⟩,
⟨some 259, .mv (.t 31), (some (257, true)), 12, false, []⟩,
⟨some 260, .bsl 1 4 [.int .i64 0] [(0, 1, (.c (.int .i64 0))), (1, 1, (.c (.int .i64 (-1)))), (2, 1, (.c (.int .i64 1))), (3, 1, (.c (.int .i64 2)))], (some (257, true)), 12, false, []⟩,
⟨some 261, .call .iso (.c (.fn 8 [] [])) [(.t 258), (.t 259), (.t 260), (.c (.int .i64 0))], (some (257, true)), 13, false, []⟩,
⟨some 262, .pick (.t 257) (.t 261) (.c (.bool false)), none, 14, false, []⟩,
⟨some 263, .mv (.t 262), none, 14, false, []⟩,
⟨some 264, .mv (.t 30), (some (263, true)), 14, false, []⟩,
⟨some 265, .pick (.t 263) (.t 264) (.c (.bool false)), none, 14, false, []⟩,
⟨some 0, .mv (.t 265), none, 14, false, []⟩])
.ret)))))))))))))))) }
def c31 : AFun :=
{ keep := true, np := 2, nt := 14, res := [.tmp 4], body :=
(.seq (.reg 1 [⟨some 2, .box (.t 0), none, 0, false, []⟩,
⟨some 4, .mv (.c (.int .i64 0)), none, 1, false, []⟩])
(.seq (.seq (.reg 1 [⟨some 6, .ld 3 true (.t 2), none, 0, false, []⟩,
⟨some 7, .call .iso (.c (.fn 18 [] [])) [(.t 6)], none, 0, false, []⟩,
⟨some 5, .mv (.t 7), none, 1, false, []⟩])
(.seq (.reg 0 [⟨some 8, .mv (.t 5), none, 0, false, []⟩,
⟨some 9, .bin .neq (.t 8) (.c (.int .i64 0)), none, 0, false, []⟩])
(.cond (.t 9)
(.seq (.reg 0 [⟨some 10, .mv (.t 5), none, 0, false, []⟩,
⟨some 4, .mv (.t 10), none, 0, false, []⟩])
.ret)
.skip)))
(.seq (.seq (.reg 1 [⟨some 11, .mv (.t 1), none, 0, false, []⟩,
⟨some 12, .mkf 48 [] [(.t 2)], none, 0, false, []⟩,
⟨some 13, .call .iso (.c (.fn 49 [] [])) [(.t 11), (.t 12)], none, 0, false, []⟩])
(.cond (.t 13)
(.seq (.reg 0 [⟨some 4, .mv (.c (.int .i64 1)), none, 0, false, []⟩])
.ret)
.skip))
(.seq (.reg 0 [⟨some 4, .mv (.c (.int .i64 0)), none, 0, false, []⟩])
.ret)))) }
def Ydr : AC :=
(.seq (.reg 0 [⟨some 19, .bin .lss (.t 18) (.t 17), none, 0, false, []⟩])
(.seq (.cond (.t 19)
.skip
(.exit 0))
(.seq (.block 1 (.seq (.reg 0 [⟨some 20, .mv (.t 18), none, 0, false, []⟩,
⟨some 21, .iad 1 (.t 16) (.t 18), none, 0, false, []⟩,
⟨some 22, .ld 1 false (.t 21), none, 0, false, []⟩,
⟨some 6, .mv (.t 20), none, 0, false, []⟩,
⟨some 7, .mv (.t 22), none, 0, false, []⟩])
(.reg 0 [⟨some 23, .ld 1 false (.t 5), none, 0, false, []⟩,
⟨some 24, .mv (.t 7), none, 0, false, []⟩,
⟨some 25, .mv (.t 6), none, 0, false, []⟩,
⟨none, .mup false [.i] (.t 23) (.t 24) (.t 25), none, 0, false, []⟩])))
(.reg 0 [⟨some 26, .bin .add (.t 18) (.c (.int .i64 1)), none, 0, false, []⟩,
⟨some 18, .mv (.t 26), none, 0, false, []⟩]))))
def Ydu : AC :=
(.seq (.reg 0 [⟨some 57, .bin .lss (.t 56) (.t 55), none, 0, false, []⟩])
(.seq (.cond (.t 57)
.skip
(.exit 4))
(.seq (.block 5 (.seq (.reg 1 [⟨some 58, .mv (.t 56), none, 0, false, []⟩,
⟨some 59, .iad 2 (.t 54) (.t 56), none, 0, false, []⟩,
⟨some 60, .ld 2 true (.t 59), none, 0, false, []⟩,
⟨some 13, .alloc [.int .i64 0, .int .i64 0], none, 0, false, []⟩,
⟨some 12, .mv (.t 58), none, 1, false, []⟩,
⟨none, .st 2 (.t 13) (.t 60), none, 1, false, []⟩])
(.regd [[], [0], [], [0, 1, 2], [0, 1, 2, 3], [], [], [], [6, 7], [0, 1, 2, 3, 4, 5, 6, 7, 8], [0, 1, 2, 3, 4, 5, 6, 7, 8, 9]] 1 [⟨some 61, .fad 2 (.t 9), none, 0, false, []⟩,
⟨some 62, .ld 1 false (.t 61), none, 0, false, []⟩,
⟨some 63, .mv (.t 10), none, 0, false, []⟩,
⟨some 64, .iad 1 (.t 62) (.t 63), none, 0, false, []⟩,
⟨some 65, .ld 1 false (.t 64), none, 0, false, []⟩,
⟨some 66, .mv (.t 12), none, 0, false, []⟩,
⟨some 67, .mv (.t 8), none, 0, false, []⟩,
⟨some 68, .ld 2 true (.t 13), none, 0, false, []⟩,
⟨some 69, .call .iso (.t 67) [(.t 68)], none, 0, false, []⟩,
⟨some 70, .iad 2 (.t 65) (.t 66), none, 1, false, []⟩,
⟨none, .st 2 (.t 70) (.t 69), none, 1, false, []⟩])))
(.reg 0 [⟨some 71, .bin .add (.t 56) (.c (.int .i64 1)), none, 0, false, []⟩,
⟨some 56, .mv (.t 71), none, 0, false, []⟩]))))
def Yet : AC :=
(.seq (.reg 0 [⟨some 39, .bin .lss (.t 38) (.t 37), none, 0, false, []⟩])
(.seq (.cond (.t 39)
.skip
(.exit 2))
(.seq (.block 3 (.seq (.reg 0 [⟨some 40, .mv (.t 38), none, 0, false, []⟩,
⟨some 41, .iad 1 (.t 36) (.t 38), none, 0, false, []⟩,
⟨some 42, .ld 1 false (.t 41), none, 0, false, []⟩,
⟨some 10, .mv (.t 40), none, 0, false, []⟩,
⟨some 11, .mv (.t 42), none, 0, false, []⟩])
(.seq (.regd [[], [0], [], [], [3], [3, 4], [0, 1, 2, 3, 4, 5], [0, 1, 2, 3, 4, 5, 6]] 1 [⟨some 43, .fad 2 (.t 9), none, 0, false, []⟩,
⟨some 44, .ld 1 false (.t 43), none, 0, false, []⟩,
⟨some 45, .mv (.t 10), none, 0, false, []⟩,
⟨some 46, .fad 0 (.t 2), none, 0, false, []⟩,
⟨some 47, .ld 1 false (.t 46), none, 0, false, []⟩,
⟨some 48, .mks 2 16 [.int .i64 0, .int .i64 0] (.t 47) (.t 47), none, 0, false, []⟩,
⟨some 49, .iad 1 (.t 44) (.t 45), none, 1, false, []⟩,
⟨none, .st 1 (.t 49) (.t 48), none, 1, false, []⟩])
(.seq (.reg 0 [⟨some 50, .fad 2 (.t 2), none, 0, false, []⟩,
⟨some 51, .ld 1 false (.t 50), none, 0, false, []⟩,
⟨some 52, .mv (.t 11), none, 0, false, []⟩,
⟨some 53, .iad 1 (.t 51) (.t 52), none, 0, false, []⟩,
⟨some 54, .ld 1 false (.t 53), none, 0, false, []⟩,
⟨some 55, .len 0 (.t 54), none, 0, false, []⟩,
⟨some 56, .mv (.c (.int .i64 0)), none, 0, false, []⟩])
(.block 4 (.loop false Ydu))))))
(.reg 0 [⟨some 72, .bin .add (.t 38) (.c (.int .i64 1)), none, 0, false, []⟩,
⟨some 38, .mv (.t 72), none, 0, false, []⟩]))))
def c32 : AFun :=
{ keep := true, np := 2, nt := 74, res := [.cell 4 3 true], body :=
(.seq (.reg 2 [⟨some 2, .box (.t 0), none, 0, false, []⟩,
⟨some 4, .alloc [.int .i64 0, .int .i64 0, .nils], none, 1, false, []⟩])
(.seq (.reg 2 [⟨some 14, .mkm none, none, 0, false, []⟩,
⟨none, .mup false [.i] (.t 14) (.c (.int .i64 (-1))) (.c (.int .i64 (-1))), none, 1, false, []⟩,
⟨some 15, .mv (.t 14), none, 1, false, []⟩,
⟨some 5, .alloc [.nilm], none, 1, false, []⟩,
⟨none, .st 1 (.t 5) (.t 15), none, 2, false, []⟩])
(.seq (.seq (.reg 0 [⟨some 16, .mv (.t 1), none, 0, false, []⟩,
⟨some 17, .len 0 (.t 16), none, 0, false, []⟩,
⟨some 18, .mv (.c (.int .i64 0)), none, 0, false, []⟩])
(.block 0 (.loop false Ydr)))
(.seq (.reg 0 [⟨some 27, .mkf 63 [] [(.t 5)], none, 0, false, []⟩,
⟨some 8, .mv (.t 27), none, 0, false, []⟩])
(.seq (.regd [[], [0], [], [2], [], [4], [4, 5], [0, 1, 2, 3, 4, 5, 6], [], [0, 1, 2, 3, 4, 5, 6, 7, 8]] 2 [⟨some 28, .fad 0 (.t 2), none, 0, false, []⟩,
⟨some 29, .ld 1 false (.t 28), none, 0, false, []⟩,
⟨some 30, .fad 1 (.t 2), none, 0, false, []⟩,
⟨some 31, .ld 1 false (.t 30), none, 0, false, []⟩,
⟨some 32, .mv (.t 1), none, 0, false, []⟩,
⟨some 33, .len 0 (.t 32), none, 0, false, []⟩,
⟨some 34, .mks 1 24 [.nils] (.t 33) (.t 33), none, 0, false, []⟩,
⟨some 35, .build [.int .i64 0, .int .i64 0, .nils] [(0, 1, (.t 29)), (1, 1, (.t 31)), (2, 1, (.t 34))], none, 1, false, []⟩,
⟨some 9, .alloc [.int .i64 0, .int .i64 0, .nils], none, 1, false, []⟩,
⟨none, .st 3 (.t 9) (.t 35), none, 2, false, []⟩])
(.seq (.seq (.reg 0 [⟨some 36, .mv (.t 1), none, 0, false, []⟩,
⟨some 37, .len 0 (.t 36), none, 0, false, []⟩,
⟨some 38, .mv (.c (.int .i64 0)), none, 0, false, []⟩])
(.block 2 (.loop true Yet)))
(.seq (.reg 0 [⟨some 73, .ld 3 true (.t 9), none, 0, false, []⟩,
⟨none, .st 3 (.t 4) (.t 73), none, 0, false, []⟩])
.ret))))))) }
def Yee : AC :=
(.seq (.seq (.reg 0 [⟨some 31, .mv (.t 8), none, 0, false, []⟩,
⟨some 32, .fad 0 (.t 2), none, 0, false, []⟩,
⟨some 33, .ld 1 false (.t 32), none, 0, false, []⟩,
⟨some 34, .bin .lss (.t 31) (.t 33), none, 0, false, []⟩])
(.cond (.t 34)
.skip
(.exit 4)))
(.seq (.block 5 (.seq (.reg 0 [⟨some 37, .fad 2 (.t 2), none, 0, false, []⟩,
⟨some 38, .ld 1 false (.t 37), none, 0, false, []⟩,
⟨some 39, .mv (.t 7), none, 0, false, []⟩,
⟨some 40, .iad 1 (.t 38) (.t 39), none, 0, false, []⟩,
⟨some 41, .ld 1 false (.t 40), none, 0, false, []⟩,
⟨some 42, .mv (.t 8), none, 0, false, []⟩,
⟨some 43, .iad 2 (.t 41) (.t 42), none, 0, false, []⟩,
⟨some 44, .fad 0 (.t 43), none, 0, false, []⟩,
⟨some 45, .ld 1 false (.t 44), none, 0, false, []⟩,
⟨some 9, .mv (.t 45), none, 0, false, []⟩])
(.seq (.reg 0 [⟨some 46, .mv (.t 5), none, 0, false, []⟩,
⟨some 47, .mv (.t 7), none, 0, false, []⟩,
⟨some 48, .iad 1 (.t 46) (.t 47), none, 0, false, []⟩,
⟨some 49, .ld 1 false (.t 48), none, 0, false, []⟩,
⟨some 50, .mv (.t 49), none, 0, false, []⟩,
⟨some 51, .mv (.t 9), (some (50, true)), 0, false, []⟩,
⟨some 52, .bin .geq (.t 51) (.c (.int .i64 0)), (some (50, true)), 0, false, []⟩,
⟨some 53, .pick (.t 50) (.t 52) (.c (.bool false)), none, 0, false, []⟩])
(.cond (.t 53)
(.reg 0 [⟨some 54, .mv (.t 5), none, 0, false, []⟩,
⟨some 55, .mv (.t 9), none, 0, false, []⟩,
⟨some 56, .iad 1 (.t 54) (.t 55), none, 0, false, []⟩,
⟨none, .st 1 (.t 56) (.c (.bool true)), none, 0, false, []⟩])
.skip))))
(.reg 0 [⟨some 35, .mv (.t 8), none, 0, false, []⟩,
⟨some 36, .bin .add (.t 35) (.c (.int .i64 1)), none, 0, false, []⟩,
⟨some 8, .mv (.t 36), none, 0, false, []⟩])))
def Ydf : AC :=
(.seq (.seq (.reg 0 [⟨some 24, .mv (.t 7), none, 0, false, []⟩,
⟨some 25, .fad 2 (.t 2), none, 0, false, []⟩,
⟨some 26, .ld 1 false (.t 25), none, 0, false, []⟩,
⟨some 27, .len 0 (.t 26), none, 0, false, []⟩,
⟨some 28, .bin .lss (.t 24) (.t 27), none, 0, false, []⟩])
(.cond (.t 28)
.skip
(.exit 2)))
(.seq (.block 3 (.seq (.reg 0 [⟨some 8, .mv (.c (.int .i64 0)), none, 0, false, []⟩])
(.block 4 (.loop false Yee))))
(.reg 0 [⟨some 29, .mv (.t 7), none, 0, false, []⟩,
⟨some 30, .bin .add (.t 29) (.c (.int .i64 1)), none, 0, false, []⟩,
⟨some 7, .mv (.t 30), none, 0, false, []⟩])))
def Ybx : AC :=
(.seq (.seq (.reg 0 [⟨some 17, .mv (.t 6), none, 0, false, []⟩,
⟨some 18, .fad 2 (.t 2), none, 0, false, []⟩,
⟨some 19, .ld 1 false (.t 18), none, 0, false, []⟩,
⟨some 20, .len 0 (.t 19), none, 0, false, []⟩,
⟨some 21, .bin .lss (.t 17) (.t 20), none, 0, false, []⟩])
(.cond (.t 21)
.skip
(.exit 0)))
(.seq (.block 1 (.seq (.reg 0 [⟨some 7, .mv (.c (.int .i64 0)), none, 0, false, []⟩])
(.block 2 (.loop false Ydf))))
(.reg 0 [⟨some 22, .mv (.t 6), none, 0, false, []⟩,
⟨some 23, .bin .add (.t 22) (.c (.int .i64 1)), none, 0, false, []⟩,
⟨some 6, .mv (.t 23), none, 0, false, []⟩])))
def c33 : AFun :=
{ keep := true, np := 2, nt := 58, res := [.tmp 4], body :=
(.seq (.reg 1 [⟨some 2, .box (.t 0), none, 0, false, []⟩,
⟨some 4, .mv (.c (.nils)), none, 1, false, []⟩])
(.seq (.reg 1 [⟨some 10, .fad 2 (.t 2), none, 0, false, []⟩,
⟨some 11, .ld 1 false (.t 10), none, 0, false, []⟩,
⟨some 12, .len 0 (.t 11), none, 0, false, []⟩,
⟨some 13, .mks 1 1 [.bool false] (.t 12) (.t 12), none, 0, false, []⟩,
⟨some 5, .mv (.t 13), none, 1, false, []⟩])
(.seq (.reg 0 [⟨some 14, .mv (.t 5), none, 0, false, []⟩,
⟨some 15, .mv (.t 1), none, 0, false, []⟩,
⟨some 16, .iad 1 (.t 14) (.t 15), none, 0, false, []⟩,
⟨none, .st 1 (.t 16) (.c (.bool true)), none, 0, false, []⟩])
(.seq (.seq (.reg 0 [⟨some 6, .mv (.c (.int .i64 0)), none, 0, false, []⟩])
(.block 0 (.loop false Ybx)))
(.seq (.reg 0 [⟨some 57, .mv (.t 5), none, 0, false, []⟩,
⟨some 4, .mv (.t 57), none, 0, false, []⟩])
.ret))))) }
def Yec : AC :=
(.seq (.seq (.regd [[], [], [1], [0, 1, 2], [0, 1, 2, 3], [0, 1, 2, 3, 4], [0, 1, 2, 3, 4], [0, 1, 2, 3, 4], [0, 1, 2, 3, 4, 6, 7], [0, 1, 2, 3, 4, 6, 7, 8], [0, 1, 2, 3, 4, 5, 6, 7, 8, 9], [0, 1, 2, 3, 4, 5, 6, 7, 8, 9, 10], [0, 1, 2, 3, 4], [0, 1, 2, 3, 4], [0, 1, 2, 3, 4, 12, 13], [0, 1, 2, 3, 4, 12, 13, 14], [0, 1, 2, 3, 4, 5, 6, 7, 8, 9, 10, 11, 12, 13, 14, 15], [0, 1, 2, 3, 4, 5, 6, 7, 8, 9, 10, 11, 12, 13, 14, 15, 16], [0, 1, 2, 3, 4, 5, 6, 7, 8, 9, 10, 11, 12, 13, 14, 15, 16, 17]] 1 [⟨some 25, .mv (.t 7), none, 0, false, []⟩,
⟨some 26, .mv (.t 5), none, 0, false, []⟩,
⟨some 27, .len 0 (.t 26), none, 0, false, []⟩,
⟨some 28, .bin .lss (.t 25) (.t 27), none, 0, false, []⟩,
⟨some 29, .mv (.t 28), none, 0, false, []⟩,
⟨some 30, .mv (.t 3), (some (29, true)), 0, false, []⟩,
⟨some 31, .mv (.t 5), (some (29, true)), 0, false, []⟩,
⟨some 32, .mv (.t 7), (some (29, true)), 0, false, []⟩,
⟨some 33, .iad 1 (.t 31) (.t 32), (some (29, true)), 0, false, []⟩,
⟨some 34, .ld 1 false (.t 33), (some (29, true)), 0, false, []⟩,
⟨some 35, .iad 1 (.t 30) (.t 34), (some (29, true)), 0, false, []⟩,
⟨some 36, .ld 1 false (.t 35), (some (29, true)), 0, false, []⟩,
⟨some 37, .mv (.t 3), (some (29, true)), 0, false, []⟩,
⟨some 38, .mv (.t 6), (some (29, true)), 0, false, []⟩,
⟨some 39, .iad 1 (.t 37) (.t 38), (some (29, true)), 0, false, []⟩,
⟨some 40, .ld 1 false (.t 39), (some (29, true)), 0, false, []⟩,
⟨some 41, .call .iso (.c (.fn 85 [] [])) [(.t 36), (.t 40)], (some (29, true)), 0, false, []⟩,
⟨some 42, .bin .eql (.t 41) (.c (.int .i64 1)), (some (29, true)), 1, false, []⟩,
⟨some 43, .pick (.t 29) (.t 42) (.c (.bool false)), none, 1, false, []⟩])
(.cond (.t 43)
.skip
(.exit 2)))
(.block 3 (.reg 0 [⟨some 44, .mv (.t 7), none, 0, false, []⟩,
⟨some 45, .bin .add (.t 44) (.c (.int .i64 1)), none, 0, false, []⟩,
⟨some 7, .mv (.t 45), none, 0, false, []⟩])))
def Ybt : AC :=
(.seq (.seq (.reg 0 [⟨some 14, .mv (.t 6), none, 0, false, []⟩,
⟨some 15, .mv (.t 3), none, 0, false, []⟩,
⟨some 16, .len 0 (.t 15), none, 0, false, []⟩,
⟨some 17, .bin .lss (.t 14) (.t 16), none, 0, false, []⟩])
(.cond (.t 17)
.skip
(.exit 0)))
(.seq (.block 1 (.seq (.seq (.reg 0 [⟨some 20, .mv (.t 4), none, 0, false, []⟩,
⟨some 21, .mv (.t 6), none, 0, false, []⟩,
⟨some 22, .iad 1 (.t 20) (.t 21), none, 0, false, []⟩,
⟨some 23, .ld 1 false (.t 22), none, 0, false, []⟩,
⟨some 24, .un .not (.t 23), none, 0, false, []⟩])
(.cond (.t 24)
(.exit 1)
.skip))
(.seq (.reg 0 [⟨some 7, .mv (.c (.int .i64 0)), none, 0, false, []⟩])
(.seq (.block 2 (.loop false Yec))
(.seq (.reg 1 [⟨some 8, .mv (.c (.nils)), none, 0, false, [(0, 1)]⟩])
(.seq (.reg 1 [⟨some 46, .mv (.t 8), none, 0, false, []⟩,
⟨some 47, .mv (.t 5), none, 0, false, []⟩,
⟨some 48, .mv (.t 7), none, 0, false, []⟩,
⟨some 49, .slc 1 (.t 47) none (some (.t 48)) none, none, 0, false, []⟩,
⟨some 50, .app 1 8 (.t 46) (.t 49), none, 0, false, []⟩,
⟨some 8, .mv (.t 50), none, 1, false, []⟩])
(.seq (.reg 2 [⟨some 51, .mv (.t 8), none, 0, false, []⟩,
⟨some 52, .mv (.t 6), none, 0, false, []⟩,
⟨some 53, .bsl 1 1 [.int .i64 0] [(0, 1, (.t 52))], none, 0, false, []⟩,
⟨some 54, .app 1 8 (.t 51) (.t 53), none, 1, false, []⟩,
⟨some 8, .mv (.t 54), none, 2, false, []⟩])
(.reg 1 [⟨some 55, .mv (.t 8), none, 0, false, []⟩,
⟨some 56, .mv (.t 5), none, 0, false, []⟩,
⟨some 57, .mv (.t 7), none, 0, false, []⟩,
⟨some 58, .slc 1 (.t 56) (some (.t 57)) none none, none, 0, false, []⟩,
⟨some 59, .app 1 8 (.t 55) (.t 58), none, 0, false, []⟩,
⟨some 5, .mv (.t 59), none, 1, true, []⟩]))))))))
(.reg 0 [⟨some 18, .mv (.t 6), none, 0, false, []⟩,
⟨some 19, .bin .add (.t 18) (.c (.int .i64 1)), none, 0, false, []⟩,
⟨some 6, .mv (.t 19), none, 0, false, []⟩])))
def c34 : AFun :=
{ keep := true, np := 1, nt := 61, res := [.tmp 2], body :=
(.seq (.reg 1 [⟨some 1, .box (.t 0), none, 0, false, []⟩,
⟨some 2, .mv (.c (.nils)), none, 1, false, []⟩])
(.seq (.reg 1 [⟨some 10, .ld 3 true (.t 1), none, 0, false, []⟩,
⟨some 11, .call .iso (.c (.fn 4 [] [])) [(.t 10)], none, 0, true, []⟩,
⟨some 9, .mv (.t 11), none, 1, false, []⟩,
⟨some 12, .ext (.t 9) 0, none, 1, false, []⟩,
⟨some 13, .ext (.t 9) 1, none, 1, false, []⟩,
⟨some 3, .mv (.t 12), none, 1, false, []⟩,
⟨some 4, .mv (.t 13), none, 1, false, []⟩])
(.seq (.reg 0 [⟨some 5, .mv (.c (.nils)), none, 0, false, []⟩])
(.seq (.seq (.reg 0 [⟨some 6, .mv (.c (.int .i64 0)), none, 0, false, []⟩])
(.block 0 (.loop false Ybt)))
(.seq (.reg 0 [⟨some 60, .mv (.t 5), none, 0, false, []⟩,
⟨some 2, .mv (.t 60), none, 0, false, []⟩])
.ret))))) }
def Yax : AC :=
(.seq (.seq (.reg 0 [⟨some 40, .mv (.t 11), none, 0, false, []⟩,
⟨some 41, .mv (.t 1), none, 0, false, []⟩,
⟨some 42, .len 0 (.t 41), none, 0, false, []⟩,
⟨some 43, .bin .lss (.t 40) (.t 42), none, 0, false, []⟩])
(.cond (.t 43)
.skip
(.exit 4)))
(.seq (.block 5 (.seq (.regd [[], [], [0, 1], [0, 1, 2], [], [4], [0, 1, 2, 3, 4, 5]] 0 [⟨some 46, .mv (.t 1), none, 0, false, []⟩,
⟨some 47, .mv (.t 11), none, 0, false, []⟩,
⟨some 48, .iad 1 (.t 46) (.t 47), none, 0, false, []⟩,
⟨some 49, .ld 1 false (.t 48), none, 0, false, []⟩,
⟨some 50, .fad 0 (.t 9), none, 0, false, []⟩,
⟨some 51, .ld 1 false (.t 50), none, 0, false, []⟩,
⟨some 52, .bin .eql (.t 49) (.t 51), none, 0, false, []⟩])
(.cond (.t 52)
(.reg 0 [⟨some 53, .mv (.t 11), none, 0, false, []⟩,
⟨some 10, .mv (.t 53), none, 0, false, []⟩])
.skip)))
(.reg 0 [⟨some 44, .mv (.t 11), none, 0, false, []⟩,
⟨some 45, .bin .add (.t 44) (.c (.int .i64 1)), none, 0, false, []⟩,
⟨some 11, .mv (.t 45), none, 0, false, []⟩])))
def Ydx : AC :=
(.seq (.seq (.reg 0 [⟨some 23, .mv (.t 8), none, 0, false, []⟩,
⟨some 24, .fad 0 (.t 2), none, 0, false, []⟩,
⟨some 25, .ld 1 false (.t 24), none, 0, false, []⟩,
⟨some 26, .bin .lss (.t 23) (.t 25), none, 0, false, []⟩])
(.cond (.t 26)
.skip
(.exit 2)))
(.seq (.block 3 (.seq (.regd [[], [0], [], [], [2, 3], [2, 3, 4], [0, 1, 2, 3, 4, 5], [0, 1, 2, 3, 4, 5, 6], [], [0, 1, 2, 3, 4, 5, 6, 7, 8], [0, 1, 2, 3, 4, 5, 6, 7, 8, 9], [], [0, 1, 2, 3, 4, 5, 6, 7, 8, 9, 10, 11]] 1 [⟨some 29, .fad 2 (.t 2), none, 0, false, []⟩,
⟨some 30, .ld 1 false (.t 29), none, 0, false, []⟩,
⟨some 31, .mv (.t 1), none, 0, false, []⟩,
⟨some 32, .mv (.t 6), none, 0, false, []⟩,
⟨some 33, .iad 1 (.t 31) (.t 32), none, 0, false, []⟩,
⟨some 34, .ld 1 false (.t 33), none, 0, false, []⟩,
⟨some 35, .iad 1 (.t 30) (.t 34), none, 0, false, []⟩,
⟨some 36, .ld 1 false (.t 35), none, 0, false, []⟩,
⟨some 37, .mv (.t 8), none, 0, false, []⟩,
⟨some 38, .iad 2 (.t 36) (.t 37), none, 0, false, []⟩,
⟨some 39, .ld 2 true (.t 38), none, 0, false, []⟩,
⟨some 9, .alloc [.int .i64 0, .int .i64 0], none, 0, false, []⟩,
⟨none, .st 2 (.t 9) (.t 39), none, 1, false, []⟩])
(.seq (.reg 0 [⟨some 10, .mv (.c (.int .i64 (-1))), none, 0, false, []⟩])
(.seq (.seq (.reg 0 [⟨some 11, .mv (.c (.int .i64 0)), none, 0, false, []⟩])
(.block 4 (.loop false Yax)))
(.reg 2 [⟨some 54, .mv (.t 7), none, 0, false, []⟩,
⟨some 55, .mv (.t 10), none, 0, false, []⟩,
⟨some 56, .fad 1 (.t 9), none, 0, false, []⟩,
⟨some 57, .ld 1 false (.t 56), none, 0, false, []⟩,
⟨some 58, .build [.int .i64 0, .int .i64 0] [(0, 1, (.t 55)), (1, 1, (.t 57))], none, 0, false, []⟩,
⟨some 59, .bsl 2 1 [.int .i64 0, .int .i64 0] [(0, 2, (.t 58))], none, 0, false, []⟩,
⟨some 60, .app 2 16 (.t 54) (.t 59), none, 1, false, []⟩,
⟨some 7, .mv (.t 60), none, 2, false, []⟩])))))
(.reg 0 [⟨some 27, .mv (.t 8), none, 0, false, []⟩,
⟨some 28, .bin .add (.t 27) (.c (.int .i64 1)), none, 0, false, []⟩,
⟨some 8, .mv (.t 28), none, 0, false, []⟩])))
def Ybp : AC :=
(.seq (.seq (.reg 0 [⟨some 17, .mv (.t 6), none, 0, false, []⟩,
⟨some 18, .mv (.t 1), none, 0, false, []⟩,
⟨some 19, .len 0 (.t 18), none, 0, false, []⟩,
⟨some 20, .bin .lss (.t 17) (.t 19), none, 0, false, []⟩])
(.cond (.t 20)
.skip
(.exit 0)))
(.seq (.block 1 (.seq (.reg 1 [⟨some 7, .mv (.c (.nils)), none, 0, false, [(0, 2)]⟩])
(.seq (.seq (.reg 0 [⟨some 8, .mv (.c (.int .i64 0)), none, 0, false, []⟩])
(.block 2 (.loop false Ydx)))
(.reg 2 [⟨some 61, .fad 2 (.t 5), none, 0, false, []⟩,
⟨some 62, .ld 1 false (.t 61), none, 0, false, []⟩,
⟨some 63, .mv (.t 7), none, 0, false, []⟩,
⟨some 64, .bsl 1 1 [.nils] [(0, 1, (.t 63))], none, 0, true, []⟩,
⟨some 65, .app 1 24 (.t 62) (.t 64), none, 1, false, []⟩,
⟨some 66, .fad 2 (.t 5), none, 2, false, []⟩,
⟨none, .st 1 (.t 66) (.t 65), none, 2, false, []⟩]))))
(.reg 0 [⟨some 21, .mv (.t 6), none, 0, false, []⟩,
⟨some 22, .bin .add (.t 21) (.c (.int .i64 1)), none, 0, false, []⟩,
⟨some 6, .mv (.t 22), none, 0, false, []⟩])))
def c35 : AFun :=
{ keep := true, np := 2, nt := 68, res := [.cell 4 3 true], body :=
(.seq (.reg 2 [⟨some 2, .box (.t 0), none, 0, false, []⟩,
⟨some 4, .alloc [.int .i64 0, .int .i64 0, .nils], none, 1, false, []⟩])
(.seq (.reg 3 [⟨some 12, .fad 0 (.t 2), none, 0, false, []⟩,
⟨some 13, .ld 1 false (.t 12), none, 0, false, []⟩,
⟨some 14, .fad 1 (.t 2), none, 0, false, []⟩,
⟨some 15, .ld 1 false (.t 14), none, 0, false, []⟩,
⟨some 16, .build [.int .i64 0, .int .i64 0, .nils] [(0, 1, (.t 13)), (1, 1, (.t 15))], none, 0, false, []⟩,
⟨some 5, .alloc [.int .i64 0, .int .i64 0, .nils], none, 0, false, [(2, 1)]⟩,
⟨none, .st 3 (.t 5) (.t 16), none, 2, false, [(2, 1)]⟩])
(.seq (.seq (.reg 0 [⟨some 6, .mv (.c (.int .i64 0)), none, 0, false, []⟩])
(.block 0 (.loop false Ybp)))
(.seq (.reg 0 [⟨some 67, .ld 3 true (.t 5), none, 0, false, []⟩,
⟨none, .st 3 (.t 4) (.t 67), none, 0, false, []⟩])
.ret)))) }
def c36 : AFun :=
{ keep := true, np := 2, nt := 34, res := [.tmp 4], body :=
(.seq (.reg 2 [⟨some 2, .box (.t 0), none, 0, false, []⟩,
⟨some 3, .box (.t 1), none, 1, false, []⟩,
⟨some 4, .mv (.c (.bool false)), none, 2, false, []⟩])
(.seq (.reg 3 [⟨some 5, .ld 3 true (.t 2), none, 0, false, []⟩,
⟨some 6, .call .iso (.c (.fn 18 [] [])) [(.t 5)], none, 0, false, []⟩,
⟨some 7, .bin .eql (.t 6) (.c (.int .i64 0)), none, 1, false, []⟩,
⟨some 8, .mv (.t 7), none, 1, false, []⟩,
⟨some 9, .ld 3 true (.t 3), (some (8, true)), 1, false, []⟩,
⟨some 10, .call .iso (.c (.fn 18 [] [])) [(.t 9)], (some (8, true)), 1, false, []⟩,
⟨some 11, .bin .eql (.t 10) (.c (.int .i64 0)), (some (8, true)), 2, false, []⟩,
⟨some 12, .pick (.t 8) (.t 11) (.c (.bool false)), none, 2, false, []⟩,
⟨some 13, .mv (.t 12), none, 2, false, []⟩,
⟨some 14, .fad 0 (.t 2), (some (13, true)), 2, false, []⟩,
⟨some 15, .ld 1 false (.t 14), (some (13, true)), 2, false, []⟩,
⟨some 16, .fad 0 (.t 3), (some (13, true)), 2, false, []⟩,
⟨some 17, .ld 1 false (.t 16), (some (13, true)), 2, false, []⟩,
⟨some 18, .bin .eql (.t 15) (.t 17), (some (13, true)), 2, false, []⟩,
⟨some 19, .pick (.t 13) (.t 18) (.c (.bool false)), none, 2, false, []⟩,
⟨some 20, .mv (.t 19), none, 2, false, []⟩,
⟨some 21, .fad 1 (.t 2), (some (20, true)), 2, false, []⟩,
⟨some 22, .ld 1 false (.t 21), (some (20, true)), 2, false, []⟩,
⟨some 23, .fad 1 (.t 3), (some (20, true)), 2, false, []⟩,
⟨some 24, .ld 1 false (.t 23), (some (20, true)), 2, false, []⟩,
⟨some 25, .bin .eql (.t 22) (.t 24), (some (20, true)), 2, false, []⟩,
⟨some 26, .pick (.t 20) (.t 25) (.c (.bool false)), none, 2, false, []⟩,
⟨some 27, .mv (.t 26), none, 2, false, []⟩,
⟨some 28, .fad 2 (.t 2), (some (27, true)), 2, false, []⟩,
⟨some 29, .ld 1 false (.t 28), (some (27, true)), 2, false, []⟩,
⟨some 30, .fad 2 (.t 3), (some (27, true)), 2, false, []⟩,
⟨some 31, .ld 1 false (.t 30), (some (27, true)), 2, false, []⟩,
⟨some 32, .call .iso (.c (.fn 50 [] [])) [(.t 29), (.t 31), (.c (.fn 51 [] []))], (some (27, true)), 2, false, []⟩,
⟨some 33, .pick (.t 27) (.t 32) (.c (.bool false)), none, 3, false, []⟩,
⟨some 4, .mv (.t 33), none, 3, false, []⟩])
.ret)) }
def B37_1 : AC :=
(.seq (.reg 0 [⟨some 9, .bin .lss (.t 8) (.t 7), none, 0, false, []⟩])
(.seq (.cond (.t 9)
.skip
(.exit 0))
(.seq (.block 1 (.seq (.reg 0 [⟨some 10, .iad 1 (.t 6) (.t 8), none, 0, false, []⟩,
⟨some 11, .ld 1 false (.t 10), none, 0, false, []⟩,
⟨some 5, .mv (.t 11), none, 0, false, []⟩])
(.seq (.reg 0 [⟨some 12, .mv (.t 5), none, 0, false, []⟩,
⟨some 13, .mv (.t 3), none, 0, false, []⟩,
⟨some 14, .bin .neq (.t 12) (.t 13), none, 0, false, []⟩])
(.cond (.t 14)
(.seq (.reg 0 [⟨some 15, .mv (.t 5), none, 0, false, []⟩,
⟨some 2, .mv (.t 15), none, 0, false, []⟩])
.ret)
.skip))))
(.reg 0 [⟨some 16, .bin .add (.t 8) (.c (.int .i64 1)), none, 0, false, []⟩,
⟨some 8, .mv (.t 16), none, 0, false, []⟩]))))
def c37 : AFun :=
{ keep := true, np := 1, nt := 18, res := [.tmp 2], body :=
(.seq (.reg 0 [⟨some 2, .mv (.c (.int .i64 0)), none, 0, false, []⟩])
(.seq (.reg 0 [⟨some 3, .mv (.c (.int .i64 0)), none, 0, false, []⟩])
(.seq (.seq (.reg 0 [⟨some 6, .mv (.t 0), none, 0, false, []⟩,
⟨some 7, .len 0 (.t 6), none, 0, false, []⟩,
⟨some 8, .mv (.c (.int .i64 0)), none, 0, false, []⟩])
(.block 0 (.loop false B37_1)))
(.seq (.reg 0 [⟨some 17, .mv (.t 3), none, 0, false, []⟩,
⟨some 2, .mv (.t 17), none, 0, false, []⟩])
.ret)))) }
def B38_1 : AC :=
(.seq (.seq (.reg 0 [⟨some 34, .mv (.t 8), none, 0, false, []⟩,
⟨some 35, .mv (.t 7), none, 0, false, []⟩,
⟨some 36, .len 0 (.t 35), none, 0, false, []⟩,
⟨some 37, .bin .lss (.t 34) (.t 36), none, 0, false, []⟩])
(.cond (.t 37)
.skip
(.exit 0)))
(.block 1 (.regd [[], [], [], [1, 2], [], [], [4, 5], [1, 2, 3, 4, 5, 6], [0, 1, 2, 3, 4, 5, 6, 7], [0, 1, 2, 3, 4, 5, 6, 7, 8]] 0 [⟨some 38, .mv (.t 8), none, 0, false, []⟩,
⟨some 39, .mv (.t 7), none, 0, false, []⟩,
⟨some 40, .mv (.t 8), none, 0, false, []⟩,
⟨some 41, .slc 1 (.t 39) (some (.t 40)) none none, none, 0, false, []⟩,
⟨some 42, .mv (.t 7), none, 0, false, []⟩,
⟨some 43, .mv (.t 8), none, 0, false, []⟩,
⟨some 44, .slc 1 (.t 42) none (some (.t 43)) none, none, 0, false, []⟩,
⟨some 45, .cpy 1 (.t 41) (.t 44), none, 0, false, []⟩,
⟨some 46, .bin .add (.t 38) (.t 45), none, 0, false, []⟩,
⟨some 8, .mv (.t 46), none, 0, false, []⟩])))
def c38 : AFun :=
{ keep := true, np := 2, nt := 48, res := [.tmp 4], body :=
(.seq (.reg 0 [⟨some 4, .mv (.c (.nils)), none, 0, false, []⟩])
(.seq (.seq (.reg 0 [⟨some 9, .mv (.t 1), none, 0, false, []⟩,
⟨some 10, .bin .lss (.t 9) (.c (.int .i64 0)), none, 0, false, []⟩])
(.cond (.t 10)
(.reg 0 [⟨some 11, .bad, none, 0, false, []⟩,
⟨none, .bad, none, 0, false, []⟩])
.skip))
(.seq (.reg 1 [⟨some 13, .mv (.t 0), none, 0, false, []⟩,
⟨some 14, .len 0 (.t 13), none, 0, false, []⟩,
⟨some 15, .conv .u64 (.t 14), none, 0, false, []⟩,
⟨some 16, .mv (.t 1), none, 0, false, []⟩,
⟨some 17, .conv .u64 (.t 16), none, 0, false, []⟩,
⟨some 18, .call .iso (.c (.fn 66 [] [])) [(.t 15), (.t 17)], none, 0, false, []⟩,
⟨some 12, .mv (.t 18), none, 1, false, []⟩,
⟨some 19, .ext (.t 12) 0, none, 1, false, []⟩,
⟨some 20, .ext (.t 12) 1, none, 1, false, []⟩,
⟨some 5, .mv (.t 19), none, 1, false, []⟩,
⟨some 6, .mv (.t 20), none, 1, false, []⟩])
(.seq (.seq (.reg 0 [⟨some 21, .mv (.t 5), none, 0, false, []⟩,
⟨some 22, .bin .gtr (.t 21) (.c (.int .u64 0)), none, 0, false, []⟩,
⟨some 23, .mv (.t 22), none, 0, false, []⟩,
⟨some 24, .mv (.t 6), (some (23, false)), 0, false, []⟩,
⟨some 25, .bin .gtr (.t 24) (.c (.int .u64 9223372036854775807)), (some (23, false)), 0, false, []⟩,
⟨some 26, .pick (.t 23) (.c (.bool true)) (.t 25), none, 0, false, []⟩])
(.cond (.t 26)
(.reg 0 [⟨some 27, .bad, none, 0, false, []⟩,
⟨none, .bad, none, 0, false, []⟩])
.skip))
(.seq (.reg 1 [⟨some 28, .mv (.t 6), none, 0, false, []⟩,
⟨some 29, .conv .i64 (.t 28), none, 0, false, []⟩,
⟨some 30, .mks 1 8 [.int .i64 0] (.t 29) (.t 29), none, 0, false, []⟩,
⟨some 7, .mv (.t 30), none, 1, false, []⟩])
(.seq (.reg 0 [⟨some 31, .mv (.t 7), none, 0, false, []⟩,
⟨some 32, .mv (.t 0), none, 0, false, []⟩,
⟨some 33, .cpy 1 (.t 31) (.t 32), none, 0, false, []⟩,
⟨some 8, .mv (.t 33), none, 0, false, []⟩])
(.seq (.block 0 (.loop false B38_1))
(.seq (.reg 0 [⟨some 47, .mv (.t 7), none, 0, false, []⟩,
⟨some 4, .mv (.t 47), none, 0, false, []⟩])
.ret)))))))) }
def c43 : AFun :=
{ keep := true, np := 2, nt := 6, res := [.tmp 4], body :=
(.seq (.reg 2 [⟨some 2, .box (.t 0), none, 0, false, []⟩,
⟨some 3, .box (.t 1), none, 1, false, []⟩,
⟨some 4, .mv (.c (.nilf)), none, 2, false, []⟩])
(.seq (.reg 0 [⟨some 5, .mkf 58 [] [(.t 2), (.t 3)], none, 0, false, []⟩,
⟨some 4, .mv (.t 5), none, 0, false, []⟩])
.ret)) }
def c44 : AFun :=
{ keep := true, np := 1, nt := 8, res := [.tmp 2], body :=
(.seq (.reg 0 [⟨some 2, .mv (.c (.nils)), none, 0, false, []⟩])
(.seq (.seq (.reg 0 [⟨some 3, .mv (.t 0), none, 0, false, []⟩,
⟨some 4, .eqn false 0 (.t 3) (.c (.nils)), none, 0, false, []⟩])
(.cond (.t 4)
(.seq (.reg 0 [⟨some 2, .mv (.c (.nils)), none, 0, false, []⟩])
.ret)
.skip))
(.seq (.reg 2 [⟨some 5, .bsl 1 0 [.int .i64 0] [], none, 0, false, []⟩,
⟨some 6, .mv (.t 0), none, 1, false, []⟩,
⟨some 7, .app 1 8 (.t 5) (.t 6), none, 1, false, []⟩,
⟨some 2, .mv (.t 7), none, 2, false, []⟩])
.ret))) }
def c45 : AFun :=
{ keep := true, np := 1, nt := 5, res := [.tmp 2], body :=
(.seq (.reg 0 [⟨some 2, .mv (.c (.nils)), none, 0, false, []⟩])
(.seq (.reg 1 [⟨some 3, .mv (.t 0), none, 0, false, []⟩,
⟨some 4, .call .raw (.c (.fn 59 [] [])) [(.c (.nils)), (.t 3)], none, 0, false, []⟩,
⟨some 2, .mv (.t 4), none, 1, false, []⟩])
.ret)) }
def c46 : AFun :=
{ keep := true, np := 1, nt := 11, res := [], body :=
(.seq (.reg 0 [⟨some 3, .mv (.t 0), none, 0, false, []⟩,
⟨some 4, .len 0 (.t 3), none, 0, false, []⟩,
⟨some 2, .mv (.t 4), none, 0, false, []⟩])
(.reg 2 [⟨some 5, .mv (.t 0), none, 0, false, []⟩,
⟨some 6, .mv (.t 2), none, 0, false, []⟩,
⟨some 7, .mv (.t 2), none, 0, false, []⟩,
⟨some 8, .conv .u64 (.t 7), none, 0, false, []⟩,
⟨some 9, .call .iso (.c (.fn 60 [] [])) [(.t 8)], none, 0, false, []⟩,
⟨some 10, .call .raw (.c (.fn 61 [] [])) [(.t 5), (.c (.int .i64 0)), (.t 6), (.t 9)], none, 1, false, []⟩])) }
def Yct : AC :=
(.seq (.reg 0 [⟨some 8, .bin .lss (.t 7) (.t 6), none, 0, false, []⟩])
(.seq (.cond (.t 8)
.skip
(.exit 0))
(.seq (.block 1 (.seq (.reg 0 [⟨some 9, .iad 1 (.t 5) (.t 7), none, 0, false, []⟩,
⟨some 10, .ld 1 false (.t 9), none, 0, false, []⟩,
⟨some 4, .mv (.t 10), none, 0, false, []⟩])
(.seq (.reg 1 [⟨some 11, .mv (.t 0), none, 0, false, []⟩,
⟨some 12, .mv (.t 4), none, 0, false, []⟩,
⟨some 13, .call .raw (.t 11) [(.t 12)], none, 0, false, []⟩,
⟨some 14, .un .not (.t 13), none, 1, false, []⟩])
(.cond (.t 14)
.ret
.skip))))
(.reg 0 [⟨some 15, .bin .add (.t 7) (.c (.int .i64 1)), none, 0, false, []⟩,
⟨some 7, .mv (.t 15), none, 0, false, []⟩]))))
def c47 : AFun :=
{ keep := true, np := 2, nt := 16, res := [], body :=
(.seq (.reg 0 [⟨some 5, .ld 1 false (.t 1), none, 0, false, []⟩,
⟨some 6, .len 0 (.t 5), none, 0, false, []⟩,
⟨some 7, .mv (.c (.int .i64 0)), none, 0, false, []⟩])
(.block 0 (.loop true Yct))) }
def c48 : AFun :=
{ keep := true, np := 2, nt := 13, res := [.tmp 3], body :=
(.seq (.reg 0 [⟨some 3, .mv (.c (.bool false)), none, 0, false, []⟩])
(.seq (.reg 0 [⟨some 4, .mv (.t 0), none, 0, false, []⟩,
⟨some 5, .bin .lss (.t 4) (.c (.int .i64 0)), none, 0, false, []⟩,
⟨some 6, .mv (.t 5), none, 0, false, []⟩,
⟨some 7, .mv (.t 0), (some (6, false)), 0, false, []⟩,
⟨some 8, .fad 2 (.t 1), (some (6, false)), 0, false, []⟩,
⟨some 9, .ld 1 false (.t 8), (some (6, false)), 0, false, []⟩,
⟨some 10, .len 0 (.t 9), (some (6, false)), 0, false, []⟩,
⟨some 11, .bin .geq (.t 7) (.t 10), (some (6, false)), 0, false, []⟩,
⟨some 12, .pick (.t 6) (.c (.bool true)) (.t 11), none, 0, false, []⟩,
⟨some 3, .mv (.t 12), none, 0, false, []⟩])
.ret)) }
def c49 : AFun :=
{ keep := true, np := 2, nt := 9, res := [.tmp 4], body :=
(.seq (.reg 0 [⟨some 4, .mv (.c (.bool false)), none, 0, false, []⟩])
(.seq (.reg 1 [⟨some 5, .mv (.t 0), none, 0, false, []⟩,
⟨some 6, .mv (.t 1), none, 0, false, []⟩,
⟨some 7, .call .iso (.c (.fn 62 [] [])) [(.t 5), (.t 6)], none, 0, false, []⟩,
⟨some 8, .bin .geq (.t 7) (.c (.int .i64 0)), none, 1, false, []⟩,
⟨some 4, .mv (.t 8), none, 1, false, []⟩])
.ret)) }
def Yav : AC :=
(.seq (.reg 0 [⟨some 18, .bin .lss (.t 17) (.t 16), none, 0, false, []⟩])
(.seq (.cond (.t 18)
.skip
(.exit 0))
(.seq (.block 1 (.seq (.reg 0 [⟨some 19, .mv (.t 17), none, 0, false, []⟩,
⟨some 20, .iad 1 (.t 15) (.t 17), none, 0, false, []⟩,
⟨some 21, .ld 1 false (.t 20), none, 0, false, []⟩,
⟨some 7, .mv (.t 19), none, 0, false, []⟩,
⟨some 8, .mv (.t 21), none, 0, false, []⟩])
(.seq (.reg 0 [⟨some 22, .mv (.t 1), none, 0, false, []⟩,
⟨some 23, .mv (.t 7), none, 0, false, []⟩,
⟨some 24, .iad 1 (.t 22) (.t 23), none, 0, false, []⟩,
⟨some 25, .ld 1 false (.t 24), none, 0, false, []⟩,
⟨some 9, .mv (.t 25), none, 0, false, []⟩])
(.seq (.reg 1 [⟨some 26, .mv (.t 2), none, 0, false, []⟩,
⟨some 27, .mv (.t 8), none, 0, false, []⟩,
⟨some 28, .mv (.t 9), none, 0, false, []⟩,
⟨some 29, .call .raw (.t 26) [(.t 27), (.t 28)], none, 0, false, []⟩,
⟨some 30, .un .not (.t 29), none, 1, false, []⟩])
(.cond (.t 30)
(.seq (.reg 0 [⟨some 6, .mv (.c (.bool false)), none, 0, false, []⟩])
.ret)
.skip)))))
(.reg 0 [⟨some 31, .bin .add (.t 17) (.c (.int .i64 1)), none, 0, false, []⟩,
⟨some 17, .mv (.t 31), none, 0, false, []⟩]))))
def c50 : AFun :=
{ keep := true, np := 3, nt := 32, res := [.tmp 6], body :=
(.seq (.reg 0 [⟨some 6, .mv (.c (.bool false)), none, 0, false, []⟩])
(.seq (.seq (.reg 0 [⟨some 10, .mv (.t 0), none, 0, false, []⟩,
⟨some 11, .len 0 (.t 10), none, 0, false, []⟩,
⟨some 12, .mv (.t 1), none, 0, false, []⟩,
⟨some 13, .len 0 (.t 12), none, 0, false, []⟩,
⟨some 14, .bin .neq (.t 11) (.t 13), none, 0, false, []⟩])
(.cond (.t 14)
(.seq (.reg 0 [⟨some 6, .mv (.c (.bool false)), none, 0, false, []⟩])
.ret)
.skip))
(.seq (.seq (.reg 0 [⟨some 15, .mv (.t 0), none, 0, false, []⟩,
⟨some 16, .len 0 (.t 15), none, 0, false, []⟩,
⟨some 17, .mv (.c (.int .i64 0)), none, 0, false, []⟩])
(.block 0 (.loop true Yav)))
(.seq (.reg 0 [⟨some 6, .mv (.c (.bool true)), none, 0, false, []⟩])
.ret)))) }
def Ybn : AC :=
(.seq (.reg 0 [⟨some 14, .bin .lss (.t 13) (.t 12), none, 0, false, []⟩])
(.seq (.cond (.t 14)
.skip
(.exit 0))
(.seq (.block 1 (.seq (.reg 0 [⟨some 15, .mv (.t 13), none, 0, false, []⟩,
⟨some 5, .mv (.t 15), none, 0, false, []⟩])
(.seq (.regd [[], [], [0, 1], [0, 1, 2], [], [], [4, 5], [4, 5, 6], [0, 1, 2, 3, 4, 5, 6, 7]] 0 [⟨some 16, .mv (.t 0), none, 0, false, []⟩,
⟨some 17, .mv (.t 5), none, 0, false, []⟩,
⟨some 18, .iad 2 (.t 16) (.t 17), none, 0, false, []⟩,
⟨some 19, .ld 2 true (.t 18), none, 0, false, []⟩,
⟨some 20, .mv (.t 1), none, 0, false, []⟩,
⟨some 21, .mv (.t 5), none, 0, false, []⟩,
⟨some 22, .iad 2 (.t 20) (.t 21), none, 0, false, []⟩,
⟨some 23, .ld 2 true (.t 22), none, 0, false, []⟩,
⟨some 24, .eqb true true [.i, .i] (.t 19) (.t 23), none, 0, false, []⟩])
(.cond (.t 24)
(.seq (.reg 0 [⟨some 4, .mv (.c (.bool false)), none, 0, false, []⟩])
.ret)
.skip))))
(.reg 0 [⟨some 25, .bin .add (.t 13) (.c (.int .i64 1)), none, 0, false, []⟩,
⟨some 13, .mv (.t 25), none, 0, false, []⟩]))))
def c51 : AFun :=
{ keep := true, np := 2, nt := 26, res := [.tmp 4], body :=
(.seq (.reg 0 [⟨some 4, .mv (.c (.bool false)), none, 0, false, []⟩])
(.seq (.seq (.reg 0 [⟨some 6, .mv (.t 0), none, 0, false, []⟩,
⟨some 7, .len 0 (.t 6), none, 0, false, []⟩,
⟨some 8, .mv (.t 1), none, 0, false, []⟩,
⟨some 9, .len 0 (.t 8), none, 0, false, []⟩,
⟨some 10, .bin .neq (.t 7) (.t 9), none, 0, false, []⟩])
(.cond (.t 10)
(.seq (.reg 0 [⟨some 4, .mv (.c (.bool false)), none, 0, false, []⟩])
.ret)
.skip))
(.seq (.seq (.reg 0 [⟨some 11, .mv (.t 0), none, 0, false, []⟩,
⟨some 12, .len 0 (.t 11), none, 0, false, []⟩,
⟨some 13, .mv (.c (.int .i64 0)), none, 0, false, []⟩])
(.block 0 (.loop false Ybn)))
(.seq (.reg 0 [⟨some 4, .mv (.c (.bool true)), none, 0, false, []⟩])
.ret)))) }
def Yco : AC :=
(.seq (.reg 0 [⟨some 9, .bin .lss (.t 8) (.t 7), none, 0, false, []⟩])
(.seq (.cond (.t 9)
.skip
(.exit 0))
(.seq (.block 1 (.seq (.reg 0 [⟨some 10, .mv (.t 8), none, 0, false, []⟩,
⟨some 5, .mv (.t 10), none, 0, false, []⟩])
(.seq (.reg 1 [⟨some 11, .mv (.t 1), none, 0, false, []⟩,
⟨some 12, .mv (.t 0), none, 0, false, []⟩,
⟨some 13, .mv (.t 5), none, 0, false, []⟩,
⟨some 14, .iad 2 (.t 12) (.t 13), none, 0, false, []⟩,
⟨some 15, .ld 2 true (.t 14), none, 0, false, []⟩,
⟨some 16, .call .raw (.t 11) [(.t 15)], none, 0, false, []⟩])
(.cond (.t 16)
(.seq (.reg 0 [⟨some 17, .mv (.t 5), none, 0, false, []⟩,
⟨some 4, .mv (.t 17), none, 0, false, []⟩])
.ret)
.skip))))
(.reg 0 [⟨some 18, .bin .add (.t 8) (.c (.int .i64 1)), none, 0, false, []⟩,
⟨some 8, .mv (.t 18), none, 0, false, []⟩]))))
def c53 : AFun :=
{ keep := true, np := 2, nt := 19, res := [.tmp 4], body :=
(.seq (.reg 0 [⟨some 4, .mv (.c (.int .i64 0)), none, 0, false, []⟩])
(.seq (.seq (.reg 0 [⟨some 6, .mv (.t 0), none, 0, false, []⟩,
⟨some 7, .len 0 (.t 6), none, 0, false, []⟩,
⟨some 8, .mv (.c (.int .i64 0)), none, 0, false, []⟩])
(.block 0 (.loop true Yco)))
(.seq (.reg 0 [⟨some 4, .mv (.c (.int .i64 (-1))), none, 0, false, []⟩])
.ret))) }
def c54 : AFun :=
{ keep := true, np := 2, nt := 9, res := [.tmp 4], body :=
(.seq (.reg 0 [⟨some 4, .mv (.c (.bool false)), none, 0, false, []⟩])
(.seq (.reg 1 [⟨some 5, .mv (.t 0), none, 0, false, []⟩,
⟨some 6, .mv (.t 1), none, 0, false, []⟩,
⟨some 7, .call .iso (.c (.fn 53 [] [])) [(.t 5), (.t 6)], none, 0, false, []⟩,
⟨some 8, .bin .geq (.t 7) (.c (.int .i64 0)), none, 1, false, []⟩,
⟨some 4, .mv (.t 8), none, 1, false, []⟩])
.ret)) }
def c55 : AFun :=
{ keep := true, np := 2, nt := 33, res := [.tmp 4], body :=
(.seq (.reg 2 [⟨some 2, .box (.t 0), none, 0, false, []⟩,
⟨some 3, .box (.t 1), none, 1, false, []⟩,
⟨some 4, .mv (.c (.bool false)), none, 2, false, []⟩])
(.seq (.regd [[], [], [0, 1], [0, 1, 2], [0, 1, 2, 3], [0, 1, 2, 3, 4], [0, 1, 2, 3, 4, 5], [0, 1, 2, 3, 4, 5, 6], [0, 1, 2, 3, 4, 5, 6, 7], [0, 1, 2, 3, 4, 5, 6, 7, 8], [0, 1, 2, 3, 4, 5, 6, 7], [0, 1, 2, 3, 4, 5, 6, 7, 10], [0, 1, 2, 3, 4, 5, 6, 7, 10, 11], [0, 1, 2, 3, 4, 5, 6, 7, 8, 9, 10, 11, 12], [0, 1, 2, 3, 4, 5, 6, 7, 8, 9, 10, 11, 12, 13], [0, 1, 2, 3, 4, 5, 6, 7, 8, 9, 10, 11, 12, 13, 14], [0, 1, 2, 3, 4, 5, 6, 7, 8, 9, 10, 11, 12, 13, 14, 15], [0, 1, 2, 3, 4, 5, 6, 7, 8, 9, 10, 11, 12, 13, 14, 15, 16], [0, 1, 2, 3, 4, 5, 6, 7, 8, 9, 10, 11, 12, 13, 14, 15, 16, 17], [0, 1, 2, 3, 4, 5, 6, 7, 8, 9, 10, 11, 12, 13, 14, 15, 16, 17, 18], [0, 1, 2, 3, 4, 5, 6, 7, 8, 9, 10, 11, 12, 13, 14, 15, 16, 17, 18, 19], [0, 1, 2, 3, 4, 5, 6, 7, 8, 9, 10, 11, 12, 13, 14, 15, 16, 17, 18, 19, 20], [0, 1, 2, 3, 4, 5, 6, 7, 8, 9, 10, 11, 12, 13, 14, 15, 16, 17, 18, 19, 20, 21], [0, 1, 2, 3, 4, 5, 6, 7, 8, 9, 10, 11, 12, 13, 14, 15, 16, 17, 18, 19, 20], [0, 1, 2, 3, 4, 5, 6, 7, 8, 9, 10, 11, 12, 13, 14, 15, 16, 17, 18, 19, 20, 23], [0, 1, 2, 3, 4, 5, 6, 7, 8, 9, 10, 11, 12, 13, 14, 15, 16, 17, 18, 19, 20, 21, 22, 23, 24], [0, 1, 2, 3, 4, 5, 6, 7, 8, 9, 10, 11, 12, 13, 14, 15, 16, 17, 18, 19, 20, 21, 22, 23, 24, 25], [0, 1, 2, 3, 4, 5, 6, 7, 8, 9, 10, 11, 12, 13, 14, 15, 16, 17, 18, 19, 20, 21, 22, 23, 24, 25, 26], [0, 1, 2, 3, 4, 5, 6, 7, 8, 9, 10, 11, 12, 13, 14, 15, 16, 17, 18, 19, 20, 21, 22, 23, 24, 25, 26, 27]] 1 [⟨some 5, .ld 2 true (.t 3), none, 0, false, []⟩,
⟨some 6, .call .iso (.c (.fn 57 [] [])) [], none, 0, false, []⟩,
⟨some 7, .eqb false true [.i, .i] (.t 5) (.t 6), none, 1, false, []⟩,
⟨some 8, .mv (.t 7), none, 1, false, []⟩,
⟨some 9, .fad 0 (.t 3), (some (8, false)), 1, false, []⟩,
⟨some 10, .ld 1 false (.t 9), (some (8, false)), 1, false, []⟩,
⟨some 11, .bin .geq (.t 10) (.c (.int .i64 0)), (some (8, false)), 1, false, []⟩,
⟨some 12, .mv (.t 11), (some (8, false)), 1, false, []⟩,
⟨some 13, .fad 0 (.t 3), (some (12, true)), 1, false, []⟩,
⟨some 14, .ld 1 false (.t 13), (some (12, true)), 1, false, []⟩,
⟨some 15, .fad 2 (.t 2), (some (12, true)), 1, false, []⟩,
⟨some 16, .ld 1 false (.t 15), (some (12, true)), 1, false, []⟩,
⟨some 17, .len 0 (.t 16), (some (12, true)), 1, false, []⟩,
⟨some 18, .bin .lss (.t 14) (.t 17), (some (12, true)), 1, false, []⟩,
⟨some 19, .pick (.t 12) (.t 18) (.c (.bool false)), (some (8, false)), 1, false, []⟩,
⟨some 20, .mv (.t 19), (some (8, false)), 1, false, []⟩,
⟨some 21, .fad 1 (.t 3), (some (20, true)), 1, false, []⟩,
⟨some 22, .ld 1 false (.t 21), (some (20, true)), 1, false, []⟩,
⟨some 23, .bin .geq (.t 22) (.c (.int .i64 0)), (some (20, true)), 1, false, []⟩,
⟨some 24, .pick (.t 20) (.t 23) (.c (.bool false)), (some (8, false)), 1, false, []⟩,
⟨some 25, .mv (.t 24), (some (8, false)), 1, false, []⟩,
⟨some 26, .fad 1 (.t 3), (some (25, true)), 1, false, []⟩,
⟨some 27, .ld 1 false (.t 26), (some (25, true)), 1, false, []⟩,
⟨some 28, .fad 1 (.t 2), (some (25, true)), 1, false, []⟩,
⟨some 29, .ld 1 false (.t 28), (some (25, true)), 1, false, []⟩,
⟨some 30, .bin .lss (.t 27) (.t 29), (some (25, true)), 1, false, []⟩,
⟨some 31, .pick (.t 25) (.t 30) (.c (.bool false)), (some (8, false)), 1, false, []⟩,
⟨some 32, .pick (.t 8) (.c (.bool true)) (.t 31), none, 1, false, []⟩,
⟨some 4, .mv (.t 32), none, 1, false, []⟩])
.ret)) }
def c56 : AFun :=
{ keep := true, np := 2, nt := 8, res := [.tmp 3], body :=
(.seq (.reg 1 [⟨some 2, .box (.t 0), none, 0, false, []⟩,
⟨some 3, .mv (.c (.bool false)), none, 1, false, []⟩])
(.seq (.reg 1 [⟨some 4, .ld 3 true (.t 1), none, 0, false, []⟩,
⟨some 5, .ld 2 true (.t 2), none, 0, false, []⟩,
⟨some 6, .call .iso (.c (.fn 55 [] [])) [(.t 4), (.t 5)], none, 0, false, []⟩,
⟨some 7, .un .not (.t 6), none, 1, false, []⟩,
⟨some 3, .mv (.t 7), none, 1, false, []⟩])
.ret)) }
def c57 : AFun :=
{ keep := true, np := 0, nt := 2, res := [.cell 0 2 true], body :=
(.seq (.reg 1 [⟨some 0, .alloc [.int .i64 0, .int .i64 0], none, 0, false, []⟩])
(.seq (.reg 0 [⟨some 1, .build [.int .i64 0, .int .i64 0] [(0, 1, (.c (.int .i64 (-1)))), (1, 1, (.c (.int .i64 (-1))))], none, 0, false, []⟩,
⟨none, .st 2 (.t 0) (.t 1), none, 0, false, []⟩])
.ret)) }
def Yex : AC :=
(.seq (.reg 0 [⟨some 39, .bin .lss (.t 38) (.t 37), none, 0, false, []⟩])
(.seq (.cond (.t 39)
.skip
(.exit 2))
(.seq (.block 3 (.seq (.reg 1 [⟨some 40, .mv (.t 38), none, 0, false, []⟩,
⟨some 41, .iad 2 (.t 36) (.t 38), none, 0, false, []⟩,
⟨some 42, .ld 2 true (.t 41), none, 0, false, []⟩,
⟨some 8, .alloc [.int .i64 0, .int .i64 0], none, 0, false, []⟩,
⟨some 7, .mv (.t 40), none, 1, false, []⟩,
⟨none, .st 2 (.t 8) (.t 42), none, 1, false, []⟩])
(.seq (.reg 0 [⟨some 43, .fad 0 (.t 8), none, 0, false, []⟩,
⟨some 44, .ld 1 false (.t 43), none, 0, false, []⟩,
⟨some 45, .bin .neq (.t 44) (.c (.int .i64 (-1))), none, 0, false, []⟩,
⟨some 46, .mv (.t 45), none, 0, false, []⟩,
⟨some 47, .mv (.t 4), (some (46, true)), 0, false, []⟩,
⟨some 48, .fad 0 (.t 8), (some (46, true)), 0, false, []⟩,
⟨some 49, .ld 1 false (.t 48), (some (46, true)), 0, false, []⟩,
⟨some 50, .iad 1 (.t 47) (.t 49), (some (46, true)), 0, false, []⟩,
⟨some 51, .ld 1 false (.t 50), (some (46, true)), 0, false, []⟩,
⟨some 52, .un .not (.t 51), (some (46, true)), 0, false, []⟩,
⟨some 53, .pick (.t 46) (.t 52) (.c (.bool false)), none, 0, false, []⟩])
(.cond (.t 53)
(.seq (.reg 0 [⟨some 54, .mv (.t 4), none, 0, false, []⟩,
⟨some 55, .fad 0 (.t 8), none, 0, false, []⟩,
⟨some 56, .ld 1 false (.t 55), none, 0, false, []⟩,
⟨some 57, .iad 1 (.t 54) (.t 56), none, 0, false, []⟩,
⟨none, .st 1 (.t 57) (.c (.bool true)), none, 0, false, []⟩])
(.reg 2 [⟨some 58, .mv (.t 5), none, 0, false, []⟩,
⟨some 59, .fad 0 (.t 8), none, 0, false, []⟩,
⟨some 60, .ld 1 false (.t 59), none, 0, false, []⟩,
⟨some 61, .fad 0 (.t 6), none, 0, false, []⟩,
⟨some 62, .ld 1 false (.t 61), none, 0, false, []⟩,
⟨some 63, .mv (.t 7), none, 0, false, []⟩,
⟨some 64, .build [.int .i64 0, .int .i64 0, .int .i64 0] [(0, 1, (.t 60)), (1, 1, (.t 62)), (2, 1, (.t 63))], none, 0, false, []⟩,
⟨some 65, .bsl 3 1 [.int .i64 0, .int .i64 0, .int .i64 0] [(0, 3, (.t 64))], none, 0, false, []⟩,
⟨some 66, .app 3 24 (.t 58) (.t 65), none, 1, false, []⟩,
⟨some 5, .mv (.t 66), none, 2, false, []⟩]))
.skip))))
(.reg 0 [⟨some 67, .bin .add (.t 38) (.c (.int .i64 1)), none, 0, false, []⟩,
⟨some 38, .mv (.t 67), none, 0, false, []⟩]))))
def Ycq : AC :=
(.seq (.seq (.reg 0 [⟨some 19, .mv (.t 5), none, 0, false, []⟩,
⟨some 20, .len 0 (.t 19), none, 0, false, []⟩,
⟨some 21, .bin .gtr (.t 20) (.c (.int .i64 0)), none, 0, false, []⟩])
(.cond (.t 21)
.skip
(.exit 0)))
(.block 1 (.seq (.reg 1 [⟨some 22, .mv (.t 5), none, 0, false, []⟩,
⟨some 23, .iad 3 (.t 22) (.c (.int .i64 0)), none, 0, false, []⟩,
⟨some 24, .ld 3 true (.t 23), none, 0, false, []⟩,
⟨some 6, .alloc [.int .i64 0, .int .i64 0, .int .i64 0], none, 0, false, []⟩,
⟨none, .st 3 (.t 6) (.t 24), none, 1, false, []⟩])
(.seq (.reg 0 [⟨some 25, .mv (.t 5), none, 0, false, []⟩,
⟨some 26, .slc 3 (.t 25) (some (.c (.int .i64 1))) none none, none, 0, false, []⟩,
⟨some 5, .mv (.t 26), none, 0, false, []⟩])
(.seq (.seq (.reg 1 [⟨some 27, .mv (.t 0), none, 0, false, []⟩,
⟨some 28, .ld 3 true (.t 6), none, 0, false, []⟩,
⟨some 29, .call .raw (.t 27) [(.t 28)], none, 0, false, []⟩,
⟨some 30, .un .not (.t 29), none, 1, false, []⟩])
(.cond (.t 30)
.ret
.skip))
(.seq (.reg 0 [⟨some 31, .fad 2 (.t 1), none, 0, false, []⟩,
⟨some 32, .ld 1 false (.t 31), none, 0, false, []⟩,
⟨some 33, .fad 0 (.t 6), none, 0, false, []⟩,
⟨some 34, .ld 1 false (.t 33), none, 0, false, []⟩,
⟨some 35, .iad 1 (.t 32) (.t 34), none, 0, false, []⟩,
⟨some 36, .ld 1 false (.t 35), none, 0, false, []⟩,
⟨some 37, .len 0 (.t 36), none, 0, false, []⟩,
⟨some 38, .mv (.c (.int .i64 0)), none, 0, false, []⟩])
(.block 2 (.loop true Yex))))))))
def c58 : AFun :=
{ keep := true, np := 3, nt := 68, res := [], body :=
(.seq (.reg 1 [⟨some 9, .fad 2 (.t 1), none, 0, false, []⟩,
⟨some 10, .ld 1 false (.t 9), none, 0, false, []⟩,
⟨some 11, .len 0 (.t 10), none, 0, false, []⟩,
⟨some 12, .mks 1 1 [.bool false] (.t 11) (.t 11), none, 0, false, []⟩,
⟨some 4, .mv (.t 12), none, 1, false, []⟩])
(.seq (.reg 0 [⟨some 13, .mv (.t 4), none, 0, false, []⟩,
⟨some 14, .ld 1 false (.t 2), none, 0, false, []⟩,
⟨some 15, .iad 1 (.t 13) (.t 14), none, 0, false, []⟩,
⟨none, .st 1 (.t 15) (.c (.bool true)), none, 0, false, []⟩])
(.seq (.reg 1 [⟨some 16, .ld 1 false (.t 2), none, 0, false, []⟩,
⟨some 17, .build [.int .i64 0, .int .i64 0, .int .i64 0] [(0, 1, (.t 16)), (1, 1, (.c (.int .i64 (-1)))), (2, 1, (.c (.int .i64 (-1))))], none, 0, false, []⟩,
⟨some 18, .bsl 3 1 [.int .i64 0, .int .i64 0, .int .i64 0] [(0, 3, (.t 17))], none, 0, false, []⟩,
⟨some 5, .mv (.t 18), none, 1, false, []⟩])
(.block 0 (.loop true Ycq))))) }
def Zgs : AC :=
(.reg 0 [⟨some 5, .mv (.t 7), none, 0, false, []⟩])
def Zgb : AC :=
(.block 1 (.reg 2 [⟨some 8, .ld 1 false (.t 2), none, 0, false, []⟩,
⟨some 9, .mv (.t 5), none, 0, false, []⟩,
⟨some 10, .bsl 1 1 [.int .i64 0] [(0, 1, (.t 9))], none, 0, false, []⟩,
⟨some 11, .app 1 8 (.t 8) (.t 10), none, 1, false, []⟩,
⟨none, .st 1 (.t 2) (.t 11), none, 2, false, []⟩]))
def c59 : AFun :=
{ keep := true, np := 2, nt := 13, res := [.tmp 4], body :=
(.seq (.reg 1 [⟨some 2, .box (.t 0), none, 0, false, []⟩,
⟨some 4, .mv (.c (.nils)), none, 1, false, []⟩])
(.seq (.seq (.reg 0 [⟨some 6, .mv (.t 1), none, 0, false, []⟩])
(.block 0 (.rngf true (.t 6) [7] Zgs Zgb)))
(.seq (.reg 0 [⟨some 12, .ld 1 false (.t 2), none, 0, false, []⟩,
⟨some 4, .mv (.t 12), none, 0, false, []⟩])
.ret))) }
def c60 : AFun :=
{ keep := true, np := 1, nt := 8, res := [.tmp 2], body :=
(.seq (.reg 0 [⟨some 2, .mv (.c (.int .i64 0)), none, 0, false, []⟩])
(.seq (.cond (.c (.bool false))
(.seq (.reg 1 [⟨some 3, .mv (.t 0), none, 0, false, []⟩,
⟨some 4, .conv .u32 (.t 3), none, 0, false, []⟩,
⟨some 5, .call .iso (.c (.fn 68 [] [])) [(.t 4)], none, 0, false, []⟩,
⟨some 2, .mv (.t 5), none, 1, false, []⟩])
.ret)
.skip)
(.seq (.reg 1 [⟨some 6, .mv (.t 0), none, 0, false, []⟩,
⟨some 7, .call .iso (.c (.fn 69 [] [])) [(.t 6)], none, 0, false, []⟩,
⟨some 2, .mv (.t 7), none, 1, false, []⟩])
.ret))) }
def B61_1 : AC :=
(.block 1 (.seq (.reg 0 [⟨some 19, .mv (.t 2), none, 0, false, []⟩,
⟨some 20, .mv (.t 1), none, 0, false, []⟩,
⟨some 21, .bin .sub (.t 19) (.t 20), none, 0, false, []⟩,
⟨some 10, .mv (.t 21), none, 0, false, []⟩])
(.seq (.seq (.reg 0 [⟨some 22, .mv (.t 10), none, 0, false, []⟩,
⟨some 23, .bin .leq (.t 22) (.c (.int .i64 12)), none, 0, false, []⟩])
(.cond (.t 23)
(.seq (.reg 1 [⟨some 24, .mv (.t 0), none, 0, false, []⟩,
⟨some 25, .mv (.t 1), none, 0, false, []⟩,
⟨some 26, .mv (.t 2), none, 0, false, []⟩,
⟨some 27, .call .raw (.c (.fn 86 [] [])) [(.t 24), (.t 25), (.t 26)], none, 0, false, []⟩])
.ret)
.skip))
(.seq (.seq (.reg 0 [⟨some 28, .mv (.t 3), none, 0, false, []⟩,
⟨some 29, .bin .eql (.t 28) (.c (.int .i64 0)), none, 0, false, []⟩])
(.cond (.t 29)
(.seq (.reg 1 [⟨some 30, .mv (.t 0), none, 0, false, []⟩,
⟨some 31, .mv (.t 1), none, 0, false, []⟩,
⟨some 32, .mv (.t 2), none, 0, false, []⟩,
⟨some 33, .call .raw (.c (.fn 87 [] [])) [(.t 30), (.t 31), (.t 32)], none, 0, false, []⟩])
.ret)
.skip))
(.seq (.seq (.reg 0 [⟨some 34, .mv (.t 8), none, 0, false, []⟩,
⟨some 35, .un .not (.t 34), none, 0, false, []⟩])
(.cond (.t 35)
(.seq (.reg 1 [⟨some 36, .mv (.t 0), none, 0, false, []⟩,
⟨some 37, .mv (.t 1), none, 0, false, []⟩,
⟨some 38, .mv (.t 2), none, 0, false, []⟩,
⟨some 39, .call .raw (.c (.fn 88 [] [])) [(.t 36), (.t 37), (.t 38)], none, 0, false, []⟩])
(.reg 0 [⟨some 40, .mv (.t 3), none, 0, false, []⟩,
⟨some 41, .bin .sub (.t 40) (.c (.int .i64 1)), none, 0, false, []⟩,
⟨some 3, .mv (.t 41), none, 0, false, []⟩]))
.skip))
(.seq (.reg 1 [⟨some 43, .mv (.t 0), none, 0, false, []⟩,
⟨some 44, .mv (.t 1), none, 0, false, []⟩,
⟨some 45, .mv (.t 2), none, 0, false, []⟩,
⟨some 46, .call .iso (.c (.fn 73 [] [])) [(.t 43), (.t 44), (.t 45)], none, 0, false, []⟩,
⟨some 42, .mv (.t 46), none, 1, false, []⟩,
⟨some 47, .ext (.t 42) 0, none, 1, false, []⟩,
⟨some 48, .ext (.t 42) 1, none, 1, false, []⟩,
⟨some 11, .mv (.t 47), none, 1, false, []⟩,
⟨some 12, .mv (.t 48), none, 1, false, []⟩])
(.seq (.seq (.reg 0 [⟨some 49, .mv (.t 12), none, 0, false, []⟩,
⟨some 50, .bin .eql (.t 49) (.c (.int .i64 2)), none, 0, false, []⟩])
(.cond (.t 50)
(.seq (.reg 1 [⟨some 51, .mv (.t 0), none, 0, false, []⟩,
⟨some 52, .mv (.t 1), none, 0, false, []⟩,
⟨some 53, .mv (.t 2), none, 0, false, []⟩,
⟨some 54, .call .raw (.c (.fn 89 [] [])) [(.t 51), (.t 52), (.t 53)], none, 0, false, []⟩])
(.seq (.reg 0 [⟨some 55, .mv (.t 2), none, 0, false, []⟩,
⟨some 56, .bin .sub (.t 55) (.c (.int .i64 1)), none, 0, false, []⟩,
⟨some 57, .mv (.t 11), none, 0, false, []⟩,
⟨some 58, .mv (.t 1), none, 0, false, []⟩,
⟨some 59, .bin .sub (.t 57) (.t 58), none, 0, false, []⟩,
⟨some 60, .bin .sub (.t 56) (.t 59), none, 0, false, []⟩,
⟨some 11, .mv (.t 60), none, 0, false, []⟩])
(.reg 0 [⟨some 12, .mv (.c (.int .i64 1)), none, 0, false, []⟩])))
.skip))
(.seq (.seq (.reg 0 [⟨some 61, .mv (.t 8), none, 0, false, []⟩,
⟨some 62, .mv (.t 61), none, 0, false, []⟩,
⟨some 63, .mv (.t 9), (some (62, true)), 0, false, []⟩,
⟨some 64, .pick (.t 62) (.t 63) (.c (.bool false)), none, 0, false, []⟩,
⟨some 65, .mv (.t 64), none, 0, false, []⟩,
⟨some 66, .mv (.t 12), (some (65, true)), 0, false, []⟩,
⟨some 67, .bin .eql (.t 66) (.c (.int .i64 1)), (some (65, true)), 0, false, []⟩,
⟨some 68, .pick (.t 65) (.t 67) (.c (.bool false)), none, 0, false, []⟩])
(.cond (.t 68)
(.seq (.reg 1 [⟨some 69, .mv (.t 0), none, 0, false, []⟩,
⟨some 70, .mv (.t 1), none, 0, false, []⟩,
⟨some 71, .mv (.t 2), none, 0, false, []⟩,
⟨some 72, .call .iso (.c (.fn 90 [] [])) [(.t 69), (.t 70), (.t 71)], none, 0, false, []⟩])
(.cond (.t 72)
.ret
.skip))
.skip))
(.seq (.seq (.regd [[], [0], [0, 1], [0, 1, 2], [0, 1, 2], [0, 1, 2, 4], [0, 1, 2, 3, 4, 5], [0, 1, 2, 3, 4, 5, 6], [0, 1, 2], [0, 1, 2], [0, 1, 2, 8, 9], [0, 1, 2, 8, 9, 10], [0, 1, 2, 3, 4, 5, 6, 7, 8, 9, 10, 11], [0, 1, 2, 3, 4, 5, 6, 7, 8, 9, 10, 11, 12], [0, 1, 2, 3, 4, 5, 6, 7, 8, 9, 10, 11, 12, 13]] 1 [⟨some 73, .mv (.t 1), none, 0, false, []⟩,
⟨some 74, .bin .gtr (.t 73) (.c (.int .i64 0)), none, 0, false, []⟩,
⟨some 75, .mv (.t 74), none, 0, false, []⟩,
⟨some 76, .mv (.t 0), (some (75, true)), 0, false, []⟩,
⟨some 77, .mv (.t 1), (some (75, true)), 0, false, []⟩,
⟨some 78, .bin .sub (.t 77) (.c (.int .i64 1)), (some (75, true)), 0, false, []⟩,
⟨some 79, .iad 1 (.t 76) (.t 78), (some (75, true)), 0, false, []⟩,
⟨some 80, .ld 1 false (.t 79), (some (75, true)), 0, false, []⟩,
⟨some 81, .mv (.t 0), (some (75, true)), 0, false, []⟩,
⟨some 82, .mv (.t 11), (some (75, true)), 0, false, []⟩,
⟨some 83, .iad 1 (.t 81) (.t 82), (some (75, true)), 0, false, []⟩,
⟨some 84, .ld 1 false (.t 83), (some (75, true)), 0, false, []⟩,
⟨some 85, .call .iso (.c (.fn 75 [] [])) [(.t 80), (.t 84)], (some (75, true)), 0, false, []⟩,
⟨some 86, .un .not (.t 85), (some (75, true)), 1, false, []⟩,
⟨some 87, .pick (.t 75) (.t 86) (.c (.bool false)), none, 1, false, []⟩])
(.cond (.t 87)
(.seq (.reg 1 [⟨some 88, .mv (.t 0), none, 0, false, []⟩,
⟨some 89, .mv (.t 1), none, 0, false, []⟩,
⟨some 90, .mv (.t 2), none, 0, false, []⟩,
⟨some 91, .mv (.t 11), none, 0, false, []⟩,
⟨some 92, .call .iso (.c (.fn 91 [] [])) [(.t 88), (.t 89), (.t 90), (.t 91)], none, 0, false, []⟩,
⟨some 13, .mv (.t 92), none, 1, false, []⟩])
(.seq (.reg 0 [⟨some 93, .mv (.t 13), none, 0, false, []⟩,
⟨some 1, .mv (.t 93), none, 0, false, []⟩])
(.exit 1)))
.skip))
(.seq (.reg 1 [⟨some 95, .mv (.t 0), none, 0, false, []⟩,
⟨some 96, .mv (.t 1), none, 0, false, []⟩,
⟨some 97, .mv (.t 2), none, 0, false, []⟩,
⟨some 98, .mv (.t 11), none, 0, false, []⟩,
⟨some 99, .call .iso (.c (.fn 92 [] [])) [(.t 95), (.t 96), (.t 97), (.t 98)], none, 0, false, []⟩,
⟨some 94, .mv (.t 99), none, 1, false, []⟩,
⟨some 100, .ext (.t 94) 0, none, 1, false, []⟩,
⟨some 101, .ext (.t 94) 1, none, 1, false, []⟩,
⟨some 14, .mv (.t 100), none, 1, false, []⟩,
⟨some 15, .mv (.t 101), none, 1, false, []⟩])
(.seq (.reg 0 [⟨some 102, .mv (.t 15), none, 0, false, []⟩,
⟨some 9, .mv (.t 102), none, 0, false, []⟩])
(.seq (.reg 0 [⟨some 103, .mv (.t 14), none, 0, false, []⟩,
⟨some 104, .mv (.t 1), none, 0, false, []⟩,
⟨some 105, .bin .sub (.t 103) (.t 104), none, 0, false, []⟩,
⟨some 106, .mv (.t 2), none, 0, false, []⟩,
⟨some 107, .mv (.t 14), none, 0, false, []⟩,
⟨some 108, .bin .sub (.t 106) (.t 107), none, 0, false, []⟩,
⟨some 16, .mv (.t 105), none, 0, false, []⟩,
⟨some 17, .mv (.t 108), none, 0, false, []⟩])
(.seq (.reg 0 [⟨some 109, .mv (.t 10), none, 0, false, []⟩,
⟨some 110, .bin .quo (.t 109) (.c (.int .i64 8)), none, 0, false, []⟩,
⟨some 18, .mv (.t 110), none, 0, false, []⟩])
(.seq (.reg 0 [⟨some 111, .mv (.t 16), none, 0, false, []⟩,
⟨some 112, .mv (.t 17), none, 0, false, []⟩,
⟨some 113, .bin .lss (.t 111) (.t 112), none, 0, false, []⟩])
(.cond (.t 113)
(.seq (.reg 0 [⟨some 114, .mv (.t 16), none, 0, false, []⟩,
⟨some 115, .mv (.t 18), none, 0, false, []⟩,
⟨some 116, .bin .geq (.t 114) (.t 115), none, 0, false, []⟩,
⟨some 8, .mv (.t 116), none, 0, false, []⟩])
(.seq (.reg 1 [⟨some 117, .mv (.t 0), none, 0, false, []⟩,
⟨some 118, .mv (.t 1), none, 0, false, []⟩,
⟨some 119, .mv (.t 14), none, 0, false, []⟩,
⟨some 120, .mv (.t 3), none, 0, false, []⟩,
⟨some 121, .call .raw (.c (.fn 61 [] [])) [(.t 117), (.t 118), (.t 119), (.t 120)], none, 0, false, []⟩])
(.reg 0 [⟨some 122, .mv (.t 14), none, 0, false, []⟩,
⟨some 123, .bin .add (.t 122) (.c (.int .i64 1)), none, 0, false, []⟩,
⟨some 1, .mv (.t 123), none, 0, false, []⟩])))
(.seq (.reg 0 [⟨some 124, .mv (.t 17), none, 0, false, []⟩,
⟨some 125, .mv (.t 18), none, 0, false, []⟩,
⟨some 126, .bin .geq (.t 124) (.t 125), none, 0, false, []⟩,
⟨some 8, .mv (.t 126), none, 0, false, []⟩])
(.seq (.reg 1 [⟨some 127, .mv (.t 0), none, 0, false, []⟩,
⟨some 128, .mv (.t 14), none, 0, false, []⟩,
⟨some 129, .bin .add (.t 128) (.c (.int .i64 1)), none, 0, false, []⟩,
⟨some 130, .mv (.t 2), none, 0, false, []⟩,
⟨some 131, .mv (.t 3), none, 0, false, []⟩,
⟨some 132, .call .raw (.c (.fn 61 [] [])) [(.t 127), (.t 129), (.t 130), (.t 131)], none, 0, false, []⟩])
(.reg 0 [⟨some 133, .mv (.t 14), none, 0, false, []⟩,
⟨some 2, .mv (.t 133), none, 0, false, []⟩]))))))))))))))))))
def c61 : AFun :=
{ keep := true, np := 4, nt := 134, res := [], body :=
(.seq (.reg 0 [⟨some 8, .mv (.c (.bool true)), none, 0, false, []⟩])
(.seq (.reg 0 [⟨some 9, .mv (.c (.bool true)), none, 0, false, []⟩])
(.block 0 (.loop true B61_1)))) }
def Ycx : AC :=
(.seq (.reg 0 [⟨some 9, .bin .lss (.t 8) (.t 7), none, 0, false, []⟩])
(.seq (.cond (.t 9)
.skip
(.exit 0))
(.seq (.block 1 (.seq (.reg 0 [⟨some 10, .mv (.t 8), none, 0, false, []⟩,
⟨some 5, .mv (.t 10), none, 0, false, []⟩])
(.seq (.reg 1 [⟨some 11, .mv (.t 1), none, 0, false, []⟩,
⟨some 12, .mv (.t 0), none, 0, false, []⟩,
⟨some 13, .mv (.t 5), none, 0, false, []⟩,
⟨some 14, .iad 1 (.t 12) (.t 13), none, 0, false, []⟩,
⟨some 15, .ld 1 false (.t 14), none, 0, false, []⟩,
⟨some 16, .call .raw (.t 11) [(.t 15)], none, 0, false, []⟩])
(.cond (.t 16)
(.seq (.reg 0 [⟨some 17, .mv (.t 5), none, 0, false, []⟩,
⟨some 4, .mv (.t 17), none, 0, false, []⟩])
.ret)
.skip))))
(.reg 0 [⟨some 18, .bin .add (.t 8) (.c (.int .i64 1)), none, 0, false, []⟩,
⟨some 8, .mv (.t 18), none, 0, false, []⟩]))))
def c62 : AFun :=
{ keep := true, np := 2, nt := 19, res := [.tmp 4], body :=
(.seq (.reg 0 [⟨some 4, .mv (.c (.int .i64 0)), none, 0, false, []⟩])
(.seq (.seq (.reg 0 [⟨some 6, .mv (.t 0), none, 0, false, []⟩,
⟨some 7, .len 0 (.t 6), none, 0, false, []⟩,
⟨some 8, .mv (.c (.int .i64 0)), none, 0, false, []⟩])
(.block 0 (.loop true Ycx)))
(.seq (.reg 0 [⟨some 4, .mv (.c (.int .i64 (-1))), none, 0, false, []⟩])
.ret))) }
def c63 : AFun :=
{ keep := true, np := 2, nt := 11, res := [.cell 3 2 true], body :=
(.seq (.reg 2 [⟨some 2, .box (.t 0), none, 0, false, []⟩,
⟨some 3, .alloc [.int .i64 0, .int .i64 0], none, 1, false, []⟩])
(.seq (.reg 0 [⟨some 4, .ld 1 false (.t 1), none, 0, false, []⟩,
⟨some 5, .fad 0 (.t 2), none, 0, false, []⟩,
⟨some 6, .ld 1 false (.t 5), none, 0, false, []⟩,
⟨some 7, .lkp false [.i] (.int .i64 0) false (.t 4) (.t 6), none, 0, false, []⟩,
⟨some 8, .fad 1 (.t 2), none, 0, false, []⟩,
⟨some 9, .ld 1 false (.t 8), none, 0, false, []⟩,
⟨some 10, .build [.int .i64 0, .int .i64 0] [(0, 1, (.t 7)), (1, 1, (.t 9))], none, 0, false, []⟩,
⟨none, .st 2 (.t 3) (.t 10), none, 0, false, []⟩])
.ret)) }
def c64 : AFun :=
{ keep := true, np := 2, nt := 17, res := [.tmp 4, .tmp 5], body :=
(.seq (.reg 0 [⟨some 4, .mv (.c (.int .u32 0)), none, 0, false, []⟩,
⟨some 5, .mv (.c (.int .u32 0)), none, 0, false, []⟩])
(.seq (.reg 0 [⟨some 7, .mv (.t 0), none, 0, false, []⟩,
⟨some 8, .conv .u64 (.t 7), none, 0, false, []⟩,
⟨some 9, .mv (.t 1), none, 0, false, []⟩,
⟨some 10, .conv .u64 (.t 9), none, 0, false, []⟩,
⟨some 11, .bin .mul (.t 8) (.t 10), none, 0, false, []⟩,
⟨some 6, .mv (.t 11), none, 0, false, []⟩])
(.seq (.reg 0 [⟨some 12, .mv (.t 6), none, 0, false, []⟩,
⟨some 13, .bin .shr (.t 12) (.c (.int .u64 32)), none, 0, false, []⟩,
⟨some 14, .conv .u32 (.t 13), none, 0, false, []⟩,
⟨some 15, .mv (.t 6), none, 0, false, []⟩,
⟨some 16, .conv .u32 (.t 15), none, 0, false, []⟩,
⟨some 4, .mv (.t 14), none, 0, false, []⟩,
⟨some 5, .mv (.t 16), none, 0, false, []⟩])
.ret))) }
def c65 : AFun :=
{ keep := true, np := 2, nt := 51, res := [.tmp 4, .tmp 5], body :=
(.seq (.reg 0 [⟨some 4, .mv (.c (.int .u64 0)), none, 0, false, []⟩,
⟨some 5, .mv (.c (.int .u64 0)), none, 0, false, []⟩])
(.seq (.reg 0 [⟨some 14, .mv (.t 0), none, 0, false, []⟩,
⟨some 15, .bin .and (.t 14) (.c (.int .u64 4294967295)), none, 0, false, []⟩,
⟨some 6, .mv (.t 15), none, 0, false, []⟩])
(.seq (.reg 0 [⟨some 16, .mv (.t 0), none, 0, false, []⟩,
⟨some 17, .bin .shr (.t 16) (.c (.int .u64 32)), none, 0, false, []⟩,
⟨some 7, .mv (.t 17), none, 0, false, []⟩])
(.seq (.reg 0 [⟨some 18, .mv (.t 1), none, 0, false, []⟩,
⟨some 19, .bin .and (.t 18) (.c (.int .u64 4294967295)), none, 0, false, []⟩,
⟨some 8, .mv (.t 19), none, 0, false, []⟩])
(.seq (.reg 0 [⟨some 20, .mv (.t 1), none, 0, false, []⟩,
⟨some 21, .bin .shr (.t 20) (.c (.int .u64 32)), none, 0, false, []⟩,
⟨some 9, .mv (.t 21), none, 0, false, []⟩])
(.seq (.reg 0 [⟨some 22, .mv (.t 6), none, 0, false, []⟩,
⟨some 23, .mv (.t 8), none, 0, false, []⟩,
⟨some 24, .bin .mul (.t 22) (.t 23), none, 0, false, []⟩,
⟨some 10, .mv (.t 24), none, 0, false, []⟩])
(.seq (.reg 0 [⟨some 25, .mv (.t 7), none, 0, false, []⟩,
⟨some 26, .mv (.t 8), none, 0, false, []⟩,
⟨some 27, .bin .mul (.t 25) (.t 26), none, 0, false, []⟩,
⟨some 28, .mv (.t 10), none, 0, false, []⟩,
⟨some 29, .bin .shr (.t 28) (.c (.int .u64 32)), none, 0, false, []⟩,
⟨some 30, .bin .add (.t 27) (.t 29), none, 0, false, []⟩,
⟨some 11, .mv (.t 30), none, 0, false, []⟩])
(.seq (.reg 0 [⟨some 31, .mv (.t 11), none, 0, false, []⟩,
⟨some 32, .bin .and (.t 31) (.c (.int .u64 4294967295)), none, 0, false, []⟩,
⟨some 12, .mv (.t 32), none, 0, false, []⟩])
(.seq (.reg 0 [⟨some 33, .mv (.t 11), none, 0, false, []⟩,
⟨some 34, .bin .shr (.t 33) (.c (.int .u64 32)), none, 0, false, []⟩,
⟨some 13, .mv (.t 34), none, 0, false, []⟩])
(.seq (.reg 0 [⟨some 35, .mv (.t 12), none, 0, false, []⟩,
⟨some 36, .mv (.t 6), none, 0, false, []⟩,
⟨some 37, .mv (.t 9), none, 0, false, []⟩,
⟨some 38, .bin .mul (.t 36) (.t 37), none, 0, false, []⟩,
⟨some 39, .bin .add (.t 35) (.t 38), none, 0, false, []⟩,
⟨some 12, .mv (.t 39), none, 0, false, []⟩])
(.seq (.reg 0 [⟨some 40, .mv (.t 7), none, 0, false, []⟩,
⟨some 41, .mv (.t 9), none, 0, false, []⟩,
⟨some 42, .bin .mul (.t 40) (.t 41), none, 0, false, []⟩,
⟨some 43, .mv (.t 13), none, 0, false, []⟩,
⟨some 44, .bin .add (.t 42) (.t 43), none, 0, false, []⟩,
⟨some 45, .mv (.t 12), none, 0, false, []⟩,
⟨some 46, .bin .shr (.t 45) (.c (.int .u64 32)), none, 0, false, []⟩,
⟨some 47, .bin .add (.t 44) (.t 46), none, 0, false, []⟩,
⟨some 4, .mv (.t 47), none, 0, false, []⟩])
(.seq (.reg 0 [⟨some 48, .mv (.t 0), none, 0, false, []⟩,
⟨some 49, .mv (.t 1), none, 0, false, []⟩,
⟨some 50, .bin .mul (.t 48) (.t 49), none, 0, false, []⟩,
⟨some 5, .mv (.t 50), none, 0, false, []⟩])
.ret)))))))))))) }
def c66 : AFun :=
{ keep := true, np := 2, nt := 30, res := [.tmp 4, .tmp 5], body :=
(.seq (.reg 0 [⟨some 4, .mv (.c (.int .u64 0)), none, 0, false, []⟩,
⟨some 5, .mv (.c (.int .u64 0)), none, 0, false, []⟩])
(.seq (.cond (.c (.bool false))
(.seq (.reg 1 [⟨some 11, .mv (.t 0), none, 0, false, []⟩,
⟨some 12, .conv .u32 (.t 11), none, 0, false, []⟩,
⟨some 13, .mv (.t 1), none, 0, false, []⟩,
⟨some 14, .conv .u32 (.t 13), none, 0, false, []⟩,
⟨some 15, .call .iso (.c (.fn 64 [] [])) [(.t 12), (.t 14)], none, 0, false, []⟩,
⟨some 10, .mv (.t 15), none, 1, false, []⟩,
⟨some 16, .ext (.t 10) 0, none, 1, false, []⟩,
⟨some 17, .ext (.t 10) 1, none, 1, false, []⟩,
⟨some 6, .mv (.t 16), none, 1, false, []⟩,
⟨some 7, .mv (.t 17), none, 1, false, []⟩])
(.seq (.reg 0 [⟨some 18, .mv (.t 6), none, 0, false, []⟩,
⟨some 19, .conv .u64 (.t 18), none, 0, false, []⟩,
⟨some 20, .mv (.t 7), none, 0, false, []⟩,
⟨some 21, .conv .u64 (.t 20), none, 0, false, []⟩,
⟨some 4, .mv (.t 19), none, 0, false, []⟩,
⟨some 5, .mv (.t 21), none, 0, false, []⟩])
.ret))
.skip)
(.seq (.reg 1 [⟨some 23, .mv (.t 0), none, 0, false, []⟩,
⟨some 24, .mv (.t 1), none, 0, false, []⟩,
⟨some 25, .call .iso (.c (.fn 65 [] [])) [(.t 23), (.t 24)], none, 0, false, []⟩,
⟨some 22, .mv (.t 25), none, 1, false, []⟩,
⟨some 26, .ext (.t 22) 0, none, 1, false, []⟩,
⟨some 27, .ext (.t 22) 1, none, 1, false, []⟩,
⟨some 8, .mv (.t 26), none, 1, false, []⟩,
⟨some 9, .mv (.t 27), none, 1, false, []⟩])
(.seq (.reg 0 [⟨some 28, .mv (.t 8), none, 0, false, []⟩,
⟨some 29, .mv (.t 9), none, 0, false, []⟩,
⟨some 4, .mv (.t 28), none, 0, false, []⟩,
⟨some 5, .mv (.t 29), none, 0, false, []⟩])
.ret)))) }
def c68 : AFun :=
{ keep := true, np := 1, nt := 19, res := [.tmp 2], body :=
(.seq (.reg 0 [⟨some 2, .mv (.c (.int .i64 0)), none, 0, false, []⟩])
(.seq (.seq (.reg 0 [⟨some 3, .mv (.t 0), none, 0, false, []⟩,
⟨some 4, .bin .geq (.t 3) (.c (.int .u32 65536)), none, 0, false, []⟩])
(.cond (.t 4)
(.seq (.reg 0 [⟨some 5, .mv (.t 0), none, 0, false, []⟩,
⟨some 6, .bin .shr (.t 5) (.c (.int .u64 16)), none, 0, false, []⟩,
⟨some 0, .mv (.t 6), none, 0, false, []⟩])
(.reg 0 [⟨some 2, .mv (.c (.int .i64 16)), none, 0, false, []⟩]))
.skip))
(.seq (.seq (.reg 0 [⟨some 7, .mv (.t 0), none, 0, false, []⟩,
⟨some 8, .bin .geq (.t 7) (.c (.int .u32 256)), none, 0, false, []⟩])
(.cond (.t 8)
(.seq (.reg 0 [⟨some 9, .mv (.t 0), none, 0, false, []⟩,
⟨some 10, .bin .shr (.t 9) (.c (.int .u64 8)), none, 0, false, []⟩,
⟨some 0, .mv (.t 10), none, 0, false, []⟩])
(.reg 0 [⟨some 11, .mv (.t 2), none, 0, false, []⟩,
⟨some 12, .bin .add (.t 11) (.c (.int .i64 8)), none, 0, false, []⟩,
⟨some 2, .mv (.t 12), none, 0, false, []⟩]))
.skip))
(.seq (.reg 0 [⟨some 13, .mv (.t 2), none, 0, false, []⟩,
⟨some 14, .mv (.t 0), none, 0, false, []⟩,
⟨some 15, .conv .u8 (.t 14), none, 0, false, []⟩,
⟨some 16, .six (.c (.str ⟨#[0, 1, 2, 2, 3, 3, 3, 3, 4, 4, 4, 4, 4, 4, 4, 4, 5, 5, 5, 5, 5, 5, 5, 5, 5, 5, 5, 5, 5, 5, 5, 5, 6, 6, 6, 6, 6, 6, 6, 6, 6, 6, 6, 6, 6, 6, 6, 6, 6, 6, 6, 6, 6, 6, 6, 6, 6, 6, 6, 6, 6, 6, 6, 6, 7, 7, 7, 7, 7, 7, 7, 7, 7, 7, 7, 7, 7, 7, 7, 7, 7, 7, 7, 7, 7, 7, 7, 7, 7, 7, 7, 7, 7, 7, 7, 7, 7, 7, 7, 7, 7, 7, 7, 7, 7, 7, 7, 7, 7, 7, 7, 7, 7, 7, 7, 7, 7, 7, 7, 7, 7, 7, 7, 7, 7, 7, 7, 7, 8, 8, 8, 8, 8, 8, 8, 8, 8, 8, 8, 8, 8, 8, 8, 8, 8, 8, 8, 8, 8, 8, 8, 8, 8, 8, 8, 8, 8, 8, 8, 8, 8, 8, 8, 8, 8, 8, 8, 8, 8, 8, 8, 8, 8, 8, 8, 8, 8, 8, 8, 8, 8, 8, 8, 8, 8, 8, 8, 8, 8, 8, 8, 8, 8, 8, 8, 8, 8, 8, 8, 8, 8, 8, 8, 8, 8, 8, 8, 8, 8, 8, 8, 8, 8, 8, 8, 8, 8, 8, 8, 8, 8, 8, 8, 8, 8, 8, 8, 8, 8, 8, 8, 8, 8, 8, 8, 8, 8, 8, 8, 8, 8, 8, 8, 8, 8, 8, 8, 8, 8, 8, 8, 8, 8, 8, 8, 8]⟩)) (.t 15), none, 0, false, []⟩,
⟨some 17, .conv .i64 (.t 16), none, 0, false, []⟩,
⟨some 18, .bin .add (.t 13) (.t 17), none, 0, false, []⟩,
⟨some 2, .mv (.t 18), none, 0, false, []⟩])
.ret)))) }
def c69 : AFun :=
{ keep := true, np := 1, nt := 25, res := [.tmp 2], body :=
(.seq (.reg 0 [⟨some 2, .mv (.c (.int .i64 0)), none, 0, false, []⟩])
(.seq (.seq (.reg 0 [⟨some 3, .mv (.t 0), none, 0, false, []⟩,
⟨some 4, .bin .geq (.t 3) (.c (.int .u64 4294967296)), none, 0, false, []⟩])
(.cond (.t 4)
(.seq (.reg 0 [⟨some 5, .mv (.t 0), none, 0, false, []⟩,
⟨some 6, .bin .shr (.t 5) (.c (.int .u64 32)), none, 0, false, []⟩,
⟨some 0, .mv (.t 6), none, 0, false, []⟩])
(.reg 0 [⟨some 2, .mv (.c (.int .i64 32)), none, 0, false, []⟩]))
.skip))
(.seq (.seq (.reg 0 [⟨some 7, .mv (.t 0), none, 0, false, []⟩,
⟨some 8, .bin .geq (.t 7) (.c (.int .u64 65536)), none, 0, false, []⟩])
(.cond (.t 8)
(.seq (.reg 0 [⟨some 9, .mv (.t 0), none, 0, false, []⟩,
⟨some 10, .bin .shr (.t 9) (.c (.int .u64 16)), none, 0, false, []⟩,
⟨some 0, .mv (.t 10), none, 0, false, []⟩])
(.reg 0 [⟨some 11, .mv (.t 2), none, 0, false, []⟩,
⟨some 12, .bin .add (.t 11) (.c (.int .i64 16)), none, 0, false, []⟩,
⟨some 2, .mv (.t 12), none, 0, false, []⟩]))
.skip))
(.seq (.seq (.reg 0 [⟨some 13, .mv (.t 0), none, 0, false, []⟩,
⟨some 14, .bin .geq (.t 13) (.c (.int .u64 256)), none, 0, false, []⟩])
(.cond (.t 14)
(.seq (.reg 0 [⟨some 15, .mv (.t 0), none, 0, false, []⟩,
⟨some 16, .bin .shr (.t 15) (.c (.int .u64 8)), none, 0, false, []⟩,
⟨some 0, .mv (.t 16), none, 0, false, []⟩])
(.reg 0 [⟨some 17, .mv (.t 2), none, 0, false, []⟩,
⟨some 18, .bin .add (.t 17) (.c (.int .i64 8)), none, 0, false, []⟩,
⟨some 2, .mv (.t 18), none, 0, false, []⟩]))
.skip))
(.seq (.reg 0 [⟨some 19, .mv (.t 2), none, 0, false, []⟩,
⟨some 20, .mv (.t 0), none, 0, false, []⟩,
⟨some 21, .conv .u8 (.t 20), none, 0, false, []⟩,
⟨some 22, .six (.c (.str ⟨#[0, 1, 2, 2, 3, 3, 3, 3, 4, 4, 4, 4, 4, 4, 4, 4, 5, 5, 5, 5, 5, 5, 5, 5, 5, 5, 5, 5, 5, 5, 5, 5, 6, 6, 6, 6, 6, 6, 6, 6, 6, 6, 6, 6, 6, 6, 6, 6, 6, 6, 6, 6, 6, 6, 6, 6, 6, 6, 6, 6, 6, 6, 6, 6, 7, 7, 7, 7, 7, 7, 7, 7, 7, 7, 7, 7, 7, 7, 7, 7, 7, 7, 7, 7, 7, 7, 7, 7, 7, 7, 7, 7, 7, 7, 7, 7, 7, 7, 7, 7, 7, 7, 7, 7, 7, 7, 7, 7, 7, 7, 7, 7, 7, 7, 7, 7, 7, 7, 7, 7, 7, 7, 7, 7, 7, 7, 7, 7, 8, 8, 8, 8, 8, 8, 8, 8, 8, 8, 8, 8, 8, 8, 8, 8, 8, 8, 8, 8, 8, 8, 8, 8, 8, 8, 8, 8, 8, 8, 8, 8, 8, 8, 8, 8, 8, 8, 8, 8, 8, 8, 8, 8, 8, 8, 8, 8, 8, 8, 8, 8, 8, 8, 8, 8, 8, 8, 8, 8, 8, 8, 8, 8, 8, 8, 8, 8, 8, 8, 8, 8, 8, 8, 8, 8, 8, 8, 8, 8, 8, 8, 8, 8, 8, 8, 8, 8, 8, 8, 8, 8, 8, 8, 8, 8, 8, 8, 8, 8, 8, 8, 8, 8, 8, 8, 8, 8, 8, 8, 8, 8, 8, 8, 8, 8, 8, 8, 8, 8, 8, 8, 8, 8, 8, 8, 8, 8]⟩)) (.t 21), none, 0, false, []⟩,
⟨some 23, .conv .i64 (.t 22), none, 0, false, []⟩,
⟨some 24, .bin .add (.t 19) (.t 23), none, 0, false, []⟩,
⟨some 2, .mv (.t 24), none, 0, false, []⟩])
.ret))))) }
def c74 : AFun :=
{ keep := true, np := 1, nt := 6, res := [.tmp 2], body :=
(.seq (.reg 0 [⟨some 2, .mv (.c (.bool false)), none, 0, false, []⟩])
(.seq (.reg 0 [⟨some 3, .mv (.t 0), none, 0, false, []⟩,
⟨some 4, .mv (.t 0), none, 0, false, []⟩,
⟨some 5, .bin .neq (.t 3) (.t 4), none, 0, false, []⟩,
⟨some 2, .mv (.t 5), none, 0, false, []⟩])
.ret)) }
def c75 : AFun :=
{ keep := true, np := 2, nt := 17, res := [.tmp 4], body :=
(.seq (.reg 0 [⟨some 4, .mv (.c (.bool false)), none, 0, false, []⟩])
(.seq (.reg 2 [⟨some 5, .mv (.t 0), none, 0, false, []⟩,
⟨some 6, .call .iso (.c (.fn 74 [] [])) [(.t 5)], none, 0, false, []⟩,
⟨some 7, .mv (.t 6), none, 1, false, []⟩,
⟨some 8, .mv (.t 1), (some (7, true)), 1, false, []⟩,
⟨some 9, .call .iso (.c (.fn 74 [] [])) [(.t 8)], (some (7, true)), 1, false, []⟩,
⟨some 10, .un .not (.t 9), (some (7, true)), 2, false, []⟩,
⟨some 11, .pick (.t 7) (.t 10) (.c (.bool false)), none, 2, false, []⟩,
⟨some 12, .mv (.t 11), none, 2, false, []⟩,
⟨some 13, .mv (.t 0), (some (12, false)), 2, false, []⟩,
⟨some 14, .mv (.t 1), (some (12, false)), 2, false, []⟩,
⟨some 15, .bin .lss (.t 13) (.t 14), (some (12, false)), 2, false, []⟩,
⟨some 16, .pick (.t 12) (.c (.bool true)) (.t 15), none, 2, false, []⟩,
⟨some 4, .mv (.t 16), none, 2, false, []⟩])
.ret)) }
def Yem : AC :=
(.seq (.seq (.reg 0 [⟨some 94, .mv (.t 11), none, 0, false, []⟩,
⟨some 95, .mv (.t 4), none, 0, false, []⟩,
⟨some 96, .mv (.t 10), none, 0, false, []⟩,
⟨some 97, .iad 1 (.t 95) (.t 96), none, 0, false, []⟩,
⟨some 98, .ld 1 false (.t 97), none, 0, false, []⟩,
⟨some 99, .len 0 (.t 98), none, 0, false, []⟩,
⟨some 100, .bin .lss (.t 94) (.t 99), none, 0, false, []⟩])
(.cond (.t 100)
.skip
(.exit 2)))
(.seq (.block 3 (.seq (.regd [[], [], [], [1, 2], [1, 2, 3], [], [1, 2, 3, 4, 5], [0, 1, 2, 3, 4, 5, 6], [0, 1, 2, 3, 4, 5, 6, 7]] 1 [⟨some 103, .ld 3 true (.t 3), none, 0, false, []⟩,
⟨some 104, .mv (.t 4), none, 0, false, []⟩,
⟨some 105, .mv (.t 10), none, 0, false, []⟩,
⟨some 106, .iad 1 (.t 104) (.t 105), none, 0, false, []⟩,
⟨some 107, .ld 1 false (.t 106), none, 0, false, []⟩,
⟨some 108, .mv (.t 11), none, 0, false, []⟩,
⟨some 109, .slc 1 (.t 107) none (some (.t 108)) none, none, 0, false, []⟩,
⟨some 110, .call .iso (.c (.fn 21 [] [])) [(.t 103), (.c (.int .i64 0)), (.t 109)], none, 0, false, []⟩,
⟨some 12, .mv (.t 110), none, 1, false, []⟩])
(.seq (.regd [[], [0], [0, 1], [0, 1, 2], [0, 1, 2], [0, 1, 2, 3, 4], [0, 1, 2, 3, 4, 5], [0, 1, 2], [0, 1, 2], [0, 1, 2, 7, 8], [0, 1, 2, 7, 8, 9], [0, 1, 2], [0, 1, 2, 7, 8, 9, 10, 11], [0, 1, 2, 3, 4, 5, 6, 7, 8, 9, 10, 11, 12], [0, 1, 2, 3, 4, 5, 6, 7, 8, 9, 10, 11, 12, 13], [0, 1, 2, 3, 4, 5, 6, 7, 8, 9, 10, 11, 12, 13, 14]] 1 [⟨some 111, .mv (.t 12), none, 0, false, []⟩,
⟨some 112, .bin .lss (.t 111) (.c (.int .i64 0)), none, 0, false, []⟩,
⟨some 113, .mv (.t 112), none, 0, false, []⟩,
⟨some 114, .mv (.t 4), (some (113, false)), 0, false, []⟩,
⟨some 115, .mv (.t 12), (some (113, false)), 0, false, []⟩,
⟨some 116, .iad 1 (.t 114) (.t 115), (some (113, false)), 0, false, []⟩,
⟨some 117, .ld 1 false (.t 116), (some (113, false)), 0, false, []⟩,
⟨some 118, .mv (.t 4), (some (113, false)), 0, false, []⟩,
⟨some 119, .mv (.t 10), (some (113, false)), 0, false, []⟩,
⟨some 120, .iad 1 (.t 118) (.t 119), (some (113, false)), 0, false, []⟩,
⟨some 121, .ld 1 false (.t 120), (some (113, false)), 0, false, []⟩,
⟨some 122, .mv (.t 11), (some (113, false)), 0, false, []⟩,
⟨some 123, .slc 1 (.t 121) none (some (.t 122)) none, (some (113, false)), 0, false, []⟩,
⟨some 124, .call .iso (.c (.fn 15 [] [])) [(.t 117), (.t 123)], (some (113, false)), 0, false, []⟩,
⟨some 125, .un .not (.t 124), (some (113, false)), 1, false, []⟩,
⟨some 126, .pick (.t 113) (.c (.bool true)) (.t 125), none, 1, false, []⟩])
(.cond (.t 126)
(.seq (.reg 0 [⟨some 2, .mv (.c (.bool false)), none, 0, false, []⟩])
.ret)
.skip))))
(.reg 0 [⟨some 101, .mv (.t 11), none, 0, false, []⟩,
⟨some 102, .bin .add (.t 101) (.c (.int .i64 1)), none, 0, false, []⟩,
⟨some 11, .mv (.t 102), none, 0, false, []⟩])))
def Yew : AC :=
(.seq (.seq (.reg 0 [⟨some 58, .mv (.t 10), none, 0, false, []⟩,
⟨some 59, .mv (.t 4), none, 0, false, []⟩,
⟨some 60, .len 0 (.t 59), none, 0, false, []⟩,
⟨some 61, .bin .lss (.t 58) (.t 60), none, 0, false, []⟩])
(.cond (.t 61)
.skip
(.exit 0)))
(.seq (.block 1 (.seq (.seq (.regd [[], [], [0, 1], [0, 1, 2], [], [], [4, 5], [4, 5, 6], [0, 1, 2, 3, 4, 5, 6, 7], [0, 1, 2, 3, 4, 5, 6, 7, 8], [0, 1, 2, 3, 4, 5, 6, 7, 8, 9], [0, 1, 2, 3, 4, 5, 6, 7, 8, 9], [0, 1, 2, 3, 4, 5, 6, 7, 8, 9, 10, 11], [0, 1, 2, 3, 4, 5, 6, 7, 8, 9, 10, 11, 12], [0, 1, 2, 3, 4, 5, 6, 7, 8, 9], [0, 1, 2, 3, 4, 5, 6, 7, 8, 9], [0, 1, 2, 3, 4, 5, 6, 7, 8, 9, 14, 15], [0, 1, 2, 3, 4, 5, 6, 7, 8, 9, 14, 15, 16], [0, 1, 2, 3, 4, 5, 6, 7, 8, 9, 10, 11, 12, 13, 14, 15, 16, 17], [0, 1, 2, 3, 4, 5, 6, 7, 8, 9, 10, 11, 12, 13, 14, 15, 16, 17, 18], [0, 1, 2, 3, 4, 5, 6, 7, 8, 9, 10, 11, 12, 13, 14, 15, 16, 17, 18, 19]] 1 [⟨some 64, .mv (.t 5), none, 0, false, []⟩,
⟨some 65, .mv (.t 10), none, 0, false, []⟩,
⟨some 66, .iad 1 (.t 64) (.t 65), none, 0, false, []⟩,
⟨some 67, .ld 1 false (.t 66), none, 0, false, []⟩,
⟨some 68, .mv (.t 8), none, 0, false, []⟩,
⟨some 69, .mv (.t 10), none, 0, false, []⟩,
⟨some 70, .iad 1 (.t 68) (.t 69), none, 0, false, []⟩,
⟨some 71, .ld 1 false (.t 70), none, 0, false, []⟩,
⟨some 72, .eqb true false [.b] (.t 67) (.t 71), none, 0, false, []⟩,
⟨some 73, .mv (.t 72), none, 0, false, []⟩,
⟨some 74, .mv (.t 4), (some (73, false)), 0, false, []⟩,
⟨some 75, .mv (.t 10), (some (73, false)), 0, false, []⟩,
⟨some 76, .iad 1 (.t 74) (.t 75), (some (73, false)), 0, false, []⟩,
⟨some 77, .ld 1 false (.t 76), (some (73, false)), 0, false, []⟩,
⟨some 78, .mv (.t 7), (some (73, false)), 0, false, []⟩,
⟨some 79, .mv (.t 10), (some (73, false)), 0, false, []⟩,
⟨some 80, .iad 1 (.t 78) (.t 79), (some (73, false)), 0, false, []⟩,
⟨some 81, .ld 1 false (.t 80), (some (73, false)), 0, false, []⟩,
⟨some 82, .call .iso (.c (.fn 8 [] [])) [(.t 77), (.c (.int .i64 0)), (.t 81), (.c (.int .i64 0))], (some (73, false)), 0, false, []⟩,
⟨some 83, .un .not (.t 82), (some (73, false)), 1, false, []⟩,
⟨some 84, .pick (.t 73) (.c (.bool true)) (.t 83), none, 1, false, []⟩])
(.cond (.t 84)
(.seq (.reg 0 [⟨some 2, .mv (.c (.bool false)), none, 0, false, []⟩])
.ret)
.skip))
(.seq (.seq (.reg 0 [⟨some 85, .mv (.t 5), none, 0, false, []⟩,
⟨some 86, .mv (.t 10), none, 0, false, []⟩,
⟨some 87, .iad 1 (.t 85) (.t 86), none, 0, false, []⟩,
⟨some 88, .ld 1 false (.t 87), none, 0, false, []⟩,
⟨some 89, .un .not (.t 88), none, 0, false, []⟩])
(.cond (.t 89)
(.exit 1)
.skip))
(.seq (.reg 2 [⟨some 90, .mv (.t 9), none, 0, false, []⟩,
⟨some 91, .mv (.t 10), none, 0, false, []⟩,
⟨some 92, .bsl 1 1 [.int .i64 0] [(0, 1, (.t 91))], none, 0, false, []⟩,
⟨some 93, .app 1 8 (.t 90) (.t 92), none, 1, false, []⟩,
⟨some 9, .mv (.t 93), none, 2, false, []⟩])
(.seq (.reg 0 [⟨some 11, .mv (.c (.int .i64 0)), none, 0, false, []⟩])
(.block 2 (.loop false Yem)))))))
(.reg 0 [⟨some 62, .mv (.t 10), none, 0, false, []⟩,
⟨some 63, .bin .add (.t 62) (.c (.int .i64 1)), none, 0, false, []⟩,
⟨some 10, .mv (.t 63), none, 0, false, []⟩])))
def c78 : AFun :=
{ keep := true, np := 1, nt := 139, res := [.tmp 2], body :=
(.seq (.reg 1 [⟨some 1, .box (.t 0), none, 0, false, []⟩,
⟨some 2, .mv (.c (.bool false)), none, 1, false, []⟩])
(.seq (.reg 2 [⟨some 15, .ld 5 true (.t 1), none, 0, false, []⟩,
⟨some 16, .call .iso (.c (.fn 2 [] [])) [(.t 15)], none, 0, true, []⟩,
⟨some 3, .alloc [.int .i64 0, .int .i64 0, .nils], none, 1, false, []⟩,
⟨none, .st 3 (.t 3) (.t 16), none, 2, false, []⟩])
(.seq (.reg 1 [⟨some 18, .ld 3 true (.t 3), none, 0, false, []⟩,
⟨some 19, .call .iso (.c (.fn 3 [] [])) [(.t 18)], none, 0, true, []⟩,
⟨some 17, .mv (.t 19), none, 1, false, []⟩,
⟨some 20, .ext (.t 17) 0, none, 1, false, []⟩,
⟨some 21, .ext (.t 17) 1, none, 1, false, []⟩,
⟨some 22, .ext (.t 17) 2, none, 1, false, []⟩,
⟨some 4, .mv (.t 20), none, 1, false, []⟩,
⟨some 5, .mv (.t 21), none, 1, false, []⟩,
⟨some 6, .mv (.t 22), none, 1, false, []⟩])
(.seq (.reg 1 [⟨some 24, .ld 3 true (.t 3), none, 0, false, []⟩,
⟨some 25, .call .iso (.c (.fn 4 [] [])) [(.t 24)], none, 0, true, []⟩,
⟨some 23, .mv (.t 25), none, 1, false, []⟩,
⟨some 26, .ext (.t 23) 0, none, 1, false, []⟩,
⟨some 27, .ext (.t 23) 1, none, 1, false, []⟩,
⟨some 7, .mv (.t 26), none, 1, false, []⟩,
⟨some 8, .mv (.t 27), none, 1, false, []⟩])
(.seq (.seq (.reg 0 [⟨some 28, .mv (.t 6), none, 0, false, []⟩,
⟨some 29, .bin .neq (.t 28) (.c (.int .i64 0)), none, 0, false, []⟩,
⟨some 30, .mv (.t 29), none, 0, false, []⟩,
⟨some 31, .mv (.t 4), (some (30, false)), 0, false, []⟩,
⟨some 32, .len 0 (.t 31), (some (30, false)), 0, false, []⟩,
⟨some 33, .mv (.t 7), (some (30, false)), 0, false, []⟩,
⟨some 34, .len 0 (.t 33), (some (30, false)), 0, false, []⟩,
⟨some 35, .bin .neq (.t 32) (.t 34), (some (30, false)), 0, false, []⟩,
⟨some 36, .pick (.t 30) (.c (.bool true)) (.t 35), none, 0, false, []⟩,
⟨some 37, .mv (.t 36), none, 0, false, []⟩,
⟨some 38, .mv (.t 5), (some (37, false)), 0, false, []⟩,
⟨some 39, .len 0 (.t 38), (some (37, false)), 0, false, []⟩,
⟨some 40, .mv (.t 8), (some (37, false)), 0, false, []⟩,
⟨some 41, .len 0 (.t 40), (some (37, false)), 0, false, []⟩,
⟨some 42, .bin .neq (.t 39) (.t 41), (some (37, false)), 0, false, []⟩,
⟨some 43, .pick (.t 37) (.c (.bool true)) (.t 42), none, 0, false, []⟩,
⟨some 44, .mv (.t 43), none, 0, false, []⟩,
⟨some 45, .mv (.t 4), (some (44, false)), 0, false, []⟩,
⟨some 46, .cap (.t 45), (some (44, false)), 0, false, []⟩,
⟨some 47, .mv (.t 4), (some (44, false)), 0, false, []⟩,
⟨some 48, .len 0 (.t 47), (some (44, false)), 0, false, []⟩,
⟨some 49, .bin .neq (.t 46) (.t 48), (some (44, false)), 0, false, []⟩,
⟨some 50, .pick (.t 44) (.c (.bool true)) (.t 49), none, 0, false, []⟩,
⟨some 51, .mv (.t 50), none, 0, false, []⟩,
⟨some 52, .mv (.t 5), (some (51, false)), 0, false, []⟩,
⟨some 53, .cap (.t 52), (some (51, false)), 0, false, []⟩,
⟨some 54, .mv (.t 5), (some (51, false)), 0, false, []⟩,
⟨some 55, .len 0 (.t 54), (some (51, false)), 0, false, []⟩,
⟨some 56, .bin .neq (.t 53) (.t 55), (some (51, false)), 0, false, []⟩,
⟨some 57, .pick (.t 51) (.c (.bool true)) (.t 56), none, 0, false, []⟩])
(.cond (.t 57)
(.seq (.reg 0 [⟨some 2, .mv (.c (.bool false)), none, 0, false, []⟩])
.ret)
.skip))
(.seq (.reg 1 [⟨some 9, .mv (.c (.nils)), none, 0, false, [(0, 1)]⟩])
(.seq (.seq (.reg 0 [⟨some 10, .mv (.c (.int .i64 0)), none, 0, false, []⟩])
(.block 0 (.loop false Yew)))
(.seq (.reg 1 [⟨some 128, .ld 3 true (.t 3), none, 0, false, []⟩,
⟨some 129, .call .iso (.c (.fn 27 [] [])) [(.t 128)], none, 0, true, []⟩,
⟨some 127, .mv (.t 129), none, 1, false, []⟩,
⟨some 130, .ext (.t 127) 0, none, 1, false, []⟩,
⟨some 131, .ext (.t 127) 1, none, 1, false, []⟩,
⟨some 13, .mv (.t 130), none, 1, false, []⟩,
⟨some 14, .mv (.t 131), none, 1, false, []⟩])
(.seq (.reg 2 [⟨some 132, .mv (.t 13), none, 0, false, []⟩,
⟨some 133, .mv (.t 14), none, 0, false, []⟩,
⟨some 134, .mv (.t 9), none, 0, false, []⟩,
⟨some 135, .call .iso (.c (.fn 8 [] [])) [(.t 132), (.t 133), (.t 134), (.c (.int .i64 0))], none, 0, false, []⟩,
⟨some 136, .mv (.t 135), none, 1, false, []⟩,
⟨some 137, .call .iso (.c (.fn 30 [] [])) [], (some (136, true)), 1, false, []⟩,
⟨some 138, .pick (.t 136) (.t 137) (.c (.bool false)), none, 2, false, []⟩,
⟨some 2, .mv (.t 138), none, 2, false, []⟩])
.ret))))))))) }
def Zzv : AC :=
(.seq (.seq (.reg 0 [⟨some 110, .mv (.t 19), none, 0, false, []⟩,
⟨some 111, .fad 0 (.t 7), none, 0, false, []⟩,
⟨some 112, .ld 1 false (.t 111), none, 0, false, []⟩,
⟨some 113, .bin .lss (.t 110) (.t 112), none, 0, false, []⟩])
(.cond (.t 113)
.skip
(.exit 2)))
(.seq (.block 3 (.seq (.reg 0 [⟨some 116, .fad 2 (.t 7), none, 0, false, []⟩,
⟨some 117, .ld 1 false (.t 116), none, 0, false, []⟩,
⟨some 118, .mv (.t 17), none, 0, false, []⟩,
⟨some 119, .iad 1 (.t 117) (.t 118), none, 0, false, []⟩,
⟨some 120, .ld 1 false (.t 119), none, 0, false, []⟩,
⟨some 121, .mv (.t 19), none, 0, false, []⟩,
⟨some 122, .iad 2 (.t 120) (.t 121), none, 0, false, []⟩,
⟨some 123, .fad 0 (.t 122), none, 0, false, []⟩,
⟨some 124, .ld 1 false (.t 123), none, 0, false, []⟩,
⟨some 20, .mv (.t 124), none, 0, false, []⟩])
(.seq (.regd [[], [], [0, 1], [0, 1, 2], [0, 1, 2, 3], [0, 1, 2, 3, 4], [0, 1, 2, 3, 4, 5], [0, 1, 2, 3, 4, 5, 6], [0, 1, 2, 3, 4, 5, 6, 7], [0, 1, 2, 3, 4, 5, 6, 7, 8], [0, 1, 2, 3, 4, 5, 6, 7, 8, 9], [0, 1, 2, 3, 4, 5, 6, 7, 8, 9], [0, 1, 2, 3, 4, 5, 6, 7, 8, 9, 10, 11], [0, 1, 2, 3, 4, 5, 6, 7, 8, 9, 10, 11, 12], [0, 1, 2, 3, 4, 5, 6, 7, 8, 9, 10, 11, 12, 13], [0, 1, 2, 3, 4, 5, 6, 7, 8, 9, 10, 11, 12, 13, 14], [0, 1, 2, 3, 4, 5, 6, 7, 8, 9, 10, 11, 12, 13, 14, 15], [0, 1, 2, 3, 4, 5, 6, 7, 8, 9, 10, 11, 12, 13, 14, 15], [0, 1, 2, 3, 4, 5, 6, 7, 8, 9, 10, 11, 12, 13, 14, 15, 16, 17], [0, 1, 2, 3, 4, 5, 6, 7, 8, 9, 10, 11, 12, 13, 14, 15, 16, 17, 18], [0, 1, 2, 3, 4, 5, 6, 7, 8, 9, 10, 11, 12, 13, 14, 15], [0, 1, 2, 3, 4, 5, 6, 7, 8, 9, 10, 11, 12, 13, 14, 15], [0, 1, 2, 3, 4, 5, 6, 7, 8, 9, 10, 11, 12, 13, 14, 15, 20, 21], [0, 1, 2, 3, 4, 5, 6, 7, 8, 9, 10, 11, 12, 13, 14, 15, 20, 21, 22], [0, 1, 2, 3, 4, 5, 6, 7, 8, 9, 10, 11, 12, 13, 14, 15, 20, 21, 22, 23], [0, 1, 2, 3, 4, 5, 6, 7, 8, 9, 10, 11, 12, 13, 14, 15, 16, 17, 18, 19, 20, 21, 22, 23, 24], [0, 1, 2, 3, 4, 5, 6, 7, 8, 9, 10, 11, 12, 13, 14, 15, 16, 17, 18, 19, 20, 21, 22, 23, 24, 25], [0, 1, 2, 3, 4, 5, 6, 7, 8, 9, 10, 11, 12, 13, 14, 15, 16, 17, 18, 19, 20, 21, 22, 23, 24, 25, 26]] 0 [⟨some 125, .mv (.t 13), none, 0, false, []⟩,
⟨some 126, .mv (.t 17), none, 0, false, []⟩,
⟨some 127, .iad 1 (.t 125) (.t 126), none, 0, false, []⟩,
⟨some 128, .ld 1 false (.t 127), none, 0, false, []⟩,
⟨some 129, .bin .geq (.t 128) (.c (.int .i64 0)), none, 0, false, []⟩,
⟨some 130, .mv (.t 129), none, 0, false, []⟩,
⟨some 131, .mv (.t 20), (some (130, true)), 0, false, []⟩,
⟨some 132, .bin .geq (.t 131) (.c (.int .i64 0)), (some (130, true)), 0, false, []⟩,
⟨some 133, .pick (.t 130) (.t 132) (.c (.bool false)), none, 0, false, []⟩,
⟨some 134, .mv (.t 133), none, 0, false, []⟩,
⟨some 135, .mv (.t 13), (some (134, true)), 0, false, []⟩,
⟨some 136, .mv (.t 20), (some (134, true)), 0, false, []⟩,
⟨some 137, .iad 1 (.t 135) (.t 136), (some (134, true)), 0, false, []⟩,
⟨some 138, .ld 1 false (.t 137), (some (134, true)), 0, false, []⟩,
⟨some 139, .bin .lss (.t 138) (.c (.int .i64 0)), (some (134, true)), 0, false, []⟩,
⟨some 140, .mv (.t 139), (some (134, true)), 0, false, []⟩,
⟨some 141, .mv (.t 13), (some (140, false)), 0, false, []⟩,
⟨some 142, .mv (.t 20), (some (140, false)), 0, false, []⟩,
⟨some 143, .iad 1 (.t 141) (.t 142), (some (140, false)), 0, false, []⟩,
⟨some 144, .ld 1 false (.t 143), (some (140, false)), 0, false, []⟩,
⟨some 145, .mv (.t 13), (some (140, false)), 0, false, []⟩,
⟨some 146, .mv (.t 17), (some (140, false)), 0, false, []⟩,
⟨some 147, .iad 1 (.t 145) (.t 146), (some (140, false)), 0, false, []⟩,
⟨some 148, .ld 1 false (.t 147), (some (140, false)), 0, false, []⟩,
⟨some 149, .bin .add (.t 148) (.c (.int .i64 1)), (some (140, false)), 0, false, []⟩,
⟨some 150, .bin .gtr (.t 144) (.t 149), (some (140, false)), 0, false, []⟩,
⟨some 151, .pick (.t 140) (.c (.bool true)) (.t 150), (some (134, true)), 0, false, []⟩,
⟨some 152, .pick (.t 134) (.t 151) (.c (.bool false)), none, 0, false, []⟩])
(.cond (.t 152)
(.seq (.reg 0 [⟨some 6, .mv (.c (.bool false)), none, 0, false, []⟩])
.ret)
.skip))))
(.reg 0 [⟨some 114, .mv (.t 19), none, 0, false, []⟩,
⟨some 115, .bin .add (.t 114) (.c (.int .i64 1)), none, 0, false, []⟩,
⟨some 19, .mv (.t 115), none, 0, false, []⟩])))
def Yby : AC :=
(.seq (.seq (.reg 0 [⟨some 89, .mv (.t 17), none, 0, false, []⟩,
⟨some 90, .mv (.t 15), none, 0, false, []⟩,
⟨some 91, .len 0 (.t 90), none, 0, false, []⟩,
⟨some 92, .bin .lss (.t 89) (.t 91), none, 0, false, []⟩])
(.cond (.t 92)
.skip
(.exit 0)))
(.seq (.block 1 (.seq (.reg 0 [⟨some 18, .mv (.c (.int .i64 (-1))), none, 0, false, []⟩])
(.seq (.seq (.reg 0 [⟨some 95, .mv (.t 16), none, 0, false, []⟩,
⟨some 96, .mv (.t 17), none, 0, false, []⟩,
⟨some 97, .iad 1 (.t 95) (.t 96), none, 0, false, []⟩,
⟨some 98, .ld 1 false (.t 97), none, 0, false, []⟩])
(.cond (.t 98)
(.reg 0 [⟨some 99, .mv (.t 15), none, 0, false, []⟩,
⟨some 100, .mv (.t 17), none, 0, false, []⟩,
⟨some 101, .iad 1 (.t 99) (.t 100), none, 0, false, []⟩,
⟨some 102, .ld 1 false (.t 101), none, 0, false, []⟩,
⟨some 103, .len 0 (.t 102), none, 0, false, []⟩,
⟨some 18, .mv (.t 103), none, 0, false, []⟩])
.skip))
(.seq (.seq (.reg 0 [⟨some 104, .mv (.t 13), none, 0, false, []⟩,
⟨some 105, .mv (.t 17), none, 0, false, []⟩,
⟨some 106, .iad 1 (.t 104) (.t 105), none, 0, false, []⟩,
⟨some 107, .ld 1 false (.t 106), none, 0, false, []⟩,
⟨some 108, .mv (.t 18), none, 0, false, []⟩,
⟨some 109, .bin .neq (.t 107) (.t 108), none, 0, false, []⟩])
(.cond (.t 109)
(.seq (.reg 0 [⟨some 6, .mv (.c (.bool false)), none, 0, false, []⟩])
.ret)
.skip))
(.seq (.reg 0 [⟨some 19, .mv (.c (.int .i64 0)), none, 0, false, []⟩])
(.block 2 (.loop false Zzv)))))))
(.reg 0 [⟨some 93, .mv (.t 17), none, 0, false, []⟩,
⟨some 94, .bin .add (.t 93) (.c (.int .i64 1)), none, 0, false, []⟩,
⟨some 17, .mv (.t 94), none, 0, false, []⟩])))
def c79 : AFun :=
{ keep := true, np := 3, nt := 154, res := [.tmp 6], body :=
(.seq (.reg 1 [⟨some 3, .box (.t 0), none, 0, false, []⟩,
⟨some 6, .mv (.c (.bool false)), none, 1, false, []⟩])
(.seq (.reg 2 [⟨some 21, .ld 5 true (.t 3), none, 0, false, []⟩,
⟨some 22, .call .iso (.c (.fn 2 [] [])) [(.t 21)], none, 0, true, []⟩,
⟨some 7, .alloc [.int .i64 0, .int .i64 0, .nils], none, 1, false, []⟩,
⟨none, .st 3 (.t 7) (.t 22), none, 2, false, []⟩])
(.seq (.regd [[], [0], [], [2], [2, 3], [0, 1, 2, 3, 4], [], [6], [], [8], [8, 9], [6, 7, 8, 9, 10], [0, 1, 2, 3, 4, 5], [0, 1, 2, 3, 4, 5, 6, 7, 8, 9, 10, 11, 12]] 0 [⟨some 23, .mv (.t 1), none, 0, false, []⟩,
⟨some 24, .conv .i64 (.t 23), none, 0, false, []⟩,
⟨some 25, .fad 2 (.t 7), none, 0, false, []⟩,
⟨some 26, .ld 1 false (.t 25), none, 0, false, []⟩,
⟨some 27, .len 0 (.t 26), none, 0, false, []⟩,
⟨some 28, .bin .rem (.t 24) (.t 27), none, 0, false, []⟩,
⟨some 29, .mv (.t 2), none, 0, false, []⟩,
⟨some 30, .conv .i64 (.t 29), none, 0, false, []⟩,
⟨some 31, .fad 2 (.t 7), none, 0, false, []⟩,
⟨some 32, .ld 1 false (.t 31), none, 0, false, []⟩,
⟨some 33, .len 0 (.t 32), none, 0, false, []⟩,
⟨some 34, .bin .rem (.t 30) (.t 33), none, 0, false, []⟩,
⟨some 8, .mv (.t 28), none, 0, false, []⟩,
⟨some 9, .mv (.t 34), none, 0, false, []⟩])
(.seq (.reg 1 [⟨some 36, .ld 3 true (.t 7), none, 0, false, []⟩,
⟨some 37, .mv (.t 8), none, 0, false, []⟩,
⟨some 38, .mv (.t 9), none, 0, false, []⟩,
⟨some 39, .call .iso (.c (.fn 5 [] [])) [(.t 36), (.t 37), (.t 38)], none, 0, true, []⟩,
⟨some 35, .mv (.t 39), none, 1, false, []⟩,
⟨some 40, .ext (.t 35) 0, none, 1, false, []⟩,
⟨some 41, .ext (.t 35) 1, none, 1, false, []⟩,
⟨some 42, .ext (.t 35) 2, none, 1, false, []⟩,
⟨some 10, .mv (.t 40), none, 1, false, []⟩,
⟨some 11, .mv (.t 41), none, 1, false, []⟩,
⟨some 12, .mv (.t 42), none, 1, false, []⟩])
(.seq (.reg 1 [⟨some 44, .ld 3 true (.t 7), none, 0, false, []⟩,
⟨some 45, .mv (.t 8), none, 0, false, []⟩,
⟨some 46, .call .iso (.c (.fn 6 [] [])) [(.t 44), (.t 45)], none, 0, true, []⟩,
⟨some 43, .mv (.t 46), none, 1, false, []⟩,
⟨some 47, .ext (.t 43) 0, none, 1, false, []⟩,
⟨some 48, .ext (.t 43) 1, none, 1, false, []⟩,
⟨some 13, .mv (.t 47), none, 1, false, []⟩,
⟨some 14, .mv (.t 48), none, 1, false, []⟩])
(.seq (.reg 1 [⟨some 50, .ld 3 true (.t 7), none, 0, false, []⟩,
⟨some 51, .mv (.t 8), none, 0, false, []⟩,
⟨some 52, .call .iso (.c (.fn 7 [] [])) [(.t 50), (.t 51)], none, 0, true, []⟩,
⟨some 49, .mv (.t 52), none, 1, false, []⟩,
⟨some 53, .ext (.t 49) 0, none, 1, false, []⟩,
⟨some 54, .ext (.t 49) 1, none, 1, false, []⟩,
⟨some 15, .mv (.t 53), none, 1, false, []⟩,
⟨some 16, .mv (.t 54), none, 1, false, []⟩])
(.seq (.seq (.reg 1 [⟨some 55, .mv (.t 10), none, 0, false, []⟩,
⟨some 56, .mv (.t 12), none, 0, false, []⟩,
⟨some 57, .mv (.t 15), none, 0, false, []⟩,
⟨some 58, .mv (.t 9), none, 0, false, []⟩,
⟨some 59, .iad 1 (.t 57) (.t 58), none, 0, false, []⟩,
⟨some 60, .ld 1 false (.t 59), none, 0, false, []⟩,
⟨some 61, .call .iso (.c (.fn 8 [] [])) [(.t 55), (.t 56), (.t 60), (.c (.int .i64 0))], none, 0, false, []⟩,
⟨some 62, .un .not (.t 61), none, 1, false, []⟩,
⟨some 63, .mv (.t 62), none, 1, false, []⟩,
⟨some 64, .mv (.t 11), (some (63, false)), 1, false, []⟩,
⟨some 65, .mv (.t 16), (some (63, false)), 1, false, []⟩,
⟨some 66, .mv (.t 9), (some (63, false)), 1, false, []⟩,
⟨some 67, .iad 1 (.t 65) (.t 66), (some (63, false)), 1, false, []⟩,
⟨some 68, .ld 1 false (.t 67), (some (63, false)), 1, false, []⟩,
⟨some 69, .eqb true false [.b] (.t 64) (.t 68), (some (63, false)), 1, false, []⟩,
⟨some 70, .pick (.t 63) (.c (.bool true)) (.t 69), none, 1, false, []⟩,
⟨some 71, .mv (.t 70), none, 1, false, []⟩,
⟨some 72, .mv (.t 14), (some (71, false)), 1, false, []⟩,
⟨some 73, .bin .neq (.t 72) (.c (.int .i64 0)), (some (71, false)), 1, false, []⟩,
⟨some 74, .pick (.t 71) (.c (.bool true)) (.t 73), none, 1, false, []⟩,
⟨some 75, .mv (.t 74), none, 1, false, []⟩,
⟨some 76, .mv (.t 13), (some (75, false)), 1, false, []⟩,
⟨some 77, .len 0 (.t 76), (some (75, false)), 1, false, []⟩,
⟨some 78, .mv (.t 15), (some (75, false)), 1, false, []⟩,
⟨some 79, .len 0 (.t 78), (some (75, false)), 1, false, []⟩,
⟨some 80, .bin .neq (.t 77) (.t 79), (some (75, false)), 1, false, []⟩,
⟨some 81, .pick (.t 75) (.c (.bool true)) (.t 80), none, 1, false, []⟩,
⟨some 82, .mv (.t 81), none, 1, false, []⟩,
⟨some 83, .mv (.t 13), (some (82, false)), 1, false, []⟩,
⟨some 84, .cap (.t 83), (some (82, false)), 1, false, []⟩,
⟨some 85, .mv (.t 13), (some (82, false)), 1, false, []⟩,
⟨some 86, .len 0 (.t 85), (some (82, false)), 1, false, []⟩,
⟨some 87, .bin .neq (.t 84) (.t 86), (some (82, false)), 1, false, []⟩,
⟨some 88, .pick (.t 82) (.c (.bool true)) (.t 87), none, 1, false, []⟩])
(.cond (.t 88)
(.seq (.reg 0 [⟨some 6, .mv (.c (.bool false)), none, 0, false, []⟩])
.ret)
.skip))
(.seq (.seq (.reg 0 [⟨some 17, .mv (.c (.int .i64 0)), none, 0, false, []⟩])
(.block 0 (.loop false Yby)))
(.seq (.reg 1 [⟨some 153, .call .iso (.c (.fn 30 [] [])) [], none, 0, false, []⟩,
⟨some 6, .mv (.t 153), none, 1, false, []⟩])
.ret))))))))) }
def Yds : AC :=
(.seq (.seq (.reg 0 [⟨some 7, .mv (.t 4), none, 0, false, []⟩,
⟨some 8, .mv (.t 3), none, 0, false, []⟩,
⟨some 9, .len 0 (.t 8), none, 0, false, []⟩,
⟨some 10, .bin .lss (.t 7) (.t 9), none, 0, false, []⟩])
(.cond (.t 10)
.skip
(.exit 0)))
(.seq (.block 1 (.seq (.reg 0 [⟨some 13, .mv (.t 3), none, 0, false, []⟩,
⟨some 14, .mv (.t 4), none, 0, false, []⟩,
⟨some 15, .iad 1 (.t 13) (.t 14), none, 0, false, []⟩,
⟨some 16, .ld 1 false (.t 15), none, 0, false, []⟩,
⟨some 17, .un .not (.t 16), none, 0, false, []⟩])
(.cond (.t 17)
(.seq (.reg 0 [⟨some 2, .mv (.c (.bool false)), none, 0, false, []⟩])
.ret)
.skip)))
(.reg 0 [⟨some 11, .mv (.t 4), none, 0, false, []⟩,
⟨some 12, .bin .add (.t 11) (.c (.int .i64 1)), none, 0, false, []⟩,
⟨some 4, .mv (.t 12), none, 0, false, []⟩])))
def c80 : AFun :=
{ keep := true, np := 1, nt := 18, res := [.tmp 2], body :=
(.seq (.reg 1 [⟨some 1, .box (.t 0), none, 0, false, []⟩,
⟨some 2, .mv (.c (.bool false)), none, 1, false, []⟩])
(.seq (.reg 1 [⟨some 5, .ld 3 true (.t 1), none, 0, false, []⟩,
⟨some 6, .call .iso (.c (.fn 33 [] [])) [(.t 5), (.c (.int .i64 0))], none, 0, true, []⟩,
⟨some 3, .mv (.t 6), none, 1, false, []⟩])
(.seq (.seq (.reg 0 [⟨some 4, .mv (.c (.int .i64 0)), none, 0, false, []⟩])
(.block 0 (.loop false Yds)))
(.seq (.reg 0 [⟨some 2, .mv (.c (.bool true)), none, 0, false, []⟩])
.ret)))) }
def Yaw : AC :=
(.seq (.seq (.reg 0 [⟨some 93, .mv (.t 19), none, 0, false, []⟩,
⟨some 94, .mv (.t 17), none, 0, false, []⟩,
⟨some 95, .bin .lss (.t 93) (.t 94), none, 0, false, []⟩])
(.cond (.t 95)
.skip
(.exit 0)))
(.seq (.block 1 (.reg 2 [⟨some 98, .mv (.t 18), none, 0, false, []⟩,
⟨some 99, .mv (.t 19), none, 0, false, []⟩,
⟨some 100, .bsl 1 1 [.int .i64 0] [(0, 1, (.t 99))], none, 0, false, []⟩,
⟨some 101, .app 1 8 (.t 98) (.t 100), none, 1, false, []⟩,
⟨some 18, .mv (.t 101), none, 2, false, []⟩]))
(.reg 0 [⟨some 96, .mv (.t 19), none, 0, false, []⟩,
⟨some 97, .bin .add (.t 96) (.c (.int .i64 1)), none, 0, false, []⟩,
⟨some 19, .mv (.t 97), none, 0, false, []⟩])))
def Yek : AC :=
(.seq (.seq (.reg 0 [⟨some 102, .mv (.t 20), none, 0, false, []⟩,
⟨some 103, .bin .add (.t 102) (.c (.int .i64 1)), none, 0, false, []⟩,
⟨some 104, .mv (.t 2), none, 0, false, []⟩,
⟨some 105, .len 0 (.t 104), none, 0, false, []⟩,
⟨some 106, .bin .lss (.t 103) (.t 105), none, 0, false, []⟩,
⟨some 107, .mv (.t 106), none, 0, false, []⟩,
⟨some 108, .mv (.t 20), (some (107, true)), 0, false, []⟩,
⟨some 109, .bin .lss (.t 108) (.c (.int .i64 20)), (some (107, true)), 0, false, []⟩,
⟨some 110, .pick (.t 107) (.t 109) (.c (.bool false)), none, 0, false, []⟩,
⟨some 111, .mv (.t 110), none, 0, false, []⟩,
⟨some 112, .mv (.t 17), (some (111, true)), 0, false, []⟩,
⟨some 113, .bin .gtr (.t 112) (.c (.int .i64 1)), (some (111, true)), 0, false, []⟩,
⟨some 114, .pick (.t 111) (.t 113) (.c (.bool false)), none, 0, false, []⟩])
(.cond (.t 114)
.skip
(.exit 2)))
(.seq (.block 3 (.seq (.regd [[], [], [0, 1], [0, 1, 2], [0, 1, 2, 3], [], [5], [0, 1, 2, 3, 4, 5, 6], [0, 1, 2, 3, 4, 5, 6, 7], [], [], [10], [9, 10, 11], [9, 10, 11, 12], [9, 10, 11, 12, 13], [], [15], [9, 10, 11, 12, 13, 14, 15, 16], [9, 10, 11, 12, 13, 14, 15, 16, 17], [0, 1, 2, 3, 4, 5, 6, 7, 8], [0, 1, 2, 3, 4, 5, 6, 7, 8, 9, 10, 11, 12, 13, 14, 15, 16, 17, 18, 19]] 0 [⟨some 117, .mv (.t 2), none, 0, false, []⟩,
⟨some 118, .mv (.t 20), none, 0, false, []⟩,
⟨some 119, .iad 1 (.t 117) (.t 118), none, 0, false, []⟩,
⟨some 120, .ld 1 false (.t 119), none, 0, false, []⟩,
⟨some 121, .conv .i64 (.t 120), none, 0, false, []⟩,
⟨some 122, .mv (.t 17), none, 0, false, []⟩,
⟨some 123, .bin .sub (.t 122) (.c (.int .i64 1)), none, 0, false, []⟩,
⟨some 124, .bin .rem (.t 121) (.t 123), none, 0, false, []⟩,
⟨some 125, .bin .add (.c (.int .i64 1)) (.t 124), none, 0, false, []⟩,
⟨some 126, .mv (.t 2), none, 0, false, []⟩,
⟨some 127, .mv (.t 20), none, 0, false, []⟩,
⟨some 128, .bin .add (.t 127) (.c (.int .i64 1)), none, 0, false, []⟩,
⟨some 129, .iad 1 (.t 126) (.t 128), none, 0, false, []⟩,
⟨some 130, .ld 1 false (.t 129), none, 0, false, []⟩,
⟨some 131, .conv .i64 (.t 130), none, 0, false, []⟩,
⟨some 132, .mv (.t 17), none, 0, false, []⟩,
⟨some 133, .bin .sub (.t 132) (.c (.int .i64 1)), none, 0, false, []⟩,
⟨some 134, .bin .rem (.t 131) (.t 133), none, 0, false, []⟩,
⟨some 135, .bin .add (.c (.int .i64 1)) (.t 134), none, 0, false, []⟩,
⟨some 21, .mv (.t 125), none, 0, false, []⟩,
⟨some 22, .mv (.t 135), none, 0, false, []⟩])
(.regd [[], [], [], [], [], [], [4, 5], [4, 5, 6], [], [], [8, 9], [8, 9, 10], [0, 1, 4, 5, 6, 7, 8, 9, 10, 11], [0, 1, 4, 5, 6, 7, 8, 9, 10, 11, 12], [0, 1, 2, 3, 4, 5, 6, 7, 8, 9, 10, 11, 12, 13], [0, 1, 2, 3, 4, 5, 6, 7, 8, 9, 10, 11, 12, 13, 14]] 0 [⟨some 136, .mv (.t 18), none, 0, false, []⟩,
⟨some 137, .mv (.t 21), none, 0, false, []⟩,
⟨some 138, .mv (.t 18), none, 0, false, []⟩,
⟨some 139, .mv (.t 22), none, 0, false, []⟩,
⟨some 140, .mv (.t 18), none, 0, false, []⟩,
⟨some 141, .mv (.t 22), none, 0, false, []⟩,
⟨some 142, .iad 1 (.t 140) (.t 141), none, 0, false, []⟩,
⟨some 143, .ld 1 false (.t 142), none, 0, false, []⟩,
⟨some 144, .mv (.t 18), none, 0, false, []⟩,
⟨some 145, .mv (.t 21), none, 0, false, []⟩,
⟨some 146, .iad 1 (.t 144) (.t 145), none, 0, false, []⟩,
⟨some 147, .ld 1 false (.t 146), none, 0, false, []⟩,
⟨some 148, .iad 1 (.t 136) (.t 137), none, 0, false, []⟩,
⟨none, .st 1 (.t 148) (.t 143), none, 0, false, []⟩,
⟨some 149, .iad 1 (.t 138) (.t 139), none, 0, false, []⟩,
⟨none, .st 1 (.t 149) (.t 147), none, 0, false, []⟩])))
(.reg 0 [⟨some 115, .mv (.t 20), none, 0, false, []⟩,
⟨some 116, .bin .add (.t 115) (.c (.int .i64 2)), none, 0, false, []⟩,
⟨some 20, .mv (.t 116), none, 0, false, []⟩])))
def c82 : AFun :=
{ keep := true, np := 3, nt := 165, res := [.tmp 6], body :=
(.seq (.reg 2 [⟨some 3, .box (.t 0), none, 0, false, []⟩,
⟨some 4, .box (.t 1), none, 1, false, []⟩,
⟨some 6, .mv (.c (.bool false)), none, 2, false, []⟩])
(.seq (.reg 2 [⟨some 24, .ld 5 true (.t 3), none, 0, false, []⟩,
⟨some 25, .call .iso (.c (.fn 2 [] [])) [(.t 24)], none, 0, true, []⟩,
⟨some 7, .alloc [.int .i64 0, .int .i64 0, .nils], none, 1, false, []⟩,
⟨none, .st 3 (.t 7) (.t 25), none, 2, false, []⟩])
(.seq (.reg 1 [⟨some 26, .ld 1 true (.t 4), none, 0, false, []⟩,
⟨some 27, .fad 0 (.t 7), none, 0, false, []⟩,
⟨some 28, .ld 1 false (.t 27), none, 0, false, []⟩,
⟨some 29, .call .iso (.c (.fn 9 [] [])) [(.t 26), (.t 28)], none, 0, true, []⟩,
⟨some 8, .mv (.t 29), none, 1, false, []⟩])
(.seq (.reg 2 [⟨some 31, .ld 3 true (.t 7), none, 0, false, []⟩,
⟨some 32, .call .iso (.c (.fn 11 [] [])) [(.t 31)], none, 0, true, []⟩,
⟨some 30, .mv (.t 32), none, 1, false, []⟩,
⟨some 33, .ext (.t 30) 0, none, 1, false, []⟩,
⟨some 34, .ext (.t 30) 1, none, 1, false, []⟩,
⟨some 9, .alloc [.int .i64 0, .int .i64 0, .nils], none, 1, false, []⟩,
⟨none, .st 3 (.t 9) (.t 33), none, 2, false, []⟩,
⟨some 10, .mv (.t 34), none, 2, false, []⟩])
(.seq (.seq (.regd [[], [], [], [2], [0, 1, 2, 3], [0, 1, 2, 3, 4], [0, 1, 2, 3, 4, 5], [0, 1, 2, 3, 4, 5, 6], [0, 1, 2, 3, 4, 5, 6], [0, 1, 2, 3, 4, 5, 6, 7, 8], [0, 1, 2, 3, 4, 5, 6], [0, 1, 2, 3, 4, 5, 6], [0, 1, 2, 3, 4, 5, 6, 7, 8, 9, 10, 11], [0, 1, 2, 3, 4, 5, 6, 7, 8, 9, 10, 11, 12], [0, 1, 2, 3, 4, 5, 6, 7, 8, 9, 10, 11, 12, 13], [0, 1, 2, 3, 4, 5, 6, 7, 8, 9, 10, 11, 12, 13, 14]] 5 [⟨some 35, .ld 3 true (.t 9), none, 0, false, []⟩,
⟨some 36, .mv (.t 10), none, 0, false, []⟩,
⟨some 37, .ld 3 true (.t 7), none, 0, false, []⟩,
⟨some 38, .call .iso (.c (.fn 12 [] [])) [(.t 37)], none, 0, true, []⟩,
⟨some 39, .call .iso (.c (.fn 13 [] [])) [(.t 35), (.t 36), (.t 38)], none, 1, false, []⟩,
⟨some 40, .un .not (.t 39), none, 2, false, []⟩,
⟨some 41, .mv (.t 40), none, 2, false, []⟩,
⟨some 42, .ld 3 true (.t 9), (some (41, false)), 2, false, []⟩,
⟨some 43, .mv (.t 8), (some (41, false)), 2, false, []⟩,
⟨some 44, .call .iso (.c (.fn 14 [] [])) [(.t 42), (.c (.int .i64 0)), (.t 43)], (some (41, false)), 2, true, []⟩,
⟨some 45, .ld 3 true (.t 7), (some (41, false)), 3, false, []⟩,
⟨some 46, .mv (.t 8), (some (41, false)), 3, false, []⟩,
⟨some 47, .call .iso (.c (.fn 14 [] [])) [(.t 45), (.c (.int .i64 0)), (.t 46)], (some (41, false)), 3, true, []⟩,
⟨some 48, .call .iso (.c (.fn 15 [] [])) [(.t 44), (.t 47)], (some (41, false)), 4, false, []⟩,
⟨some 49, .un .not (.t 48), (some (41, false)), 5, false, []⟩,
⟨some 50, .pick (.t 41) (.c (.bool true)) (.t 49), none, 5, false, []⟩])
(.cond (.t 50)
(.seq (.reg 0 [⟨some 6, .mv (.c (.bool false)), none, 0, false, []⟩])
.ret)
.skip))
(.seq (.reg 2 [⟨some 52, .ld 3 true (.t 9), none, 0, false, []⟩,
⟨some 53, .call .iso (.c (.fn 11 [] [])) [(.t 52)], none, 0, true, []⟩,
⟨some 51, .mv (.t 53), none, 1, false, []⟩,
⟨some 54, .ext (.t 51) 0, none, 1, false, []⟩,
⟨some 55, .ext (.t 51) 1, none, 1, false, []⟩,
⟨some 11, .alloc [.int .i64 0, .int .i64 0, .nils], none, 1, false, []⟩,
⟨none, .st 3 (.t 11) (.t 54), none, 2, false, []⟩,
⟨some 12, .mv (.t 55), none, 2, false, []⟩])
(.seq (.reg 1 [⟨some 57, .ld 3 true (.t 7), none, 0, false, []⟩,
⟨some 58, .call .iso (.c (.fn 16 [] [])) [(.t 57)], none, 0, false, []⟩,
⟨some 56, .mv (.t 58), none, 1, false, []⟩,
⟨some 59, .ext (.t 56) 0, none, 1, false, []⟩,
⟨some 60, .ext (.t 56) 1, none, 1, false, []⟩,
⟨some 13, .mv (.t 59), none, 1, false, []⟩,
⟨some 14, .mv (.t 60), none, 1, false, []⟩])
(.seq (.reg 1 [⟨some 62, .ld 3 true (.t 9), none, 0, false, []⟩,
⟨some 63, .call .iso (.c (.fn 16 [] [])) [(.t 62)], none, 0, false, []⟩,
⟨some 61, .mv (.t 63), none, 1, false, []⟩,
⟨some 64, .ext (.t 61) 0, none, 1, false, []⟩,
⟨some 65, .ext (.t 61) 1, none, 1, false, []⟩,
⟨some 15, .mv (.t 64), none, 1, false, []⟩,
⟨some 16, .mv (.t 65), none, 1, false, []⟩])
(.seq (.seq (.reg 2 [⟨some 66, .ld 3 true (.t 11), none, 0, false, []⟩,
⟨some 67, .mv (.t 12), none, 0, false, []⟩,
⟨some 68, .ld 3 true (.t 9), none, 0, false, []⟩,
⟨some 69, .call .iso (.c (.fn 13 [] [])) [(.t 66), (.t 67), (.t 68)], none, 0, false, []⟩,
⟨some 70, .un .not (.t 69), none, 1, false, []⟩,
⟨some 71, .mv (.t 70), none, 1, false, []⟩,
⟨some 72, .mv (.t 14), (some (71, false)), 1, false, []⟩,
⟨some 73, .bin .neq (.t 72) (.c (.int .i64 0)), (some (71, false)), 1, false, []⟩,
⟨some 74, .pick (.t 71) (.c (.bool true)) (.t 73), none, 1, false, []⟩,
⟨some 75, .mv (.t 74), none, 1, false, []⟩,
⟨some 76, .mv (.t 13), (some (75, false)), 1, false, []⟩,
⟨some 77, .ld 3 true (.t 7), (some (75, false)), 1, false, []⟩,
⟨some 78, .ld 3 true (.t 9), (some (75, false)), 1, false, []⟩,
⟨some 79, .call .iso (.c (.fn 17 [] [])) [(.t 77), (.t 78)], (some (75, false)), 1, false, []⟩,
⟨some 80, .eqb true false [.b] (.t 76) (.t 79), (some (75, false)), 2, false, []⟩,
⟨some 81, .pick (.t 75) (.c (.bool true)) (.t 80), none, 2, false, []⟩,
⟨some 82, .mv (.t 81), none, 2, false, []⟩,
⟨some 83, .mv (.t 16), (some (82, false)), 2, false, []⟩,
⟨some 84, .bin .neq (.t 83) (.c (.int .i64 0)), (some (82, false)), 2, false, []⟩,
⟨some 85, .pick (.t 82) (.c (.bool true)) (.t 84), none, 2, false, []⟩,
⟨some 86, .mv (.t 85), none, 2, false, []⟩,
⟨some 87, .mv (.t 15), (some (86, false)), 2, false, []⟩,
⟨some 88, .un .not (.t 87), (some (86, false)), 2, false, []⟩,
⟨some 89, .pick (.t 86) (.c (.bool true)) (.t 88), none, 2, false, []⟩])
(.cond (.t 89)
(.seq (.reg 0 [⟨some 6, .mv (.c (.bool false)), none, 0, false, []⟩])
.ret)
.skip))
(.seq (.reg 0 [⟨some 90, .fad 2 (.t 7), none, 0, false, []⟩,
⟨some 91, .ld 1 false (.t 90), none, 0, false, []⟩,
⟨some 92, .len 0 (.t 91), none, 0, false, []⟩,
⟨some 17, .mv (.t 92), none, 0, false, []⟩])
(.seq (.reg 1 [⟨some 18, .mv (.c (.nils)), none, 0, false, [(0, 1)]⟩])
(.seq (.seq (.reg 0 [⟨some 19, .mv (.c (.int .i64 0)), none, 0, false, []⟩])
(.block 0 (.loop false Yaw)))
(.seq (.seq (.reg 0 [⟨some 20, .mv (.c (.int .i64 0)), none, 0, false, []⟩])
(.block 2 (.loop false Yek)))
(.seq (.reg 2 [⟨some 150, .ld 3 true (.t 7), none, 0, false, []⟩,
⟨some 151, .mv (.t 18), none, 0, false, []⟩,
⟨some 152, .call .iso (.c (.fn 35 [] [])) [(.t 150), (.t 151)], none, 0, true, []⟩,
⟨some 23, .alloc [.int .i64 0, .int .i64 0, .nils], none, 1, false, []⟩,
⟨none, .st 3 (.t 23) (.t 152), none, 2, false, []⟩])
(.seq (.reg 1 [⟨some 154, .ld 3 true (.t 23), none, 0, false, []⟩,
⟨some 155, .call .iso (.c (.fn 11 [] [])) [(.t 154)], none, 0, true, []⟩,
⟨some 153, .mv (.t 155), none, 1, false, []⟩,
⟨some 156, .ext (.t 153) 0, none, 1, false, []⟩,
⟨some 157, .ext (.t 153) 1, none, 1, false, []⟩,
⟨none, .st 3 (.t 11) (.t 156), none, 1, false, []⟩,
⟨some 12, .mv (.t 157), none, 1, false, []⟩])
(.seq (.reg 2 [⟨some 158, .ld 3 true (.t 11), none, 0, false, []⟩,
⟨some 159, .mv (.t 12), none, 0, false, []⟩,
⟨some 160, .ld 3 true (.t 9), none, 0, false, []⟩,
⟨some 161, .call .iso (.c (.fn 13 [] [])) [(.t 158), (.t 159), (.t 160)], none, 0, false, []⟩,
⟨some 162, .mv (.t 161), none, 1, false, []⟩,
⟨some 163, .call .iso (.c (.fn 30 [] [])) [], (some (162, true)), 1, false, []⟩,
⟨some 164, .pick (.t 162) (.t 163) (.c (.bool false)), none, 2, false, []⟩,
⟨some 6, .mv (.t 164), none, 2, false, []⟩])
.ret)))))))))))))))) }
def Ybd : AC :=
(.seq (.seq (.reg 0 [⟨some 35, .mv (.t 10), none, 0, false, []⟩,
⟨some 36, .fad 2 (.t 7), none, 0, false, []⟩,
⟨some 37, .ld 1 false (.t 36), none, 0, false, []⟩,
⟨some 38, .len 0 (.t 37), none, 0, false, []⟩,
⟨some 39, .bin .lss (.t 35) (.t 38), none, 0, false, []⟩])
(.cond (.t 39)
.skip
(.exit 0)))
(.seq (.block 1 (.reg 2 [⟨some 42, .mv (.t 9), none, 0, false, []⟩,
⟨some 43, .mv (.t 10), none, 0, false, []⟩,
⟨some 44, .bsl 1 1 [.int .i64 0] [(0, 1, (.t 43))], none, 0, false, []⟩,
⟨some 45, .app 1 8 (.t 42) (.t 44), none, 1, false, []⟩,
⟨some 9, .mv (.t 45), none, 2, false, []⟩]))
(.reg 0 [⟨some 40, .mv (.t 10), none, 0, false, []⟩,
⟨some 41, .bin .add (.t 40) (.c (.int .i64 1)), none, 0, false, []⟩,
⟨some 10, .mv (.t 41), none, 0, false, []⟩])))
def Ybk : AC :=
(.seq (.seq (.reg 0 [⟨some 123, .mv (.t 19), none, 0, false, []⟩,
⟨some 124, .mv (.t 13), none, 0, false, []⟩,
⟨some 125, .len 0 (.t 124), none, 0, false, []⟩,
⟨some 126, .bin .lss (.t 123) (.t 125), none, 0, false, []⟩])
(.cond (.t 126)
.skip
(.exit 2)))
(.seq (.block 3 (.seq (.reg 0 [⟨some 20, .mv (.c (.int .i64 (-1))), none, 0, false, []⟩])
(.seq (.seq (.reg 0 [⟨some 129, .mv (.t 18), none, 0, false, []⟩,
⟨some 130, .mv (.t 19), none, 0, false, []⟩,
⟨some 131, .iad 1 (.t 129) (.t 130), none, 0, false, []⟩,
⟨some 132, .ld 1 false (.t 131), none, 0, false, []⟩])
(.cond (.t 132)
(.regd [[], [], [], [1, 2], [1, 2, 3], [0, 1, 2, 3, 4], [0, 1, 2, 3, 4, 5]] 1 [⟨some 133, .ld 3 true (.t 8), none, 0, false, []⟩,
⟨some 134, .mv (.t 17), none, 0, false, []⟩,
⟨some 135, .mv (.t 19), none, 0, false, []⟩,
⟨some 136, .iad 1 (.t 134) (.t 135), none, 0, false, []⟩,
⟨some 137, .ld 1 false (.t 136), none, 0, false, []⟩,
⟨some 138, .call .iso (.c (.fn 21 [] [])) [(.t 133), (.c (.int .i64 0)), (.t 137)], none, 0, false, []⟩,
⟨some 20, .mv (.t 138), none, 1, false, []⟩])
.skip))
(.seq (.reg 0 [⟨some 139, .mv (.t 13), none, 0, false, []⟩,
⟨some 140, .mv (.t 19), none, 0, false, []⟩,
⟨some 141, .iad 1 (.t 139) (.t 140), none, 0, false, []⟩,
⟨some 142, .ld 1 false (.t 141), none, 0, false, []⟩,
⟨some 143, .mv (.t 20), none, 0, false, []⟩,
⟨some 144, .bin .neq (.t 142) (.t 143), none, 0, false, []⟩])
(.cond (.t 144)
(.seq (.reg 0 [⟨some 6, .mv (.c (.bool false)), none, 0, false, []⟩])
.ret)
.skip)))))
(.reg 0 [⟨some 127, .mv (.t 19), none, 0, false, []⟩,
⟨some 128, .bin .add (.t 127) (.c (.int .i64 1)), none, 0, false, []⟩,
⟨some 19, .mv (.t 128), none, 0, false, []⟩])))
def c83 : AFun :=
{ keep := true, np := 3, nt := 146, res := [.tmp 6], body :=
(.seq (.reg 3 [⟨some 3, .box (.t 0), none, 0, false, []⟩,
⟨some 4, .box (.t 1), none, 1, false, []⟩,
⟨some 5, .box (.t 2), none, 2, false, []⟩,
⟨some 6, .mv (.c (.bool false)), none, 3, false, []⟩])
(.seq (.regd [[], [0], [], [0, 1, 2], [], [], [0, 1, 2, 3, 4, 5], [0, 1, 2, 3, 4, 5, 6]] 4 [⟨some 21, .ld 5 true (.t 3), none, 0, false, []⟩,
⟨some 22, .call .iso (.c (.fn 2 [] [])) [(.t 21)], none, 0, true, []⟩,
⟨some 23, .ld 5 true (.t 4), none, 1, false, []⟩,
⟨some 24, .call .iso (.c (.fn 2 [] [])) [(.t 23)], none, 1, true, []⟩,
⟨some 7, .alloc [.int .i64 0, .int .i64 0, .nils], none, 2, false, []⟩,
⟨some 8, .alloc [.int .i64 0, .int .i64 0, .nils], none, 3, false, []⟩,
⟨none, .st 3 (.t 7) (.t 22), none, 4, false, []⟩,
⟨none, .st 3 (.t 8) (.t 24), none, 4, false, []⟩])
(.seq (.seq (.reg 0 [⟨some 25, .iap 1 2 (.t 5) (.c (.int .i64 0)), none, 0, false, []⟩,
⟨some 26, .ld 1 false (.t 25), none, 0, false, []⟩,
⟨some 27, .bin .rem (.t 26) (.c (.int .u8 2)), none, 0, false, []⟩,
⟨some 28, .bin .eql (.t 27) (.c (.int .u8 0)), none, 0, false, []⟩,
⟨some 29, .mv (.t 28), none, 0, false, []⟩,
⟨some 30, .fad 2 (.t 7), (some (29, true)), 0, false, []⟩,
⟨some 31, .ld 1 false (.t 30), (some (29, true)), 0, false, []⟩,
⟨some 32, .len 0 (.t 31), (some (29, true)), 0, false, []⟩,
⟨some 33, .bin .gtr (.t 32) (.c (.int .i64 1)), (some (29, true)), 0, false, []⟩,
⟨some 34, .pick (.t 29) (.t 33) (.c (.bool false)), none, 0, false, []⟩])
(.cond (.t 34)
(.seq (.reg 1 [⟨some 9, .mv (.c (.nils)), none, 0, false, [(0, 1)]⟩])
(.seq (.seq (.reg 0 [⟨some 10, .mv (.c (.int .i64 0)), none, 0, false, []⟩])
(.block 0 (.loop false Ybd)))
(.seq (.regd [[], [0], [0, 1], [], [3], [3, 4], [0, 1, 2, 3, 4, 5], [0, 1, 2, 3, 4, 5, 6], [], [8], [8, 9], [], [11], [11, 12], [8, 9, 10, 11, 12, 13], [8, 9, 10, 11, 12, 13, 14], [0, 1, 2, 3, 4, 5, 6, 7], [0, 1, 2, 3, 4, 5, 6, 7, 8, 9, 10, 11, 12, 13, 14, 15, 16]] 0 [⟨some 46, .iap 1 2 (.t 5) (.c (.int .i64 0)), none, 0, false, []⟩,
⟨some 47, .ld 1 false (.t 46), none, 0, false, []⟩,
⟨some 48, .conv .i64 (.t 47), none, 0, false, []⟩,
⟨some 49, .mv (.t 9), none, 0, false, []⟩,
⟨some 50, .len 0 (.t 49), none, 0, false, []⟩,
⟨some 51, .bin .sub (.t 50) (.c (.int .i64 1)), none, 0, false, []⟩,
⟨some 52, .bin .rem (.t 48) (.t 51), none, 0, false, []⟩,
⟨some 53, .bin .add (.c (.int .i64 1)) (.t 52), none, 0, false, []⟩,
⟨some 54, .iap 1 2 (.t 5) (.c (.int .i64 1)), none, 0, false, []⟩,
⟨some 55, .ld 1 false (.t 54), none, 0, false, []⟩,
⟨some 56, .conv .i64 (.t 55), none, 0, false, []⟩,
⟨some 57, .mv (.t 9), none, 0, false, []⟩,
⟨some 58, .len 0 (.t 57), none, 0, false, []⟩,
⟨some 59, .bin .sub (.t 58) (.c (.int .i64 1)), none, 0, false, []⟩,
⟨some 60, .bin .rem (.t 56) (.t 59), none, 0, false, []⟩,
⟨some 61, .bin .add (.c (.int .i64 1)) (.t 60), none, 0, false, []⟩,
⟨some 11, .mv (.t 53), none, 0, false, []⟩,
⟨some 12, .mv (.t 61), none, 0, false, []⟩])
(.seq (.regd [[], [], [], [], [], [], [4, 5], [4, 5, 6], [], [], [8, 9], [8, 9, 10], [0, 1, 4, 5, 6, 7, 8, 9, 10, 11], [0, 1, 4, 5, 6, 7, 8, 9, 10, 11, 12], [0, 1, 2, 3, 4, 5, 6, 7, 8, 9, 10, 11, 12, 13], [0, 1, 2, 3, 4, 5, 6, 7, 8, 9, 10, 11, 12, 13, 14]] 0 [⟨some 62, .mv (.t 9), none, 0, false, []⟩,
⟨some 63, .mv (.t 11), none, 0, false, []⟩,
⟨some 64, .mv (.t 9), none, 0, false, []⟩,
⟨some 65, .mv (.t 12), none, 0, false, []⟩,
⟨some 66, .mv (.t 9), none, 0, false, []⟩,
⟨some 67, .mv (.t 12), none, 0, false, []⟩,
⟨some 68, .iad 1 (.t 66) (.t 67), none, 0, false, []⟩,
⟨some 69, .ld 1 false (.t 68), none, 0, false, []⟩,
⟨some 70, .mv (.t 9), none, 0, false, []⟩,
⟨some 71, .mv (.t 11), none, 0, false, []⟩,
⟨some 72, .iad 1 (.t 70) (.t 71), none, 0, false, []⟩,
⟨some 73, .ld 1 false (.t 72), none, 0, false, []⟩,
⟨some 74, .iad 1 (.t 62) (.t 63), none, 0, false, []⟩,
⟨none, .st 1 (.t 74) (.t 69), none, 0, false, []⟩,
⟨some 75, .iad 1 (.t 64) (.t 65), none, 0, false, []⟩,
⟨none, .st 1 (.t 75) (.t 73), none, 0, false, []⟩])
(.reg 1 [⟨some 76, .ld 3 true (.t 7), none, 0, false, []⟩,
⟨some 77, .mv (.t 9), none, 0, false, []⟩,
⟨some 78, .call .iso (.c (.fn 35 [] [])) [(.t 76), (.t 77)], none, 0, true, []⟩,
⟨none, .st 3 (.t 8) (.t 78), none, 1, false, []⟩])))))
.skip))
(.seq (.reg 1 [⟨some 80, .ld 3 true (.t 7), none, 0, false, []⟩,
⟨some 81, .ld 3 true (.t 8), none, 0, false, []⟩,
⟨some 82, .call .iso (.c (.fn 29 [] [])) [(.t 80), (.t 81)], none, 0, true, []⟩,
⟨some 79, .mv (.t 82), none, 1, false, []⟩,
⟨some 83, .ext (.t 79) 0, none, 1, false, []⟩,
⟨some 84, .ext (.t 79) 1, none, 1, false, []⟩,
⟨some 85, .ext (.t 79) 2, none, 1, false, []⟩,
⟨some 13, .mv (.t 83), none, 1, false, []⟩,
⟨some 14, .mv (.t 84), none, 1, false, []⟩,
⟨some 15, .mv (.t 85), none, 1, false, []⟩])
(.seq (.regd [[], [0], [], [0, 1, 2], [0, 1, 2, 3], [0, 1, 2, 3, 4]] 3 [⟨some 86, .ld 3 true (.t 7), none, 0, false, []⟩,
⟨some 87, .call .iso (.c (.fn 12 [] [])) [(.t 86)], none, 0, true, []⟩,
⟨some 88, .ld 3 true (.t 8), none, 1, false, []⟩,
⟨some 89, .call .iso (.c (.fn 12 [] [])) [(.t 88)], none, 1, true, []⟩,
⟨some 90, .call .iso (.c (.fn 17 [] [])) [(.t 87), (.t 89)], none, 2, false, []⟩,
⟨some 16, .mv (.t 90), none, 3, false, []⟩])
(.seq (.seq (.reg 0 [⟨some 91, .mv (.t 15), none, 0, false, []⟩,
⟨some 92, .bin .neq (.t 91) (.c (.int .i64 0)), none, 0, false, []⟩,
⟨some 93, .mv (.t 92), none, 0, false, []⟩,
⟨some 94, .mv (.t 14), (some (93, false)), 0, false, []⟩,
⟨some 95, .mv (.t 16), (some (93, false)), 0, false, []⟩,
⟨some 96, .eqb true false [.b] (.t 94) (.t 95), (some (93, false)), 0, false, []⟩,
⟨some 97, .pick (.t 93) (.c (.bool true)) (.t 96), none, 0, false, []⟩])
(.cond (.t 97)
(.seq (.reg 0 [⟨some 6, .mv (.c (.bool false)), none, 0, false, []⟩])
.ret)
.skip))
(.seq (.seq (.reg 0 [⟨some 98, .mv (.t 16), none, 0, false, []⟩,
⟨some 99, .un .not (.t 98), none, 0, false, []⟩])
(.cond (.t 99)
(.seq (.reg 1 [⟨some 100, .mv (.t 13), none, 0, false, []⟩,
⟨some 101, .len 0 (.t 100), none, 0, false, []⟩,
⟨some 102, .bin .eql (.t 101) (.c (.int .i64 0)), none, 0, false, []⟩,
⟨some 103, .mv (.t 102), none, 0, false, []⟩,
⟨some 104, .call .iso (.c (.fn 30 [] [])) [], (some (103, true)), 0, false, []⟩,
⟨some 105, .pick (.t 103) (.t 104) (.c (.bool false)), none, 1, false, []⟩,
⟨some 6, .mv (.t 105), none, 1, false, []⟩])
.ret)
.skip))
(.seq (.reg 1 [⟨some 107, .ld 3 true (.t 7), none, 0, false, []⟩,
⟨some 108, .call .iso (.c (.fn 4 [] [])) [(.t 107)], none, 0, true, []⟩,
⟨some 106, .mv (.t 108), none, 1, false, []⟩,
⟨some 109, .ext (.t 106) 0, none, 1, false, []⟩,
⟨some 110, .ext (.t 106) 1, none, 1, false, []⟩,
⟨some 17, .mv (.t 109), none, 1, false, []⟩,
⟨some 18, .mv (.t 110), none, 1, false, []⟩])
(.seq (.seq (.reg 0 [⟨some 111, .mv (.t 13), none, 0, false, []⟩,
⟨some 112, .len 0 (.t 111), none, 0, false, []⟩,
⟨some 113, .mv (.t 17), none, 0, false, []⟩,
⟨some 114, .len 0 (.t 113), none, 0, false, []⟩,
⟨some 115, .bin .neq (.t 112) (.t 114), none, 0, false, []⟩,
⟨some 116, .mv (.t 115), none, 0, false, []⟩,
⟨some 117, .mv (.t 13), (some (116, false)), 0, false, []⟩,
⟨some 118, .cap (.t 117), (some (116, false)), 0, false, []⟩,
⟨some 119, .mv (.t 13), (some (116, false)), 0, false, []⟩,
⟨some 120, .len 0 (.t 119), (some (116, false)), 0, false, []⟩,
⟨some 121, .bin .neq (.t 118) (.t 120), (some (116, false)), 0, false, []⟩,
⟨some 122, .pick (.t 116) (.c (.bool true)) (.t 121), none, 0, false, []⟩])
(.cond (.t 122)
(.seq (.reg 0 [⟨some 6, .mv (.c (.bool false)), none, 0, false, []⟩])
.ret)
.skip))
(.seq (.seq (.reg 0 [⟨some 19, .mv (.c (.int .i64 0)), none, 0, false, []⟩])
(.block 2 (.loop false Ybk)))
(.seq (.reg 1 [⟨some 145, .call .iso (.c (.fn 30 [] [])) [], none, 0, false, []⟩,
⟨some 6, .mv (.t 145), none, 1, false, []⟩])
.ret))))))))))) }
def Ybl : AC :=
(.seq (.seq (.reg 0 [⟨some 16, .mv (.t 5), none, 0, false, []⟩,
⟨some 17, .mv (.t 0), none, 0, false, []⟩,
⟨some 18, .len 0 (.t 17), none, 0, false, []⟩,
⟨some 19, .bin .lss (.t 16) (.t 18), none, 0, false, []⟩])
(.cond (.t 19)
.skip
(.exit 0)))
(.seq (.block 1 (.seq (.regd [[], [], [0, 1], [0, 1, 2], [], [], [4, 5], [4, 5, 6], [0, 1, 2, 3, 4, 5, 6, 7]] 0 [⟨some 22, .mv (.t 0), none, 0, false, []⟩,
⟨some 23, .mv (.t 5), none, 0, false, []⟩,
⟨some 24, .iad 1 (.t 22) (.t 23), none, 0, false, []⟩,
⟨some 25, .ld 1 false (.t 24), none, 0, false, []⟩,
⟨some 26, .mv (.t 1), none, 0, false, []⟩,
⟨some 27, .mv (.t 5), none, 0, false, []⟩,
⟨some 28, .iad 1 (.t 26) (.t 27), none, 0, false, []⟩,
⟨some 29, .ld 1 false (.t 28), none, 0, false, []⟩,
⟨some 30, .bin .neq (.t 25) (.t 29), none, 0, false, []⟩])
(.cond (.t 30)
(.seq (.seq (.regd [[], [], [0, 1], [0, 1, 2], [], [], [4, 5], [4, 5, 6], [0, 1, 2, 3, 4, 5, 6, 7]] 0 [⟨some 31, .mv (.t 0), none, 0, false, []⟩,
⟨some 32, .mv (.t 5), none, 0, false, []⟩,
⟨some 33, .iad 1 (.t 31) (.t 32), none, 0, false, []⟩,
⟨some 34, .ld 1 false (.t 33), none, 0, false, []⟩,
⟨some 35, .mv (.t 1), none, 0, false, []⟩,
⟨some 36, .mv (.t 5), none, 0, false, []⟩,
⟨some 37, .iad 1 (.t 35) (.t 36), none, 0, false, []⟩,
⟨some 38, .ld 1 false (.t 37), none, 0, false, []⟩,
⟨some 39, .bin .lss (.t 34) (.t 38), none, 0, false, []⟩])
(.cond (.t 39)
(.seq (.reg 0 [⟨some 4, .mv (.c (.int .i64 1)), none, 0, false, []⟩])
.ret)
.skip))
(.seq (.reg 0 [⟨some 4, .mv (.c (.int .i64 0)), none, 0, false, []⟩])
.ret))
.skip)))
(.reg 0 [⟨some 20, .mv (.t 5), none, 0, false, []⟩,
⟨some 21, .bin .add (.t 20) (.c (.int .i64 1)), none, 0, false, []⟩,
⟨some 5, .mv (.t 21), none, 0, false, []⟩])))
def c85 : AFun :=
{ keep := true, np := 2, nt := 40, res := [.tmp 4], body :=
(.seq (.reg 0 [⟨some 4, .mv (.c (.int .i64 0)), none, 0, false, []⟩])
(.seq (.seq (.reg 0 [⟨some 6, .mv (.t 0), none, 0, false, []⟩,
⟨some 7, .len 0 (.t 6), none, 0, false, []⟩,
⟨some 8, .mv (.t 1), none, 0, false, []⟩,
⟨some 9, .len 0 (.t 8), none, 0, false, []⟩,
⟨some 10, .bin .neq (.t 7) (.t 9), none, 0, false, []⟩])
(.cond (.t 10)
(.seq (.seq (.reg 0 [⟨some 11, .mv (.t 0), none, 0, false, []⟩,
⟨some 12, .len 0 (.t 11), none, 0, false, []⟩,
⟨some 13, .mv (.t 1), none, 0, false, []⟩,
⟨some 14, .len 0 (.t 13), none, 0, false, []⟩,
⟨some 15, .bin .lss (.t 12) (.t 14), none, 0, false, []⟩])
(.cond (.t 15)
(.seq (.reg 0 [⟨some 4, .mv (.c (.int .i64 1)), none, 0, false, []⟩])
.ret)
.skip))
(.seq (.reg 0 [⟨some 4, .mv (.c (.int .i64 0)), none, 0, false, []⟩])
.ret))
.skip))
(.seq (.seq (.reg 0 [⟨some 5, .mv (.c (.int .i64 0)), none, 0, false, []⟩])
(.block 0 (.loop false Ybl)))
(.seq (.reg 0 [⟨some 4, .mv (.c (.int .i64 0)), none, 0, false, []⟩])
.ret)))) }
def Ycv : AC :=
(.seq (.seq (.regd [[], [], [0, 1], [0, 1, 2], [0, 1, 2, 3], [0, 1, 2, 3], [0, 1, 2, 3, 4, 5], [0, 1, 2, 3, 4, 5, 6], [0, 1, 2, 3], [0, 1, 2, 3], [0, 1, 2, 3, 9], [0, 1, 2, 3, 8, 9, 10], [0, 1, 2, 3, 8, 9, 10, 11], [0, 1, 2, 3, 4, 5, 6, 7, 8, 9, 10, 11, 12], [0, 1, 2, 3, 4, 5, 6, 7, 8, 9, 10, 11, 12, 13]] 1 [⟨some 16, .mv (.t 7), none, 0, false, []⟩,
⟨some 17, .mv (.t 1), none, 0, false, []⟩,
⟨some 18, .bin .gtr (.t 16) (.t 17), none, 0, false, []⟩,
⟨some 19, .mv (.t 18), none, 0, false, []⟩,
⟨some 20, .mv (.t 0), (some (19, true)), 0, false, []⟩,
⟨some 21, .mv (.t 7), (some (19, true)), 0, false, []⟩,
⟨some 22, .iad 1 (.t 20) (.t 21), (some (19, true)), 0, false, []⟩,
⟨some 23, .ld 1 false (.t 22), (some (19, true)), 0, false, []⟩,
⟨some 24, .mv (.t 0), (some (19, true)), 0, false, []⟩,
⟨some 25, .mv (.t 7), (some (19, true)), 0, false, []⟩,
⟨some 26, .bin .sub (.t 25) (.c (.int .i64 1)), (some (19, true)), 0, false, []⟩,
⟨some 27, .iad 1 (.t 24) (.t 26), (some (19, true)), 0, false, []⟩,
⟨some 28, .ld 1 false (.t 27), (some (19, true)), 0, false, []⟩,
⟨some 29, .call .iso (.c (.fn 75 [] [])) [(.t 23), (.t 28)], (some (19, true)), 0, false, []⟩,
⟨some 30, .pick (.t 19) (.t 29) (.c (.bool false)), none, 1, false, []⟩])
(.cond (.t 30)
.skip
(.exit 2)))
(.seq (.block 3 (.regd [[], [], [], [], [3], [], [], [6], [5, 6, 7], [5, 6, 7, 8], [], [], [10, 11], [10, 11, 12], [0, 1, 5, 6, 7, 8, 9, 10, 11, 12, 13], [0, 1, 5, 6, 7, 8, 9, 10, 11, 12, 13, 14], [0, 1, 2, 3, 4, 5, 6, 7, 8, 9, 10, 11, 12, 13, 14, 15], [0, 1, 2, 3, 4, 5, 6, 7, 8, 9, 10, 11, 12, 13, 14, 15, 16]] 0 [⟨some 33, .mv (.t 0), none, 0, false, []⟩,
⟨some 34, .mv (.t 7), none, 0, false, []⟩,
⟨some 35, .mv (.t 0), none, 0, false, []⟩,
⟨some 36, .mv (.t 7), none, 0, false, []⟩,
⟨some 37, .bin .sub (.t 36) (.c (.int .i64 1)), none, 0, false, []⟩,
⟨some 38, .mv (.t 0), none, 0, false, []⟩,
⟨some 39, .mv (.t 7), none, 0, false, []⟩,
⟨some 40, .bin .sub (.t 39) (.c (.int .i64 1)), none, 0, false, []⟩,
⟨some 41, .iad 1 (.t 38) (.t 40), none, 0, false, []⟩,
⟨some 42, .ld 1 false (.t 41), none, 0, false, []⟩,
⟨some 43, .mv (.t 0), none, 0, false, []⟩,
⟨some 44, .mv (.t 7), none, 0, false, []⟩,
⟨some 45, .iad 1 (.t 43) (.t 44), none, 0, false, []⟩,
⟨some 46, .ld 1 false (.t 45), none, 0, false, []⟩,
⟨some 47, .iad 1 (.t 33) (.t 34), none, 0, false, []⟩,
⟨none, .st 1 (.t 47) (.t 42), none, 0, false, []⟩,
⟨some 48, .iad 1 (.t 35) (.t 37), none, 0, false, []⟩,
⟨none, .st 1 (.t 48) (.t 46), none, 0, false, []⟩]))
(.reg 0 [⟨some 31, .mv (.t 7), none, 0, false, []⟩,
⟨some 32, .bin .sub (.t 31) (.c (.int .i64 1)), none, 0, false, []⟩,
⟨some 7, .mv (.t 32), none, 0, false, []⟩])))
def Ycy : AC :=
(.seq (.seq (.reg 0 [⟨some 10, .mv (.t 6), none, 0, false, []⟩,
⟨some 11, .mv (.t 2), none, 0, false, []⟩,
⟨some 12, .bin .lss (.t 10) (.t 11), none, 0, false, []⟩])
(.cond (.t 12)
.skip
(.exit 0)))
(.seq (.block 1 (.seq (.reg 0 [⟨some 15, .mv (.t 6), none, 0, false, []⟩,
⟨some 7, .mv (.t 15), none, 0, false, []⟩])
(.block 2 (.loop false Ycv))))
(.reg 0 [⟨some 13, .mv (.t 6), none, 0, false, []⟩,
⟨some 14, .bin .add (.t 13) (.c (.int .i64 1)), none, 0, false, []⟩,
⟨some 6, .mv (.t 14), none, 0, false, []⟩])))
def c86 : AFun :=
{ keep := true, np := 3, nt := 49, res := [], body :=
(.seq (.reg 0 [⟨some 8, .mv (.t 1), none, 0, false, []⟩,
⟨some 9, .bin .add (.t 8) (.c (.int .i64 1)), none, 0, false, []⟩,
⟨some 6, .mv (.t 9), none, 0, false, []⟩])
(.block 0 (.loop false Ycy))) }
def tbl : List (Option AFun) := [none, none, some c2, some c3, some c4, some c5, some c6, some c7, some c8, some c9, some c10, some c11, some c12, some c13, some c14, some c15, some c16, some c17, some c18, some c19, some c20, some c21, some c22, some c23, some c24, some c25, some c26, some c27, some c28, some c29, some c30, some c31, some c32, some c33, some c34, some c35, some c36, some c37, some c38, none, none, none, none, some c43, some c44, some c45, some c46, some c47, some c48, some c49, some c50, some c51, none, some c53, some c54, some c55, some c56, some c57, some c58, some c59, some c60, some c61, some c62, some c63, some c64, some c65, some c66, none, some c68, some c69, none, none, none, none, some c74, some c75, none, none, some c78, some c79, some c80, none, some c82, some c83, none, some c85, some c86, none, none, none, none, none, none, none]
def AP : Zcb := fun n => (tbl[n]?).getD none
theorem AP2 : AP 2 = some c2 := rfl
theorem AP3 : AP 3 = some c3 := rfl
theorem AP4 : AP 4 = some c4 := rfl
theorem AP5 : AP 5 = some c5 := rfl
theorem AP6 : AP 6 = some c6 := rfl
theorem AP7 : AP 7 = some c7 := rfl
theorem AP8 : AP 8 = some c8 := rfl
theorem AP9 : AP 9 = some c9 := rfl
theorem AP10 : AP 10 = some c10 := rfl
theorem AP11 : AP 11 = some c11 := rfl
theorem AP12 : AP 12 = some c12 := rfl
theorem AP13 : AP 13 = some c13 := rfl
theorem AP14 : AP 14 = some c14 := rfl
theorem AP15 : AP 15 = some c15 := rfl
theorem AP16 : AP 16 = some c16 := rfl
theorem AP17 : AP 17 = some c17 := rfl
theorem AP18 : AP 18 = some c18 := rfl
theorem AP19 : AP 19 = some c19 := rfl
theorem AP20 : AP 20 = some c20 := rfl
theorem AP21 : AP 21 = some c21 := rfl
theorem AP22 : AP 22 = some c22 := rfl
theorem AP23 : AP 23 = some c23 := rfl
theorem AP24 : AP 24 = some c24 := rfl
theorem AP25 : AP 25 = some c25 := rfl
theorem AP26 : AP 26 = some c26 := rfl
theorem AP27 : AP 27 = some c27 := rfl
theorem AP28 : AP 28 = some c28 := rfl
theorem AP29 : AP 29 = some c29 := rfl
theorem AP30 : AP 30 = some c30 := rfl
theorem AP31 : AP 31 = some c31 := rfl
theorem AP32 : AP 32 = some c32 := rfl
theorem AP33 : AP 33 = some c33 := rfl
theorem AP34 : AP 34 = some c34 := rfl
theorem AP35 : AP 35 = some c35 := rfl
theorem AP36 : AP 36 = some c36 := rfl
theorem AP37 : AP 37 = some c37 := rfl
theorem AP38 : AP 38 = some c38 := rfl
theorem AP43 : AP 43 = some c43 := rfl
theorem AP44 : AP 44 = some c44 := rfl
theorem AP45 : AP 45 = some c45 := rfl
theorem AP46 : AP 46 = some c46 := rfl
theorem AP47 : AP 47 = some c47 := rfl
theorem AP48 : AP 48 = some c48 := rfl
theorem AP49 : AP 49 = some c49 := rfl
theorem AP50 : AP 50 = some c50 := rfl
theorem AP51 : AP 51 = some c51 := rfl
theorem AP53 : AP 53 = some c53 := rfl
theorem AP54 : AP 54 = some c54 := rfl
theorem AP55 : AP 55 = some c55 := rfl
theorem AP56 : AP 56 = some c56 := rfl
theorem AP57 : AP 57 = some c57 := rfl
theorem AP58 : AP 58 = some c58 := rfl
theorem AP59 : AP 59 = some c59 := rfl
theorem AP60 : AP 60 = some c60 := rfl
theorem AP61 : AP 61 = some c61 := rfl
theorem AP62 : AP 62 = some c62 := rfl
theorem AP63 : AP 63 = some c63 := rfl
theorem AP64 : AP 64 = some c64 := rfl
theorem AP65 : AP 65 = some c65 := rfl
theorem AP66 : AP 66 = some c66 := rfl
theorem AP68 : AP 68 = some c68 := rfl
theorem AP69 : AP 69 = some c69 := rfl
theorem AP74 : AP 74 = some c74 := rfl
theorem AP75 : AP 75 = some c75 := rfl
theorem AP78 : AP 78 = some c78 := rfl
theorem AP79 : AP 79 = some c79 := rfl
theorem AP80 : AP 80 = some c80 := rfl
theorem AP82 : AP 82 = some c82 := rfl
theorem AP83 : AP 83 = some c83 := rfl
theorem AP85 : AP 85 = some c85 := rfl
theorem AP86 : AP 86 = some c86 := rfl
end Go.AM
