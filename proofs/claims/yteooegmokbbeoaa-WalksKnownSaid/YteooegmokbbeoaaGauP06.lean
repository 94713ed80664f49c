/- The functions' abstract code, printed by acgen.py. -/
import Derived.Test.YteooegmokbbeoaaGauA
set_option maxRecDepth 100000
namespace Go.AM
def B2_2 : AC :=
(.seq (.seq (.reg 0 [mv0 31 7,
fd0 32 0 4,
ld1 33 32,
i0 34 (.bin .lss (.t 31) (.t 33))])
(.cond (.t 34)
.skip
(.exit 2)))
(.seq (.block 3 (.seq (.reg 0 [i0 8 (.mv (.c (.int .i64 0)))])
(.seq (.seq (.reg 0 [mv0 37 5,
fd0 38 0 4,
ld1 39 38,
i0 40 (.bin .mul (.t 37) (.t 39)),
mv0 41 7,
i0 42 (.bin .add (.t 40) (.t 41)),
mv0 9 42])
(.seq (.reg 0 [mv0 43 9,
fd0 44 4 1,
ld1 45 44,
i0 46 (.len 0 (.t 45)),
i0 47 (.bin .lss (.t 43) (.t 46))])
(.cond (.t 47)
(.reg 0 [fd0 48 4 1,
ld1 49 48,
mv0 50 9,
ia0 51 1 49 50,
ld1 52 51,
i0 53 (.conv .i64 (.t 52)),
mv0 8 53])
.skip)))
(.seq (.reg 0 [fd0 54 3 1,
ld1 55 54,
mv0 56 55,
i2 57 (.mv (.t 8)) 56 true 0,
i2 58 (.bin .rem (.t 57) (.c (.int .i64 4))) 56 true 0,
i2 59 (.bin .eql (.t 58) (.c (.int .i64 3))) 56 true 0,
i0 60 (.pick (.t 56) (.t 59) (.c (.bool false)))])
(.cond (.t 60)
(.reg 2 [mv0 61 6,
i0 62 (.build [.int .i64 0, .int .i64 0] [(0, 1, (.c (.int .i64 (-1)))), (1, 1, (.c (.int .i64 (-1))))]),
i0 63 (.bsl 2 1 [.int .i64 0, .int .i64 0] [(0, 2, (.t 62))]),
i1 64 (.app 2 16 (.t 61) (.t 63)) 1,
i1 6 (.mv (.t 64)) 2])
(.regd [[], [], [1], [], [1, 2, 3], [], [5], [], [5, 6, 7], [], [9], [5, 6, 7, 8, 9, 10], [1, 2, 3, 4, 5, 6, 7, 8, 9, 10, 11], [1, 2, 3, 4, 5, 6, 7, 8, 9, 10, 11, 12], [0, 1, 2, 3, 4, 5, 6, 7, 8, 9, 10, 11, 12, 13], [0, 1, 2, 3, 4, 5, 6, 7, 8, 9, 10, 11, 12, 13, 14]] 2 [mv0 65 6,
mv0 66 8,
i0 67 (.bin .quo (.t 66) (.c (.int .i64 4))),
mv0 68 3,
i0 69 (.bin .rem (.t 67) (.t 68)),
mv0 70 8,
i0 71 (.bin .quo (.t 70) (.c (.int .i64 4))),
mv0 72 3,
i0 73 (.bin .quo (.t 71) (.t 72)),
fd0 74 1 4,
ld1 75 74,
i0 76 (.bin .rem (.t 73) (.t 75)),
i0 77 (.build [.int .i64 0, .int .i64 0] [(0, 1, (.t 69)), (1, 1, (.t 76))]),
i0 78 (.bsl 2 1 [.int .i64 0, .int .i64 0] [(0, 2, (.t 77))]),
i1 79 (.app 2 16 (.t 65) (.t 78)) 1,
i1 6 (.mv (.t 79)) 2]))))))
(.reg 0 [mv0 35 7,
i0 36 (.bin .add (.t 35) (.c (.int .i64 1))),
mv0 7 36])))
def B2_1 : AC :=
(.seq (.seq (.reg 0 [mv0 26 5,
mv0 27 3,
i0 28 (.bin .lss (.t 26) (.t 27))])
(.cond (.t 28)
.skip
(.exit 0)))
(.seq (.block 1 (.seq (.reg 1 [⟨some 6, .mv (.c (.nils)), none, 0, false, [(0, 2)]⟩])
(.seq (.seq (.reg 0 [i0 7 (.mv (.c (.int .i64 0)))])
(.block 2 (.loop false B2_2)))
(.reg 2 [fd0 80 2 4,
ld1 81 80,
mv0 82 6,
⟨some 83, .bsl 1 1 [.nils] [(0, 1, (.t 82))], none, 0, true, []⟩,
i1 84 (.app 1 24 (.t 81) (.t 83)) 1,
i1 85 (.fad 2 (.t 4)) 2,
⟨none, .st 1 (.t 85) (.t 84), none, 2, false, []⟩]))))
(.reg 0 [mv0 29 5,
i0 30 (.bin .add (.t 29) (.c (.int .i64 1))),
mv0 5 30])))
def c2 : AFun :=
{ keep := true, np := 1, nt := 87, res := [.cell 2 3 true], body :=
(.seq (.reg 2 [i0 1 (.box (.t 0)),
i1 2 (.alloc [.int .i64 0, .int .i64 0, .nils]) 1])
(.seq (.reg 0 [fd0 10 0 1,
ld1 11 10,
i0 12 (.bin .rem (.t 11) (.c (.int .u8 6))),
i0 13 (.conv .i64 (.t 12)),
i0 14 (.bin .add (.c (.int .i64 1)) (.t 13)),
mv0 3 14])
(.seq (.reg 3 [fd0 15 1 1,
ld1 16 15,
i0 17 (.bin .rem (.t 16) (.c (.int .u8 3))),
i0 18 (.conv .i64 (.t 17)),
i0 19 (.bin .add (.c (.int .i64 1)) (.t 18)),
fd0 20 2 1,
ld1 21 20,
i0 22 (.bin .rem (.t 21) (.c (.int .u8 3))),
i0 23 (.conv .i64 (.t 22)),
i0 24 (.bin .add (.c (.int .i64 1)) (.t 23)),
i0 25 (.build [.int .i64 0, .int .i64 0, .nils] [(0, 1, (.t 19)), (1, 1, (.t 24))]),
⟨some 4, .alloc [.int .i64 0, .int .i64 0, .nils], none, 0, false, [(2, 1)]⟩,
⟨none, .st 3 (.t 4) (.t 25), none, 2, false, [(2, 1)]⟩])
(.seq (.seq (.reg 0 [i0 5 (.mv (.c (.int .i64 0)))])
(.block 0 (.loop false B2_1)))
(.seq (.reg 0 [i0 86 (.ld 3 true (.t 4)),
⟨none, .st 3 (.t 2) (.t 86), none, 0, false, []⟩])
.ret))))) }
def c3 : AFun :=
{ keep := true, np := 1, nt := 20, res := [.tmp 2, .tmp 3, .tmp 4], body :=
(.seq (.reg 1 [i0 1 (.box (.t 0)),
i1 2 (.mv (.c (.nils))) 1,
i1 3 (.mv (.c (.nils))) 1,
i1 4 (.mv (.c (.int .i64 0))) 1])
(.seq (.seq (.reg 1 [i0 8 (.ld 3 true (.t 1)),
i0 9 (.call .iso (.c (.fn 18 [] [])) [(.t 8)]),
i1 5 (.mv (.t 9)) 1])
(.seq (.reg 0 [mv0 10 5,
i0 11 (.bin .neq (.t 10) (.c (.int .i64 0)))])
(.cond (.t 11)
(.seq (.reg 0 [mv0 12 5,
i0 2 (.mv (.c (.nils))),
i0 3 (.mv (.c (.nils))),
mv0 4 12])
.ret)
.skip)))
(.seq (.reg 1 [i0 14 (.ld 3 true (.t 1)),
⟨some 15, .call .iso (.c (.fn 19 [] [])) [(.t 14), (.c (.int .i64 0))], none, 0, true, []⟩,
i1 13 (.mv (.t 15)) 1,
i1 16 (.ext (.t 13) 0) 1,
i1 17 (.ext (.t 13) 1) 1,
i1 6 (.mv (.t 16)) 1,
i1 7 (.mv (.t 17)) 1])
(.seq (.reg 0 [mv0 18 6,
mv0 19 7,
mv0 2 18,
mv0 3 19,
i0 4 (.mv (.c (.int .i64 0)))])
.ret)))) }
def c4 : AFun :=
{ keep := true, np := 1, nt := 8, res := [.tmp 2, .tmp 3], body :=
(.seq (.reg 1 [i0 1 (.box (.t 0)),
i1 2 (.mv (.c (.nils))) 1,
i1 3 (.mv (.c (.nils))) 1])
(.seq (.reg 1 [i0 4 (.ld 3 true (.t 1)),
⟨some 5, .call .iso (.c (.fn 7 [] [])) [(.t 4), (.c (.int .i64 0))], none, 0, true, []⟩,
i1 6 (.ext (.t 5) 0) 1,
i1 7 (.ext (.t 5) 1) 1,
i1 2 (.mv (.t 6)) 1,
i1 3 (.mv (.t 7)) 1])
.ret)) }
def c5 : AFun :=
{ keep := true, np := 3, nt := 34, res := [.tmp 6, .tmp 7, .tmp 8], body :=
(.seq (.reg 1 [i0 3 (.box (.t 0)),
i1 6 (.mv (.c (.nils))) 1,
i1 7 (.mv (.c (.bool false))) 1,
i1 8 (.mv (.c (.int .i64 0))) 1])
(.seq (.seq (.reg 2 [i0 12 (.ld 3 true (.t 3)),
mv0 13 1,
mv0 14 2,
i0 15 (.bsl 1 2 [.int .i64 0] [(0, 1, (.t 13)), (1, 1, (.t 14))]),
i1 16 (.call .iso (.c (.fn 31 [] [])) [(.t 12), (.t 15)]) 1,
i1 9 (.mv (.t 16)) 2])
(.seq (.reg 0 [mv0 17 9,
i0 18 (.bin .neq (.t 17) (.c (.int .i64 0)))])
(.cond (.t 18)
(.seq (.reg 0 [mv0 19 9,
i0 6 (.mv (.c (.nils))),
i0 7 (.mv (.c (.bool false))),
mv0 8 19])
.ret)
.skip)))
(.seq (.reg 1 [i0 21 (.ld 3 true (.t 3)),
mv0 22 1,
⟨some 23, .call .iso (.c (.fn 19 [] [])) [(.t 21), (.t 22)], none, 0, true, []⟩,
i1 20 (.mv (.t 23)) 1,
i1 24 (.ext (.t 20) 0) 1,
i1 25 (.ext (.t 20) 1) 1,
i1 10 (.mv (.t 24)) 1,
i1 11 (.mv (.t 25)) 1])
(.seq (.regd [[], [], [0, 1], [0, 1, 2], [], [], [4, 5], [4, 5, 6], [0, 1, 2, 3], [0, 1, 2, 3, 4, 5, 6, 7, 8], [0, 1, 2, 3, 4, 5, 6, 7, 8, 9]] 0 [mv0 26 10,
mv0 27 2,
ia0 28 1 26 27,
ld1 29 28,
mv0 30 11,
mv0 31 2,
ia0 32 1 30 31,
ld1 33 32,
mv0 6 29,
mv0 7 33,
i0 8 (.mv (.c (.int .i64 0)))])
.ret)))) }
def B6_1 : AC :=
(.seq (.reg 0 [i0 31 (.bin .lss (.t 30) (.t 29))])
(.seq (.cond (.t 31)
.skip
(.exit 0))
(.seq (.block 1 (.seq (.reg 0 [mv0 32 30,
ia0 33 1 28 30,
ld1 34 33,
mv0 10 32,
mv0 11 34])
(.seq (.reg 0 [mv0 35 9,
mv0 36 10,
ia0 37 1 35 36,
⟨none, .st 1 (.t 37) (.c (.int .i64 (-1))), none, 0, false, []⟩])
(.seq (.reg 0 [mv0 38 8,
mv0 39 10,
ia0 40 1 38 39,
ld1 41 40])
(.cond (.t 41)
(.reg 0 [mv0 42 9,
mv0 43 10,
mv0 44 11,
i0 45 (.len 0 (.t 44)),
ia0 46 1 42 43,
⟨none, .st 1 (.t 46) (.t 45), none, 0, false, []⟩])
.skip)))))
(.reg 0 [i0 47 (.bin .add (.t 30) (.c (.int .i64 1))),
mv0 30 47]))))
def c6 : AFun :=
{ keep := true, np := 2, nt := 49, res := [.tmp 4, .tmp 5], body :=
(.seq (.reg 1 [i0 2 (.box (.t 0)),
i1 4 (.mv (.c (.nils))) 1,
i1 5 (.mv (.c (.int .i64 0))) 1])
(.seq (.seq (.reg 2 [i0 12 (.ld 3 true (.t 2)),
mv0 13 1,
i0 14 (.bsl 1 1 [.int .i64 0] [(0, 1, (.t 13))]),
i1 15 (.call .iso (.c (.fn 31 [] [])) [(.t 12), (.t 14)]) 1,
i1 6 (.mv (.t 15)) 2])
(.seq (.reg 0 [mv0 16 6,
i0 17 (.bin .neq (.t 16) (.c (.int .i64 0)))])
(.cond (.t 17)
(.seq (.reg 0 [mv0 18 6,
i0 4 (.mv (.c (.nils))),
mv0 5 18])
.ret)
.skip)))
(.seq (.reg 1 [i0 20 (.ld 3 true (.t 2)),
mv0 21 1,
⟨some 22, .call .iso (.c (.fn 19 [] [])) [(.t 20), (.t 21)], none, 0, true, []⟩,
i1 19 (.mv (.t 22)) 1,
i1 23 (.ext (.t 19) 0) 1,
i1 24 (.ext (.t 19) 1) 1,
i1 7 (.mv (.t 23)) 1,
i1 8 (.mv (.t 24)) 1])
(.seq (.reg 1 [mv0 25 7,
i0 26 (.len 0 (.t 25)),
i0 27 (.mks 1 8 [.int .i64 0] (.t 26) (.t 26)),
i1 9 (.mv (.t 27)) 1])
(.seq (.seq (.reg 0 [mv0 28 7,
i0 29 (.len 0 (.t 28)),
i0 30 (.mv (.c (.int .i64 0)))])
(.block 0 (.loop false B6_1)))
(.seq (.reg 0 [mv0 48 9,
mv0 4 48,
i0 5 (.mv (.c (.int .i64 0)))])
.ret)))))) }
def B7_3 : AC :=
(.seq (.seq (.reg 0 [mv0 63 12,
fd0 64 0 2,
ld1 65 64,
i0 66 (.bin .lss (.t 63) (.t 65))])
(.cond (.t 66)
.skip
(.exit 4)))
(.seq (.block 5 (.reg 6 [mv0 69 9,
i0 70 (.bsl 1 0 [.int .i64 0] []),
i1 71 (.mv (.t 8)) 1,
i1 72 (.mv (.t 10)) 1,
i1 73 (.iad 1 (.t 71) (.t 72)) 1,
i1 74 (.ld 1 false (.t 73)) 1,
i1 75 (.app 1 8 (.t 70) (.t 74)) 1,
i1 76 (.mv (.t 12)) 2,
i1 77 (.bsl 1 1 [.int .i64 0] [(0, 1, (.t 76))]) 2,
i1 78 (.app 1 8 (.t 75) (.t 77)) 3,
⟨some 79, .bsl 1 1 [.nils] [(0, 1, (.t 78))], none, 4, true, []⟩,
i1 80 (.app 1 24 (.t 69) (.t 79)) 5,
i1 9 (.mv (.t 80)) 6]))
(.reg 0 [mv0 67 12,
i0 68 (.bin .add (.t 67) (.c (.int .i64 1))),
mv0 12 68])))
def B7_2 : AC :=
(.seq (.seq (.reg 0 [mv0 32 10,
mv0 33 8,
i0 34 (.len 0 (.t 33)),
i0 35 (.bin .lss (.t 32) (.t 34))])
(.cond (.t 35)
.skip
(.exit 2)))
(.seq (.block 3 (.seq (.regd [[], [], [], [], [2, 3], [2, 3, 4], [0, 1, 2, 3, 4, 5], [0, 1, 2, 3, 4, 5, 6]] 1 [i0 38 (.ld 3 true (.t 2)),
mv0 39 1,
mv0 40 8,
mv0 41 10,
ia0 42 1 40 41,
ld1 43 42,
i0 44 (.call .iso (.c (.fn 21 [] [])) [(.t 38), (.t 39), (.t 43)]),
i1 11 (.mv (.t 44)) 1])
(.seq (.seq (.reg 0 [mv0 45 11,
i0 46 (.bin .lss (.t 45) (.c (.int .i64 0))),
mv0 47 46,
i2 48 (.mv (.t 7)) 47 false 0,
i2 49 (.mv (.t 11)) 47 false 0,
i2 50 (.iad 1 (.t 48) (.t 49)) 47 false 0,
i2 51 (.ld 1 false (.t 50)) 47 false 0,
i0 52 (.pick (.t 47) (.c (.bool true)) (.t 51))])
(.cond (.t 52)
(.exit 3)
.skip))
(.seq (.reg 0 [mv0 53 7,
mv0 54 11,
ia0 55 1 53 54,
⟨none, .st 1 (.t 55) (.c (.bool true)), none, 0, false, []⟩])
(.seq (.reg 0 [mv0 56 6,
mv0 57 11,
mv0 58 8,
mv0 59 10,
ia0 60 1 58 59,
ld1 61 60,
ia0 62 1 56 57,
⟨none, .st 1 (.t 62) (.t 61), none, 0, false, []⟩])
(.seq (.reg 0 [i0 12 (.mv (.c (.int .i64 0)))])
(.block 4 (.loop false B7_3))))))))
(.reg 0 [mv0 36 10,
i0 37 (.bin .add (.t 36) (.c (.int .i64 1))),
mv0 10 37])))
def B7_1 : AC :=
(.seq (.seq (.reg 0 [mv0 23 8,
i0 24 (.len 0 (.t 23)),
i0 25 (.bin .gtr (.t 24) (.c (.int .i64 0))),
mv0 26 25,
i2 27 (.fad 2 (.t 2)) 26 true 0,
i2 28 (.ld 1 false (.t 27)) 26 true 0,
i2 29 (.len 0 (.t 28)) 26 true 0,
i2 30 (.bin .gtr (.t 29) (.c (.int .i64 0))) 26 true 0,
i0 31 (.pick (.t 26) (.t 30) (.c (.bool false)))])
(.cond (.t 31)
.skip
(.exit 0)))
(.block 1 (.seq (.reg 1 [⟨some 9, .mv (.c (.nils)), none, 0, false, [(0, 1)]⟩])
(.seq (.seq (.reg 0 [i0 10 (.mv (.c (.int .i64 0)))])
(.block 2 (.loop false B7_2)))
(.reg 0 [⟨some 81, .mv (.t 9), none, 0, true, []⟩,
mv0 8 81])))))
def c7 : AFun :=
{ keep := true, np := 2, nt := 84, res := [.tmp 4, .tmp 5], body :=
(.seq (.reg 1 [i0 2 (.box (.t 0)),
i1 4 (.mv (.c (.nils))) 1,
i1 5 (.mv (.c (.nils))) 1])
(.seq (.reg 1 [fd0 13 2 2,
ld1 14 13,
i0 15 (.len 0 (.t 14)),
i0 16 (.mks 1 24 [.nils] (.t 15) (.t 15)),
i1 6 (.mv (.t 16)) 1])
(.seq (.reg 1 [fd0 17 2 2,
ld1 18 17,
i0 19 (.len 0 (.t 18)),
i0 20 (.mks 1 1 [.bool false] (.t 19) (.t 19)),
i1 7 (.mv (.t 20)) 1])
(.seq (.reg 2 [i0 21 (.bsl 1 0 [.int .i64 0] []),
⟨some 22, .bsl 1 1 [.nils] [(0, 1, (.t 21))], none, 1, true, []⟩,
⟨some 8, .mv (.t 22), none, 2, true, []⟩])
(.seq (.block 0 (.loop false B7_1))
(.seq (.reg 0 [mv0 82 6,
mv0 83 7,
mv0 4 82,
mv0 5 83])
.ret)))))) }
def c8 : AFun :=
{ keep := true, np := 4, nt := 24, res := [.tmp 8], body :=
(.seq (.reg 0 [i0 8 (.mv (.c (.bool false)))])
(.seq (.reg 1 [mv0 9 1,
mv0 10 3,
i0 11 (.bin .eql (.t 9) (.t 10)),
mv0 12 11,
i2 13 (.mv (.t 0)) 12 true 0,
i2 14 (.mv (.t 2)) 12 true 0,
i2 15 (.call .iso (.c (.fn 15 [] [])) [(.t 13), (.t 14)]) 12 true 0,
i1 16 (.pick (.t 12) (.t 15) (.c (.bool false))) 1,
i1 17 (.mv (.t 16)) 1,
i2 18 (.mv (.t 0)) 17 true 1,
i2 19 (.cap (.t 18)) 17 true 1,
i2 20 (.mv (.t 0)) 17 true 1,
i2 21 (.len 0 (.t 20)) 17 true 1,
i2 22 (.bin .eql (.t 19) (.t 21)) 17 true 1,
i1 23 (.pick (.t 17) (.t 22) (.c (.bool false))) 1,
i1 8 (.mv (.t 23)) 1])
.ret)) }
def B9_1 : AC :=
(.seq (.seq (.reg 0 [mv0 7 6,
fd0 8 0 2,
ld1 9 8,
i0 10 (.len 0 (.t 9)),
i0 11 (.bin .lss (.t 7) (.t 10)),
mv0 12 11,
i2 13 (.mv (.t 6)) 12 true 0,
i2 14 (.bin .lss (.t 13) (.c (.int .i64 12))) 12 true 0,
i0 15 (.pick (.t 12) (.t 14) (.c (.bool false)))])
(.cond (.t 15)
.skip
(.exit 0)))
(.seq (.block 1 (.reg 2 [mv0 18 5,
fd0 19 0 2,
ld1 20 19,
mv0 21 6,
ia0 22 1 20 21,
ld1 23 22,
i0 24 (.conv .i64 (.t 23)),
mv0 25 1,
i0 26 (.bin .rem (.t 24) (.t 25)),
i0 27 (.bsl 1 1 [.int .i64 0] [(0, 1, (.t 26))]),
i1 28 (.app 1 8 (.t 18) (.t 27)) 1,
i1 5 (.mv (.t 28)) 2]))
(.reg 0 [mv0 16 6,
i0 17 (.bin .add (.t 16) (.c (.int .i64 1))),
mv0 6 17])))
def c9 : AFun :=
{ keep := true, np := 2, nt := 30, res := [.tmp 4], body :=
(.seq (.reg 1 [i0 2 (.box (.t 0)),
i1 4 (.mv (.c (.nils))) 1])
(.seq (.reg 1 [⟨some 5, .mv (.c (.nils)), none, 0, false, [(0, 1)]⟩])
(.seq (.seq (.reg 0 [i0 6 (.mv (.c (.int .i64 0)))])
(.block 0 (.loop false B9_1)))
(.seq (.reg 0 [mv0 29 5,
mv0 4 29])
.ret)))) }
def c10 : AFun :=
{ keep := true, np := 1, nt := 20, res := [.cell 2 3 true, .tmp 3, .tmp 4], body :=
(.seq (.reg 2 [i0 1 (.box (.t 0)),
i1 2 (.alloc [.int .i64 0, .int .i64 0, .nils]) 1,
i1 3 (.mv (.c (.nils))) 2,
i1 4 (.mv (.c (.int .i64 0))) 2])
(.seq (.reg 1 [i0 8 (.ld 3 true (.t 1)),
⟨some 9, .call .iso (.c (.fn 27 [] [])) [(.t 8)], none, 0, true, []⟩,
i1 7 (.mv (.t 9)) 1,
i1 10 (.ext (.t 7) 0) 1,
i1 11 (.ext (.t 7) 1) 1,
i1 5 (.mv (.t 10)) 1,
i1 6 (.mv (.t 11)) 1])
(.seq (.seq (.reg 0 [mv0 12 6,
i0 13 (.bin .neq (.t 12) (.c (.int .i64 0)))])
(.cond (.t 13)
(.seq (.reg 0 [i0 14 (.build [.int .i64 0, .int .i64 0, .nils] []),
mv0 15 6,
⟨none, .st 3 (.t 2) (.t 14), none, 0, false, []⟩,
i0 3 (.mv (.c (.nils))),
mv0 4 15])
.ret)
.skip))
(.seq (.reg 1 [i0 16 (.ld 3 true (.t 1)),
mv0 17 5,
⟨some 18, .call .iso (.c (.fn 32 [] [])) [(.t 16), (.t 17)], none, 0, true, []⟩,
i1 19 (.mv (.t 5)) 1,
⟨none, .st 3 (.t 2) (.t 18), none, 1, false, []⟩,
i1 3 (.mv (.t 19)) 1,
i1 4 (.mv (.c (.int .i64 0))) 1])
.ret)))) }
def c11 : AFun :=
{ keep := true, np := 1, nt := 15, res := [.cell 2 3 true, .tmp 3], body :=
(.seq (.reg 2 [i0 1 (.box (.t 0)),
i1 2 (.alloc [.int .i64 0, .int .i64 0, .nils]) 1,
i1 3 (.mv (.c (.int .i64 0))) 2])
(.seq (.seq (.reg 1 [i0 5 (.ld 3 true (.t 1)),
i0 6 (.call .iso (.c (.fn 18 [] [])) [(.t 5)]),
i1 4 (.mv (.t 6)) 1])
(.seq (.reg 0 [mv0 7 4,
i0 8 (.bin .neq (.t 7) (.c (.int .i64 0)))])
(.cond (.t 8)
(.seq (.reg 0 [i0 9 (.build [.int .i64 0, .int .i64 0, .nils] []),
mv0 10 4,
⟨none, .st 3 (.t 2) (.t 9), none, 0, false, []⟩,
mv0 3 10])
.ret)
.skip)))
(.seq (.regd [[], [], [1], [0, 1, 2], [0, 1, 2, 3], [0, 1, 2, 3, 4]] 2 [i0 11 (.ld 3 true (.t 1)),
i0 12 (.ld 3 true (.t 1)),
⟨some 13, .call .iso (.c (.fn 23 [] [])) [(.t 12)], none, 0, true, []⟩,
⟨some 14, .call .iso (.c (.fn 32 [] [])) [(.t 11), (.t 13)], none, 1, true, []⟩,
⟨none, .st 3 (.t 2) (.t 14), none, 2, false, []⟩,
i1 3 (.mv (.c (.int .i64 0))) 2])
.ret))) }
def c12 : AFun :=
{ keep := true, np := 1, nt := 7, res := [.cell 2 3 true], body :=
(.seq (.reg 2 [i0 1 (.box (.t 0)),
i1 2 (.alloc [.int .i64 0, .int .i64 0, .nils]) 1])
(.seq (.regd [[], [], [1], [0, 1, 2], [0, 1, 2, 3]] 2 [i0 3 (.ld 3 true (.t 1)),
i0 4 (.ld 3 true (.t 1)),
⟨some 5, .call .iso (.c (.fn 34 [] [])) [(.t 4)], none, 0, true, []⟩,
⟨some 6, .call .iso (.c (.fn 35 [] [])) [(.t 3), (.t 5)], none, 1, true, []⟩,
⟨none, .st 3 (.t 2) (.t 6), none, 2, false, []⟩])
.ret)) }
def Yee : AC :=
(.seq (.seq (.reg 0 [mv0 25 7,
fd0 26 2 3,
ld1 27 26,
i0 28 (.len 0 (.t 27)),
i0 29 (.bin .lss (.t 25) (.t 28))])
(.cond (.t 29)
.skip
(.exit 0)))
(.seq (.block 1 (.seq (.regd [[], [0], [], [0, 1, 2], [0, 1, 2, 3], [0, 1, 2, 3, 4], [], [6], [], [6, 7, 8], [6, 7, 8, 9], [6, 7, 8, 9, 10], [0, 1, 2, 3, 4, 5, 6, 7, 8, 9, 10, 11]] 0 [fd0 32 2 3,
ld1 33 32,
mv0 34 7,
ia0 35 1 33 34,
ld1 36 35,
i0 37 (.cap (.t 36)),
fd0 38 2 3,
ld1 39 38,
mv0 40 7,
ia0 41 1 39 40,
ld1 42 41,
i0 43 (.len 0 (.t 42)),
i0 44 (.bin .neq (.t 37) (.t 43))])
(.cond (.t 44)
(.seq (.reg 0 [i0 6 (.mv (.c (.bool false)))])
.ret)
.skip)))
(.reg 0 [mv0 30 7,
i0 31 (.bin .add (.t 30) (.c (.int .i64 1))),
mv0 7 31])))
def c13 : AFun :=
{ keep := true, np := 3, nt := 45, res := [.tmp 6], body :=
(.seq (.reg 2 [i0 3 (.box (.t 0)),
i1 5 (.box (.t 2)) 1,
i1 6 (.mv (.c (.bool false))) 2])
(.seq (.seq (.reg 1 [mv0 8 1,
i0 9 (.bin .neq (.t 8) (.c (.int .i64 0))),
mv0 10 9,
i2 11 (.ld 3 true (.t 3)) 10 false 0,
i2 12 (.ld 3 true (.t 5)) 10 false 0,
i2 13 (.call .iso (.c (.fn 17 [] [])) [(.t 11), (.t 12)]) 10 false 0,
i2 14 (.un .not (.t 13)) 10 false 1,
i1 15 (.pick (.t 10) (.c (.bool true)) (.t 14)) 1,
i1 16 (.mv (.t 15)) 1,
i2 17 (.fad 2 (.t 3)) 16 false 1,
i2 18 (.ld 1 false (.t 17)) 16 false 1,
i2 19 (.cap (.t 18)) 16 false 1,
i2 20 (.fad 2 (.t 3)) 16 false 1,
i2 21 (.ld 1 false (.t 20)) 16 false 1,
i2 22 (.len 0 (.t 21)) 16 false 1,
i2 23 (.bin .neq (.t 19) (.t 22)) 16 false 1,
i1 24 (.pick (.t 16) (.c (.bool true)) (.t 23)) 1])
(.cond (.t 24)
(.seq (.reg 0 [i0 6 (.mv (.c (.bool false)))])
.ret)
.skip))
(.seq (.seq (.reg 0 [i0 7 (.mv (.c (.int .i64 0)))])
(.block 0 (.loop false Yee)))
(.seq (.reg 0 [i0 6 (.mv (.c (.bool true)))])
.ret)))) }
def Yfi : AC :=
(.seq (.seq (.reg 0 [mv0 10 8,
mv0 11 2,
i0 12 (.len 0 (.t 11)),
i0 13 (.bin .lss (.t 10) (.t 12))])
(.cond (.t 13)
.skip
(.exit 0)))
(.seq (.block 1 (.seq (.regd [[], [], [], [], [2, 3], [2, 3, 4], [0, 1, 2, 3, 4, 5], [], [0, 1, 2, 3, 4, 5, 6, 7]] 2 [i0 16 (.ld 3 true (.t 3)),
mv0 17 1,
mv0 18 2,
mv0 19 8,
ia0 20 1 18 19,
ld1 21 20,
i0 22 (.call .iso (.c (.fn 20 [] [])) [(.t 16), (.t 17), (.t 21)]),
i1 9 (.alloc [.int .i64 0, .int .i64 0]) 1,
⟨none, .st 2 (.t 9) (.t 22), none, 2, false, []⟩])
(.seq (.reg 2 [mv0 23 7,
fd0 24 1 9,
ld1 25 24,
i0 26 (.bsl 1 1 [.int .i64 0] [(0, 1, (.t 25))]),
i1 27 (.app 1 8 (.t 23) (.t 26)) 1,
i1 7 (.mv (.t 27)) 2])
(.reg 0 [fd0 28 0 9,
ld1 29 28,
mv0 1 29]))))
(.reg 0 [mv0 14 8,
i0 15 (.bin .add (.t 14) (.c (.int .i64 1))),
mv0 8 15])))
def c14 : AFun :=
{ keep := true, np := 3, nt := 31, res := [.tmp 6], body :=
(.seq (.reg 1 [i0 3 (.box (.t 0)),
i1 6 (.mv (.c (.nils))) 1])
(.seq (.reg 1 [⟨some 7, .mv (.c (.nils)), none, 0, false, [(0, 1)]⟩])
(.seq (.seq (.reg 0 [i0 8 (.mv (.c (.int .i64 0)))])
(.block 0 (.loop false Yfi)))
(.seq (.reg 0 [mv0 30 7,
mv0 6 30])
.ret)))) }
def c15 : AFun :=
{ keep := true, np := 2, nt := 9, res := [.tmp 4], body :=
(.seq (.reg 0 [i0 4 (.mv (.c (.bool false)))])
(.seq (.reg 1 [mv0 5 0,
mv0 6 1,
i0 7 (.call .iso (.c (.fn 22 [] [])) [(.t 5), (.t 6)]),
i1 8 (.bin .eql (.t 7) (.c (.int .i64 0))) 1,
i1 4 (.mv (.t 8)) 1])
.ret)) }
def c16 : AFun :=
{ keep := true, np := 1, nt := 19, res := [.tmp 2, .tmp 3], body :=
(.seq (.reg 1 [i0 1 (.box (.t 0)),
i1 2 (.mv (.c (.bool false))) 1,
i1 3 (.mv (.c (.int .i64 0))) 1])
(.seq (.reg 2 [i0 7 (.ld 3 true (.t 1)),
⟨some 8, .call .iso (.c (.fn 11 [] [])) [(.t 7)], none, 0, true, []⟩,
i1 6 (.mv (.t 8)) 1,
i1 9 (.ext (.t 6) 0) 1,
i1 10 (.ext (.t 6) 1) 1,
i1 4 (.alloc [.int .i64 0, .int .i64 0, .nils]) 1,
⟨none, .st 3 (.t 4) (.t 9), none, 2, false, []⟩,
i1 5 (.mv (.t 10)) 2])
(.seq (.reg 1 [mv0 11 5,
i0 12 (.bin .eql (.t 11) (.c (.int .i64 0))),
mv0 13 12,
i2 14 (.ld 3 true (.t 4)) 13 true 0,
i2 15 (.ld 3 true (.t 1)) 13 true 0,
i2 16 (.call .iso (.c (.fn 36 [] [])) [(.t 14), (.t 15)]) 13 true 0,
i1 17 (.pick (.t 13) (.t 16) (.c (.bool false))) 1,
i1 18 (.mv (.t 5)) 1,
i1 2 (.mv (.t 17)) 1,
i1 3 (.mv (.t 18)) 1])
.ret))) }
def Yea : AC :=
(.seq (.seq (.reg 0 [mv0 48 6,
fd0 49 2 2,
ld1 50 49,
mv0 51 5,
ia0 52 1 50 51,
ld1 53 52,
i0 54 (.len 0 (.t 53)),
i0 55 (.bin .lss (.t 48) (.t 54))])
(.cond (.t 55)
.skip
(.exit 2)))
(.seq (.block 3 (.seq (.regd [[], [0], [], [0, 1, 2], [0, 1, 2, 3], [], [0, 1, 2, 3, 4, 5], [0, 1, 2, 3, 4, 5, 6], [], [8], [], [8, 9, 10], [8, 9, 10, 11], [], [8, 9, 10, 11, 12, 13], [8, 9, 10, 11, 12, 13, 14], [0, 1, 2, 3, 4, 5, 6, 7, 8, 9, 10, 11, 12, 13, 14, 15]] 0 [fd0 58 2 2,
ld1 59 58,
mv0 60 5,
ia0 61 1 59 60,
ld1 62 61,
mv0 63 6,
ia0 64 2 62 63,
i0 65 (.ld 2 true (.t 64)),
fd0 66 2 3,
ld1 67 66,
mv0 68 5,
ia0 69 1 67 68,
ld1 70 69,
mv0 71 6,
ia0 72 2 70 71,
i0 73 (.ld 2 true (.t 72)),
i0 74 (.eqb true true [.i, .i] (.t 65) (.t 73))])
(.cond (.t 74)
(.seq (.reg 0 [i0 4 (.mv (.c (.bool false)))])
.ret)
.skip)))
(.reg 0 [mv0 56 6,
i0 57 (.bin .add (.t 56) (.c (.int .i64 1))),
mv0 6 57])))
def Yhs : AC :=
(.seq (.seq (.reg 0 [mv0 28 5,
fd0 29 2 2,
ld1 30 29,
i0 31 (.len 0 (.t 30)),
i0 32 (.bin .lss (.t 28) (.t 31))])
(.cond (.t 32)
.skip
(.exit 0)))
(.seq (.block 1 (.seq (.seq (.regd [[], [0], [], [0, 1, 2], [0, 1, 2, 3], [0, 1, 2, 3, 4], [], [6], [], [6, 7, 8], [6, 7, 8, 9], [6, 7, 8, 9, 10], [0, 1, 2, 3, 4, 5, 6, 7, 8, 9, 10, 11]] 0 [fd0 35 2 2,
ld1 36 35,
mv0 37 5,
ia0 38 1 36 37,
ld1 39 38,
i0 40 (.len 0 (.t 39)),
fd0 41 2 3,
ld1 42 41,
mv0 43 5,
ia0 44 1 42 43,
ld1 45 44,
i0 46 (.len 0 (.t 45)),
i0 47 (.bin .neq (.t 40) (.t 46))])
(.cond (.t 47)
(.seq (.reg 0 [i0 4 (.mv (.c (.bool false)))])
.ret)
.skip))
(.seq (.reg 0 [i0 6 (.mv (.c (.int .i64 0)))])
(.block 2 (.loop false Yea)))))
(.reg 0 [mv0 33 5,
i0 34 (.bin .add (.t 33) (.c (.int .i64 1))),
mv0 5 34])))
def c17 : AFun :=
{ keep := true, np := 2, nt := 75, res := [.tmp 4], body :=
(.seq (.reg 2 [i0 2 (.box (.t 0)),
i1 3 (.box (.t 1)) 1,
i1 4 (.mv (.c (.bool false))) 2])
(.seq (.seq (.reg 0 [fd0 7 0 2,
ld1 8 7,
fd0 9 0 3,
ld1 10 9,
i0 11 (.bin .neq (.t 8) (.t 10)),
mv0 12 11,
i2 13 (.fad 1 (.t 2)) 12 false 0,
i2 14 (.ld 1 false (.t 13)) 12 false 0,
i2 15 (.fad 1 (.t 3)) 12 false 0,
i2 16 (.ld 1 false (.t 15)) 12 false 0,
i2 17 (.bin .neq (.t 14) (.t 16)) 12 false 0,
i0 18 (.pick (.t 12) (.c (.bool true)) (.t 17)),
mv0 19 18,
i2 20 (.fad 2 (.t 2)) 19 false 0,
i2 21 (.ld 1 false (.t 20)) 19 false 0,
i2 22 (.len 0 (.t 21)) 19 false 0,
i2 23 (.fad 2 (.t 3)) 19 false 0,
i2 24 (.ld 1 false (.t 23)) 19 false 0,
i2 25 (.len 0 (.t 24)) 19 false 0,
i2 26 (.bin .neq (.t 22) (.t 25)) 19 false 0,
i0 27 (.pick (.t 19) (.c (.bool true)) (.t 26))])
(.cond (.t 27)
(.seq (.reg 0 [i0 4 (.mv (.c (.bool false)))])
.ret)
.skip))
(.seq (.seq (.reg 0 [i0 5 (.mv (.c (.int .i64 0)))])
(.block 0 (.loop false Yhs)))
(.seq (.reg 0 [i0 4 (.mv (.c (.bool true)))])
.ret)))) }
def Yfj : AC :=
(.seq (.reg 0 [i0 37 (.bin .lss (.t 36) (.t 35))])
(.seq (.cond (.t 37)
.skip
(.exit 0))
(.seq (.block 1 (.seq (.reg 0 [ia0 38 1 34 36,
ld1 39 38,
mv0 4 39])
(.seq (.reg 1 [mv0 40 4,
i0 41 (.len 0 (.t 40)),
fd0 42 0 1,
ld1 43 42,
i0 44 (.bin .neq (.t 41) (.t 43)),
mv0 45 44,
i2 46 (.mv (.t 4)) 45 false 0,
i2 47 (.mkf 56 [] [(.t 1)]) 45 false 0,
i2 48 (.call .iso (.c (.fn 54 [] [])) [(.t 46), (.t 47)]) 45 false 0,
i1 49 (.pick (.t 45) (.c (.bool true)) (.t 48)) 1])
(.cond (.t 49)
(.seq (.reg 0 [i0 2 (.mv (.c (.int .i64 1)))])
.ret)
.skip))))
(.reg 0 [i0 50 (.bin .add (.t 36) (.c (.int .i64 1))),
mv0 36 50]))))
def c18 : AFun :=
{ keep := true, np := 1, nt := 51, res := [.tmp 2], body :=
(.seq (.reg 1 [i0 1 (.box (.t 0)),
i1 2 (.mv (.c (.int .i64 0))) 1])
(.seq (.seq (.reg 0 [fd0 5 0 1,
ld1 6 5,
i0 7 (.bin .gtr (.t 6) (.c (.int .i64 16))),
mv0 8 7,
i2 9 (.fad 1 (.t 1)) 8 false 0,
i2 10 (.ld 1 false (.t 9)) 8 false 0,
i2 11 (.bin .gtr (.t 10) (.c (.int .i64 16))) 8 false 0,
i0 12 (.pick (.t 8) (.c (.bool true)) (.t 11)),
mv0 13 12,
i2 14 (.fad 2 (.t 1)) 13 false 0,
i2 15 (.ld 1 false (.t 14)) 13 false 0,
i2 16 (.len 0 (.t 15)) 13 false 0,
i2 17 (.bin .gtr (.t 16) (.c (.int .i64 64))) 13 false 0,
i0 18 (.pick (.t 13) (.c (.bool true)) (.t 17))])
(.cond (.t 18)
(.seq (.reg 0 [i0 2 (.mv (.c (.int .i64 3)))])
.ret)
.skip))
(.seq (.seq (.reg 0 [fd0 19 0 1,
ld1 20 19,
i0 21 (.bin .lss (.t 20) (.c (.int .i64 1))),
mv0 22 21,
i2 23 (.fad 1 (.t 1)) 22 false 0,
i2 24 (.ld 1 false (.t 23)) 22 false 0,
i2 25 (.bin .lss (.t 24) (.c (.int .i64 1))) 22 false 0,
i0 26 (.pick (.t 22) (.c (.bool true)) (.t 25)),
mv0 27 26,
i2 28 (.fad 2 (.t 1)) 27 false 0,
i2 29 (.ld 1 false (.t 28)) 27 false 0,
i2 30 (.len 0 (.t 29)) 27 false 0,
i2 31 (.bin .lss (.t 30) (.c (.int .i64 1))) 27 false 0,
i0 32 (.pick (.t 27) (.c (.bool true)) (.t 31))])
(.cond (.t 32)
(.seq (.reg 0 [i0 2 (.mv (.c (.int .i64 1)))])
.ret)
.skip))
(.seq (.seq (.reg 0 [fd0 33 2 1,
ld1 34 33,
i0 35 (.len 0 (.t 34)),
i0 36 (.mv (.c (.int .i64 0)))])
(.block 0 (.loop false Yfj)))
(.seq (.reg 0 [i0 2 (.mv (.c (.int .i64 0)))])
.ret))))) }
def Zpb : AC :=
(.reg 1 [i0 8 (.alloc [.int .i64 0, .int .i64 0, .int .i64 0]),
⟨none, .st 3 (.t 8) (.t 20), none, 1, false, []⟩])
def Zol : AC :=
(.block 1 (.seq (.reg 0 [ld1 21 7,
fd0 22 0 8,
ld1 23 22,
ia0 24 1 21 23,
⟨none, .st 1 (.t 24) (.c (.bool true)), none, 0, false, []⟩])
(.seq (.reg 0 [fd0 25 1 8,
ld1 26 25,
i0 27 (.bin .neq (.t 26) (.c (.int .i64 (-1))))])
(.cond (.t 27)
(.regd [[], [], [1], [], [], [4], [3, 4, 5], [3, 4, 5, 6], [3, 4, 5, 6, 7], [], [9], [9, 10], [3, 4, 5, 6, 7, 8, 9, 10, 11], [3, 4, 5, 6, 7, 8, 9, 10, 11, 12], [0, 1, 2, 3, 4, 5, 6, 7, 8, 9, 10, 11, 12, 13], [0, 1, 2, 3, 4, 5, 6, 7, 8, 9, 10, 11, 12, 13, 14]] 4 [ld1 28 6,
fd0 29 0 8,
ld1 30 29,
ld1 31 6,
fd0 32 1 8,
ld1 33 32,
ia0 34 1 31 33,
ld1 35 34,
i0 36 (.call .fresh (.c (.fn 44 [] [])) [(.t 35)]),
i1 37 (.fad 2 (.t 8)) 1,
i1 38 (.ld 1 false (.t 37)) 1,
i1 39 (.bsl 1 1 [.int .i64 0] [(0, 1, (.t 38))]) 1,
i1 40 (.app 1 8 (.t 36) (.t 39)) 2,
⟨some 41, .call .iso (.c (.fn 26 [] [])) [(.t 40)], none, 3, true, []⟩,
i1 42 (.iad 1 (.t 28) (.t 30)) 4,
⟨none, .st 1 (.t 42) (.t 41), none, 4, false, []⟩])
.skip))))
def c19 : AFun :=
{ keep := true, np := 2, nt := 45, res := [.tmp 4, .tmp 5], body :=
(.seq (.reg 1 [i0 2 (.box (.t 0)),
i1 4 (.mv (.c (.nils))) 1,
i1 5 (.mv (.c (.nils))) 1])
(.seq (.regd [[], [0], [0, 1], [0, 1, 2], [], [4], [4, 5], [4, 5, 6], [], [], [0, 1, 2, 3, 8, 9], [0, 1, 2, 3, 4, 5, 6, 7, 8, 9, 10]] 4 [fd0 9 2 2,
ld1 10 9,
i0 11 (.len 0 (.t 10)),
i0 12 (.mks 1 24 [.nils] (.t 11) (.t 11)),
i1 13 (.fad 2 (.t 2)) 1,
i1 14 (.ld 1 false (.t 13)) 1,
i1 15 (.len 0 (.t 14)) 1,
i1 16 (.mks 1 1 [.bool false] (.t 15) (.t 15)) 1,
i1 6 (.alloc [.nils]) 2,
i1 7 (.alloc [.nils]) 3,
⟨none, .st 1 (.t 6) (.t 12), none, 4, false, []⟩,
⟨none, .st 1 (.t 7) (.t 16), none, 4, false, []⟩])
(.seq (.seq (.reg 1 [i0 17 (.ld 3 true (.t 2)),
mv0 18 1,
i0 19 (.call .raw (.c (.fn 43 [] [])) [(.t 17), (.t 18)])])
(.block 0 (.rngf false (.t 19) [20] Zpb Zol)))
(.seq (.regd [[], [], [0], [0, 1, 2]] 0 [ld1 43 6,
ld1 44 7,
mv0 4 43,
mv0 5 44])
.ret)))) }
def c20 : AFun :=
{ keep := true, np := 3, nt := 18, res := [.cell 6 2 true], body :=
(.seq (.reg 2 [i0 3 (.box (.t 0)),
i1 6 (.alloc [.int .i64 0, .int .i64 0]) 1])
(.seq (.seq (.reg 0 [mv0 7 1,
i0 8 (.bin .lss (.t 7) (.c (.int .i64 0)))])
(.cond (.t 8)
(.seq (.reg 0 [i0 9 (.build [.int .i64 0, .int .i64 0] [(0, 1, (.c (.int .i64 (-1)))), (1, 1, (.c (.int .i64 (-1))))]),
⟨none, .st 2 (.t 6) (.t 9), none, 0, false, []⟩])
.ret)
.skip))
(.seq (.reg 0 [fd0 10 2 3,
ld1 11 10,
mv0 12 1,
ia0 13 1 11 12,
ld1 14 13,
mv0 15 2,
ia0 16 2 14 15,
i0 17 (.ld 2 true (.t 16)),
⟨none, .st 2 (.t 6) (.t 17), none, 0, false, []⟩])
.ret))) }
def c21 : AFun :=
{ keep := true, np := 3, nt := 22, res := [.tmp 6], body :=
(.seq (.reg 1 [i0 3 (.box (.t 0)),
i1 6 (.mv (.c (.int .i64 0))) 1])
(.seq (.seq (.reg 0 [mv0 7 2,
i0 8 (.len 0 (.t 7)),
i0 9 (.bin .eql (.t 8) (.c (.int .i64 0)))])
(.cond (.t 9)
(.seq (.reg 0 [mv0 10 1,
mv0 6 10])
.ret)
.skip))
(.seq (.regd [[], [], [], [], [3], [3, 4], [1, 2, 3, 4, 5], [1, 2, 3, 4, 5, 6], [], [8], [0, 1, 2, 3, 4, 5, 6, 7, 8, 9], [0, 1, 2, 3, 4, 5, 6, 7, 8, 9, 10]] 2 [i0 11 (.ld 3 true (.t 3)),
i0 12 (.ld 3 true (.t 3)),
mv0 13 1,
mv0 14 2,
i0 15 (.iad 1 (.t 14) (.c (.int .i64 0))),
ld1 16 15,
i0 17 (.call .iso (.c (.fn 20 [] [])) [(.t 12), (.t 13), (.t 16)]),
i1 18 (.fld 0 1 false (.t 17)) 1,
i1 19 (.mv (.t 2)) 1,
i1 20 (.slc 1 (.t 19) (some (.c (.int .i64 1))) none none) 1,
i1 21 (.call .iso (.c (.fn 21 [] [])) [(.t 11), (.t 18), (.t 20)]) 1,
i1 6 (.mv (.t 21)) 2])
.ret))) }
def Yfa : AC :=
(.seq (.seq (.reg 0 [mv0 16 5,
mv0 17 0,
i0 18 (.len 0 (.t 17)),
i0 19 (.bin .lss (.t 16) (.t 18))])
(.cond (.t 19)
.skip
(.exit 0)))
(.seq (.block 1 (.seq (.seq (.regd [[], [], [0, 1], [0, 1, 2], [], [], [4, 5], [4, 5, 6], [0, 1, 2, 3, 4, 5, 6, 7]] 0 [mv0 22 0,
mv0 23 5,
ia0 24 1 22 23,
ld1 25 24,
mv0 26 1,
mv0 27 5,
ia0 28 1 26 27,
ld1 29 28,
i0 30 (.bin .lss (.t 25) (.t 29))])
(.cond (.t 30)
(.seq (.reg 0 [i0 4 (.mv (.c (.int .i64 (-1))))])
.ret)
.skip))
(.seq (.regd [[], [], [0, 1], [0, 1, 2], [], [], [4, 5], [4, 5, 6], [0, 1, 2, 3, 4, 5, 6, 7]] 0 [mv0 31 0,
mv0 32 5,
ia0 33 1 31 32,
ld1 34 33,
mv0 35 1,
mv0 36 5,
ia0 37 1 35 36,
ld1 38 37,
i0 39 (.bin .gtr (.t 34) (.t 38))])
(.cond (.t 39)
(.seq (.reg 0 [i0 4 (.mv (.c (.int .i64 1)))])
.ret)
.skip))))
(.reg 0 [mv0 20 5,
i0 21 (.bin .add (.t 20) (.c (.int .i64 1))),
mv0 5 21])))
def c22 : AFun :=
{ keep := true, np := 2, nt := 40, res := [.tmp 4], body :=
(.seq (.reg 0 [i0 4 (.mv (.c (.int .i64 0)))])
(.seq (.seq (.reg 0 [mv0 6 0,
i0 7 (.len 0 (.t 6)),
mv0 8 1,
i0 9 (.len 0 (.t 8)),
i0 10 (.bin .lss (.t 7) (.t 9))])
(.cond (.t 10)
(.seq (.reg 0 [i0 4 (.mv (.c (.int .i64 (-1))))])
.ret)
.skip))
(.seq (.seq (.reg 0 [mv0 11 0,
i0 12 (.len 0 (.t 11)),
mv0 13 1,
i0 14 (.len 0 (.t 13)),
i0 15 (.bin .gtr (.t 12) (.t 14))])
(.cond (.t 15)
(.seq (.reg 0 [i0 4 (.mv (.c (.int .i64 1)))])
.ret)
.skip))
(.seq (.seq (.reg 0 [i0 5 (.mv (.c (.int .i64 0)))])
(.block 0 (.loop false Yfa)))
(.seq (.reg 0 [i0 4 (.mv (.c (.int .i64 0)))])
.ret))))) }
def Zoz : AC :=
(.reg 1 [i0 4 (.alloc [.int .i64 0, .int .i64 0, .int .i64 0]),
⟨none, .st 3 (.t 4) (.t 7), none, 1, false, []⟩])
def Zpi : AC :=
(.block 1 (.reg 2 [ld1 8 3,
fd0 9 0 4,
ld1 10 9,
i0 11 (.bsl 1 1 [.int .i64 0] [(0, 1, (.t 10))]),
i1 12 (.app 1 8 (.t 8) (.t 11)) 1,
⟨none, .st 1 (.t 3) (.t 12), none, 2, false, []⟩]))
def c23 : AFun :=
{ keep := true, np := 1, nt := 14, res := [.tmp 2], body :=
(.seq (.reg 1 [i0 1 (.box (.t 0)),
i1 2 (.mv (.c (.nils))) 1])
(.seq (.reg 2 [⟨some 3, .alloc [.nils], none, 0, false, [(0, 1)]⟩])
(.seq (.seq (.reg 1 [i0 5 (.ld 3 true (.t 1)),
i0 6 (.call .raw (.c (.fn 43 [] [])) [(.t 5), (.c (.int .i64 0))])])
(.block 0 (.rngf false (.t 6) [7] Zoz Zpi)))
(.seq (.reg 0 [ld1 13 3,
mv0 2 13])
.ret)))) }
def c24 : AFun :=
{ keep := true, np := 1, nt := 4, res := [.tmp 2], body :=
(.seq (.reg 1 [i0 1 (.box (.t 0)),
i1 2 (.mv (.c (.nilf))) 1])
(.seq (.reg 0 [i0 3 (.mkf 47 [] [(.t 1)]),
mv0 2 3])
.ret)) }
def c25 : AFun :=
{ keep := true, np := 1, nt := 9, res := [.tmp 2], body :=
(.seq (.reg 0 [i0 2 (.mv (.c (.nils)))])
(.seq (.reg 1 [mv0 4 0,
i0 5 (.call .raw (.c (.fn 45 [] [])) [(.t 4)]),
i1 3 (.mv (.t 5)) 1])
(.seq (.reg 1 [mv0 6 3,
i0 7 (.call .raw (.c (.fn 46 [] [])) [(.t 6)])])
(.seq (.reg 0 [mv0 8 3,
mv0 2 8])
.ret)))) }
def c26 : AFun :=
{ keep := true, np := 1, nt := 9, res := [.tmp 2], body :=
(.seq (.reg 0 [i0 2 (.mv (.c (.nils)))])
(.seq (.reg 0 [mv0 3 0,
mv0 4 0,
i0 5 (.len 0 (.t 4)),
mv0 6 0,
i0 7 (.len 0 (.t 6)),
i0 8 (.slc 1 (.t 3) none (some (.t 5)) (some (.t 7))),
mv0 2 8])
.ret)) }
def c27 : AFun :=
{ keep := true, np := 1, nt := 15, res := [.tmp 2, .tmp 3], body :=
(.seq (.reg 1 [i0 1 (.box (.t 0)),
i1 2 (.mv (.c (.nils))) 1,
i1 3 (.mv (.c (.int .i64 0))) 1])
(.seq (.seq (.reg 1 [i0 5 (.ld 3 true (.t 1)),
i0 6 (.call .iso (.c (.fn 18 [] [])) [(.t 5)]),
i1 4 (.mv (.t 6)) 1])
(.seq (.reg 0 [mv0 7 4,
i0 8 (.bin .neq (.t 7) (.c (.int .i64 0)))])
(.cond (.t 8)
(.seq (.reg 0 [mv0 9 4,
i0 2 (.mv (.c (.nils))),
mv0 3 9])
.ret)
.skip)))
(.seq (.reg 4 [i0 10 (.ld 3 true (.t 1)),
⟨some 11, .call .iso (.c (.fn 23 [] [])) [(.t 10)], none, 0, true, []⟩,
i1 12 (.call .raw (.c (.fn 24 [] [])) [(.t 11)]) 1,
i1 13 (.call .raw (.c (.fn 25 [] [])) [(.t 12)]) 2,
⟨some 14, .call .iso (.c (.fn 26 [] [])) [(.t 13)], none, 3, true, []⟩,
i1 2 (.mv (.t 14)) 4,
i1 3 (.mv (.c (.int .i64 0))) 4])
.ret))) }
def c28 : AFun :=
{ keep := true, np := 2, nt := 8, res := [.cell 4 2 true], body :=
(.seq (.reg 1 [i0 4 (.alloc [.int .i64 0, .int .i64 0])])
(.seq (.reg 0 [mv0 5 0,
mv0 6 1,
i0 7 (.build [.int .i64 0, .int .i64 0] [(0, 1, (.t 5)), (1, 1, (.t 6))]),
⟨none, .st 2 (.t 4) (.t 7), none, 0, false, []⟩])
.ret)) }
def Yhd : AC :=
(.seq (.reg 0 [i0 42 (.bin .lss (.t 41) (.t 40))])
(.seq (.cond (.t 42)
.skip
(.exit 0))
(.seq (.block 1 (.seq (.reg 0 [mv0 43 41,
ia0 44 1 39 41,
ld1 45 44,
mv0 11 43,
mv0 12 45])
(.reg 0 [mv0 46 10,
mv0 47 12,
mv0 48 9,
mv0 49 11,
ia0 50 1 48 49,
ld1 51 50,
ia0 52 1 46 47,
⟨none, .st 1 (.t 52) (.t 51), none, 0, false, []⟩])))
(.reg 0 [i0 53 (.bin .add (.t 41) (.c (.int .i64 1))),
mv0 41 53]))))
def c29 : AFun :=
{ keep := true, np := 2, nt := 56, res := [.tmp 4, .tmp 5, .tmp 6], body :=
(.seq (.reg 2 [i0 2 (.box (.t 0)),
i1 3 (.box (.t 1)) 1,
i1 4 (.mv (.c (.nils))) 2,
i1 5 (.mv (.c (.bool false))) 2,
i1 6 (.mv (.c (.int .i64 0))) 2])
(.seq (.seq (.regd [[], [0], [], [0, 1, 2], [0, 1, 2, 3], [0, 1, 2, 3, 4], [0, 1, 2, 3, 4, 5]] 4 [i0 13 (.ld 3 true (.t 2)),
i0 14 (.call .iso (.c (.fn 18 [] [])) [(.t 13)]),
i1 15 (.ld 3 true (.t 3)) 1,
i1 16 (.call .iso (.c (.fn 18 [] [])) [(.t 15)]) 1,
i1 17 (.bsl 1 2 [.int .i64 0] [(0, 1, (.t 14)), (1, 1, (.t 16))]) 2,
i1 18 (.call .iso (.c (.fn 37 [] [])) [(.t 17)]) 3,
i1 7 (.mv (.t 18)) 4])
(.seq (.reg 0 [mv0 19 7,
i0 20 (.bin .neq (.t 19) (.c (.int .i64 0)))])
(.cond (.t 20)
(.seq (.reg 0 [mv0 21 7,
i0 4 (.mv (.c (.nils))),
i0 5 (.mv (.c (.bool false))),
mv0 6 21])
.ret)
.skip)))
(.seq (.regd [[], [0], [], [0, 1, 2], [0, 1, 2, 3], [0, 1, 2, 3, 4]] 2 [i0 22 (.ld 3 true (.t 2)),
⟨some 23, .call .iso (.c (.fn 23 [] [])) [(.t 22)], none, 0, true, []⟩,
i1 24 (.ld 3 true (.t 3)) 1,
⟨some 25, .call .iso (.c (.fn 23 [] [])) [(.t 24)], none, 1, true, []⟩,
i1 8 (.mv (.t 23)) 2,
i1 9 (.mv (.t 25)) 2])
(.seq (.seq (.regd [[], [], [0, 1], [], [], [0, 1, 2, 3, 4], [0, 1, 2, 3, 4, 5], [0, 1, 2, 3, 4, 5, 6]] 3 [i0 26 (.ld 3 true (.t 2)),
mv0 27 8,
⟨some 28, .call .iso (.c (.fn 32 [] [])) [(.t 26), (.t 27)], none, 0, true, []⟩,
i1 29 (.ld 3 true (.t 3)) 1,
i1 30 (.mv (.t 9)) 1,
⟨some 31, .call .iso (.c (.fn 32 [] [])) [(.t 29), (.t 30)], none, 1, true, []⟩,
i1 32 (.call .iso (.c (.fn 36 [] [])) [(.t 28), (.t 31)]) 2,
i1 33 (.un .not (.t 32)) 3])
(.cond (.t 33)
(.seq (.reg 0 [i0 4 (.mv (.c (.nils))),
i0 5 (.mv (.c (.bool false))),
i0 6 (.mv (.c (.int .i64 0)))])
.ret)
.skip))
(.seq (.reg 2 [i0 34 (.bsl 1 1 [.int .i64 0] [(0, 1, (.c (.int .i64 (-1))))]),
i1 35 (.fad 2 (.t 2)) 1,
i1 36 (.ld 1 false (.t 35)) 1,
i1 37 (.len 0 (.t 36)) 1,
i1 38 (.call .fresh (.c (.fn 38 [] [])) [(.t 34), (.t 37)]) 1,
i1 10 (.mv (.t 38)) 2])
(.seq (.seq (.reg 0 [mv0 39 8,
i0 40 (.len 0 (.t 39)),
i0 41 (.mv (.c (.int .i64 0)))])
(.block 0 (.loop false Yhd)))
(.seq (.reg 1 [mv0 54 10,
⟨some 55, .call .iso (.c (.fn 26 [] [])) [(.t 54)], none, 0, true, []⟩,
i1 4 (.mv (.t 55)) 1,
i1 5 (.mv (.c (.bool true))) 1,
i1 6 (.mv (.c (.int .i64 0))) 1])
.ret))))))) }
def c30 : AFun :=
{ keep := true, np := 0, nt := 266, res := [.tmp 0], body :=
(.seq (.reg 0 [i0 0 (.mv (.c (.bool false)))])
(.seq (.reg 14 [i0 32 (.call .iso (.c (.fn 28 [] [])) [(.c (.int .i64 2)), (.c (.int .i64 0))]),
i1 33 (.call .iso (.c (.fn 28 [] [])) [(.c (.int .i64 0)), (.c (.int .i64 1))]) 1,
i1 34 (.bsl 2 2 [.int .i64 0, .int .i64 0] [(0, 2, (.t 32)), (2, 2, (.t 33))]) 2,
i1 35 (.call .iso (.c (.fn 28 [] [])) [(.c (.int .i64 1)), (.c (.int .i64 0))]) 3,
i1 36 (.call .iso (.c (.fn 28 [] [])) [(.c (.int .i64 2)), (.c (.int .i64 0))]) 4,
i1 37 (.bsl 2 2 [.int .i64 0, .int .i64 0] [(0, 2, (.t 35)), (2, 2, (.t 36))]) 5,
i1 38 (.call .iso (.c (.fn 28 [] [])) [(.c (.int .i64 (-1))), (.c (.int .i64 (-1)))]) 6,
i1 39 (.call .iso (.c (.fn 28 [] [])) [(.c (.int .i64 3)), (.c (.int .i64 1))]) 7,
i1 40 (.bsl 2 2 [.int .i64 0, .int .i64 0] [(0, 2, (.t 38)), (2, 2, (.t 39))]) 8,
i1 41 (.call .iso (.c (.fn 28 [] [])) [(.c (.int .i64 2)), (.c (.int .i64 0))]) 9,
i1 42 (.call .iso (.c (.fn 28 [] [])) [(.c (.int .i64 0)), (.c (.int .i64 0))]) 10,
i1 43 (.bsl 2 2 [.int .i64 0, .int .i64 0] [(0, 2, (.t 41)), (2, 2, (.t 42))]) 11,
⟨some 44, .bsl 1 4 [.nils] [(0, 1, (.t 34)), (1, 1, (.t 37)), (2, 1, (.t 40)), (3, 1, (.t 43))], none, 12, true, []⟩,
⟨some 45, .build [.int .i64 0, .int .i64 0, .nils] [(0, 1, (.c (.int .i64 2))), (1, 1, (.c (.int .i64 2))), (2, 1, (.t 44))], none, 13, true, []⟩,
i1 1 (.alloc [.int .i64 0, .int .i64 0, .nils]) 13,
⟨none, .st 3 (.t 1) (.t 45), none, 14, false, []⟩])
(.seq (.reg 11 [i0 46 (.call .iso (.c (.fn 28 [] [])) [(.c (.int .i64 1)), (.c (.int .i64 0))]),
i1 47 (.call .iso (.c (.fn 28 [] [])) [(.c (.int .i64 0)), (.c (.int .i64 1))]) 1,
i1 48 (.bsl 2 2 [.int .i64 0, .int .i64 0] [(0, 2, (.t 46)), (2, 2, (.t 47))]) 2,
i1 49 (.call .iso (.c (.fn 28 [] [])) [(.c (.int .i64 (-1))), (.c (.int .i64 (-1)))]) 3,
i1 50 (.call .iso (.c (.fn 28 [] [])) [(.c (.int .i64 2)), (.c (.int .i64 1))]) 4,
i1 51 (.bsl 2 2 [.int .i64 0, .int .i64 0] [(0, 2, (.t 49)), (2, 2, (.t 50))]) 5,
i1 52 (.call .iso (.c (.fn 28 [] [])) [(.c (.int .i64 1)), (.c (.int .i64 0))]) 6,
i1 53 (.call .iso (.c (.fn 28 [] [])) [(.c (.int .i64 0)), (.c (.int .i64 0))]) 7,
i1 54 (.bsl 2 2 [.int .i64 0, .int .i64 0] [(0, 2, (.t 52)), (2, 2, (.t 53))]) 8,
⟨some 55, .bsl 1 3 [.nils] [(0, 1, (.t 48)), (1, 1, (.t 51)), (2, 1, (.t 54))], none, 9, true, []⟩,
⟨some 56, .build [.int .i64 0, .int .i64 0, .nils] [(0, 1, (.c (.int .i64 2))), (1, 1, (.c (.int .i64 2))), (2, 1, (.t 55))], none, 10, true, []⟩,
i1 2 (.alloc [.int .i64 0, .int .i64 0, .nils]) 10,
⟨none, .st 3 (.t 2) (.t 56), none, 11, false, []⟩])
(.seq (.reg 1 [i0 58 (.ld 3 true (.t 1)),
⟨some 59, .call .iso (.c (.fn 27 [] [])) [(.t 58)], none, 0, true, []⟩,
i1 57 (.mv (.t 59)) 1,
i1 60 (.ext (.t 57) 0) 1,
i1 61 (.ext (.t 57) 1) 1,
i1 3 (.mv (.t 60)) 1,
i1 4 (.mv (.t 61)) 1])
(.seq (.reg 1 [i0 63 (.ld 3 true (.t 1)),
⟨some 64, .call .iso (.c (.fn 3 [] [])) [(.t 63)], none, 0, true, []⟩,
i1 62 (.mv (.t 64)) 1,
i1 65 (.ext (.t 62) 0) 1,
i1 66 (.ext (.t 62) 1) 1,
i1 67 (.ext (.t 62) 2) 1,
i1 5 (.mv (.t 65)) 1,
i1 6 (.mv (.t 66)) 1,
i1 7 (.mv (.t 67)) 1])
(.seq (.seq (.reg 8 [mv0 68 3,
mv0 69 4,
i0 70 (.bsl 1 3 [.int .i64 0] [(0, 1, (.c (.int .i64 0))), (1, 1, (.c (.int .i64 2))), (2, 1, (.c (.int .i64 3)))]),
i1 71 (.call .iso (.c (.fn 8 [] [])) [(.t 68), (.t 69), (.t 70), (.c (.int .i64 0))]) 1,
i1 72 (.un .not (.t 71)) 2,
i1 73 (.mv (.t 72)) 2,
i2 74 (.mv (.t 7)) 73 false 2,
i2 75 (.bin .neq (.t 74) (.c (.int .i64 0))) 73 false 2,
i1 76 (.pick (.t 73) (.c (.bool true)) (.t 75)) 2,
i1 77 (.mv (.t 76)) 2,
i2 78 (.mv (.t 5)) 77 false 2,
i2 79 (.len 0 (.t 78)) 77 false 2,
i2 80 (.bin .neq (.t 79) (.c (.int .i64 4))) 77 false 2,
i1 81 (.pick (.t 77) (.c (.bool true)) (.t 80)) 2,
i1 82 (.mv (.t 81)) 2,
i2 83 (.mv (.t 6)) 82 false 2,
i2 84 (.len 0 (.t 83)) 82 false 2,
i2 85 (.bin .neq (.t 84) (.c (.int .i64 4))) 82 false 2,
i1 86 (.pick (.t 82) (.c (.bool true)) (.t 85)) 2,
i1 87 (.mv (.t 86)) 2,
i2 88 (.mv (.t 6)) 87 false 2,
i2 89 (.iad 1 (.t 88) (.c (.int .i64 0))) 87 false 2,
i2 90 (.ld 1 false (.t 89)) 87 false 2,
i2 91 (.un .not (.t 90)) 87 false 2,
i1 92 (.pick (.t 87) (.c (.bool true)) (.t 91)) 2,
i1 93 (.mv (.t 92)) 2,
i2 94 (.mv (.t 6)) 93 false 2,
i2 95 (.iad 1 (.t 94) (.c (.int .i64 1))) 93 false 2,
i2 96 (.ld 1 false (.t 95)) 93 false 2,
i1 97 (.pick (.t 93) (.c (.bool true)) (.t 96)) 2,
i1 98 (.mv (.t 97)) 2,
i2 99 (.mv (.t 6)) 98 false 2,
i2 100 (.iad 1 (.t 99) (.c (.int .i64 2))) 98 false 2,
i2 101 (.ld 1 false (.t 100)) 98 false 2,
i2 102 (.un .not (.t 101)) 98 false 2,
i1 103 (.pick (.t 98) (.c (.bool true)) (.t 102)) 2,
i1 104 (.mv (.t 103)) 2,
i2 105 (.mv (.t 6)) 104 false 2,
i2 106 (.iad 1 (.t 105) (.c (.int .i64 3))) 104 false 2,
i2 107 (.ld 1 false (.t 106)) 104 false 2,
i2 108 (.un .not (.t 107)) 104 false 2,
i1 109 (.pick (.t 104) (.c (.bool true)) (.t 108)) 2,
i1 110 (.mv (.t 109)) 2,
i2 111 (.mv (.t 5)) 110 false 2,
i2 112 (.iad 1 (.t 111) (.c (.int .i64 0))) 110 false 2,
i2 113 (.ld 1 false (.t 112)) 110 false 2,
i2 114 (.call .iso (.c (.fn 8 [] [])) [(.t 113), (.c (.int .i64 0)), (.c (.nils)), (.c (.int .i64 0))]) 110 false 2,
i2 115 (.un .not (.t 114)) 110 false 3,
i1 116 (.pick (.t 110) (.c (.bool true)) (.t 115)) 3,
i1 117 (.mv (.t 116)) 3,
i2 118 (.mv (.t 5)) 117 false 3,
i2 119 (.iad 1 (.t 118) (.c (.int .i64 1))) 117 false 3,
i2 120 (.ld 1 false (.t 119)) 117 false 3,
i2 121 (.call .iso (.c (.fn 8 [] [])) [(.t 120), (.c (.int .i64 0)), (.c (.nils)), (.c (.int .i64 0))]) 117 false 3,
i2 122 (.un .not (.t 121)) 117 false 4,
i1 123 (.pick (.t 117) (.c (.bool true)) (.t 122)) 4,
i1 124 (.mv (.t 123)) 4,
i2 125 (.mv (.t 5)) 124 false 4,
i2 126 (.iad 1 (.t 125) (.c (.int .i64 2))) 124 false 4,
i2 127 (.ld 1 false (.t 126)) 124 false 4,
i2 128 (.bsl 1 1 [.int .i64 0] [(0, 1, (.c (.int .i64 0)))]) 124 false 4,
i2 129 (.call .iso (.c (.fn 8 [] [])) [(.t 127), (.c (.int .i64 0)), (.t 128), (.c (.int .i64 0))]) 124 false 5,
i2 130 (.un .not (.t 129)) 124 false 6,
i1 131 (.pick (.t 124) (.c (.bool true)) (.t 130)) 6,
i1 132 (.mv (.t 131)) 6,
i2 133 (.mv (.t 5)) 132 false 6,
i2 134 (.iad 1 (.t 133) (.c (.int .i64 3))) 132 false 6,
i2 135 (.ld 1 false (.t 134)) 132 false 6,
i2 136 (.bsl 1 2 [.int .i64 0] [(0, 1, (.c (.int .i64 0))), (1, 1, (.c (.int .i64 1)))]) 132 false 6,
i2 137 (.call .iso (.c (.fn 8 [] [])) [(.t 135), (.c (.int .i64 0)), (.t 136), (.c (.int .i64 0))]) 132 false 7,
i2 138 (.un .not (.t 137)) 132 false 8,
i1 139 (.pick (.t 132) (.c (.bool true)) (.t 138)) 8])
(.cond (.t 139)
(.seq (.reg 0 [i0 0 (.mv (.c (.bool false)))])
.ret)
.skip))
(.seq (.reg 1 [i0 141 (.ld 3 true (.t 1)),
⟨some 142, .call .iso (.c (.fn 5 [] [])) [(.t 141), (.c (.int .i64 3)), (.c (.int .i64 2))], none, 0, true, []⟩,
i1 140 (.mv (.t 142)) 1,
i1 143 (.ext (.t 140) 0) 1,
i1 144 (.ext (.t 140) 1) 1,
i1 145 (.ext (.t 140) 2) 1,
i1 8 (.mv (.t 143)) 1,
i1 9 (.mv (.t 144)) 1,
i1 10 (.mv (.t 145)) 1])
(.seq (.reg 1 [i0 147 (.ld 3 true (.t 1)),
⟨some 148, .call .iso (.c (.fn 5 [] [])) [(.t 147), (.c (.int .i64 2)), (.c (.int .i64 2))], none, 0, true, []⟩,
i1 146 (.mv (.t 148)) 1,
i1 149 (.ext (.t 146) 0) 1,
i1 150 (.ext (.t 146) 1) 1,
i1 151 (.ext (.t 146) 2) 1,
i1 11 (.mv (.t 149)) 1,
i1 12 (.mv (.t 150)) 1,
i1 13 (.mv (.t 151)) 1])
(.seq (.reg 1 [i0 153 (.ld 3 true (.t 1)),
⟨some 154, .call .iso (.c (.fn 5 [] [])) [(.t 153), (.c (.int .i64 2)), (.c (.int .i64 0))], none, 0, true, []⟩,
i1 152 (.mv (.t 154)) 1,
i1 155 (.ext (.t 152) 0) 1,
i1 156 (.ext (.t 152) 1) 1,
i1 157 (.ext (.t 152) 2) 1,
i1 14 (.mv (.t 155)) 1,
i1 15 (.mv (.t 156)) 1,
i1 16 (.mv (.t 157)) 1])
(.seq (.reg 1 [i0 159 (.ld 3 true (.t 1)),
⟨some 160, .call .iso (.c (.fn 5 [] [])) [(.t 159), (.c (.int .i64 0)), (.c (.int .i64 1))], none, 0, true, []⟩,
i1 158 (.mv (.t 160)) 1,
i1 161 (.ext (.t 158) 0) 1,
i1 162 (.ext (.t 158) 1) 1,
i1 163 (.ext (.t 158) 2) 1,
i1 17 (.mv (.t 161)) 1,
i1 18 (.mv (.t 162)) 1,
i1 19 (.mv (.t 163)) 1])
(.seq (.reg 1 [i0 165 (.ld 3 true (.t 1)),
⟨some 166, .call .iso (.c (.fn 6 [] [])) [(.t 165), (.c (.int .i64 2))], none, 0, true, []⟩,
i1 164 (.mv (.t 166)) 1,
i1 167 (.ext (.t 164) 0) 1,
i1 168 (.ext (.t 164) 1) 1,
i1 20 (.mv (.t 167)) 1,
i1 21 (.mv (.t 168)) 1])
(.seq (.reg 2 [i0 170 (.ld 3 true (.t 1)),
⟨some 171, .call .iso (.c (.fn 10 [] [])) [(.t 170)], none, 0, true, []⟩,
i1 169 (.mv (.t 171)) 1,
i1 172 (.ext (.t 169) 0) 1,
i1 173 (.ext (.t 169) 1) 1,
i1 174 (.ext (.t 169) 2) 1,
i1 22 (.alloc [.int .i64 0, .int .i64 0, .nils]) 1,
⟨none, .st 3 (.t 22) (.t 172), none, 2, false, []⟩,
i1 23 (.mv (.t 173)) 2,
i1 24 (.mv (.t 174)) 2])
(.seq (.reg 2 [i0 176 (.ld 3 true (.t 1)),
⟨some 177, .call .iso (.c (.fn 11 [] [])) [(.t 176)], none, 0, true, []⟩,
i1 175 (.mv (.t 177)) 1,
i1 178 (.ext (.t 175) 0) 1,
i1 179 (.ext (.t 175) 1) 1,
i1 25 (.alloc [.int .i64 0, .int .i64 0, .nils]) 1,
⟨none, .st 3 (.t 25) (.t 178), none, 2, false, []⟩,
i1 26 (.mv (.t 179)) 2])
(.seq (.reg 1 [i0 181 (.ld 3 true (.t 1)),
i0 182 (.call .iso (.c (.fn 16 [] [])) [(.t 181)]),
i1 180 (.mv (.t 182)) 1,
i1 183 (.ext (.t 180) 0) 1,
i1 184 (.ext (.t 180) 1) 1,
i1 27 (.mv (.t 183)) 1,
i1 28 (.mv (.t 184)) 1])
(.seq (.reg 1 [i0 186 (.ld 3 true (.t 1)),
i0 187 (.ld 3 true (.t 2)),
⟨some 188, .call .iso (.c (.fn 29 [] [])) [(.t 186), (.t 187)], none, 0, true, []⟩,
i1 185 (.mv (.t 188)) 1,
i1 189 (.ext (.t 185) 0) 1,
i1 190 (.ext (.t 185) 1) 1,
i1 191 (.ext (.t 185) 2) 1,
i1 29 (.mv (.t 189)) 1,
i1 30 (.mv (.t 190)) 1,
i1 31 (.mv (.t 191)) 1])
(.seq (.reg 14 [mv0 192 8,
mv0 193 10,
i0 194 (.bsl 1 1 [.int .i64 0] [(0, 1, (.c (.int .i64 0)))]),
i1 195 (.call .iso (.c (.fn 8 [] [])) [(.t 192), (.t 193), (.t 194), (.c (.int .i64 0))]) 1,
i1 196 (.mv (.t 195)) 2,
i2 197 (.mv (.t 9)) 196 true 2,
i1 198 (.pick (.t 196) (.t 197) (.c (.bool false))) 2,
i1 199 (.mv (.t 198)) 2,
i2 200 (.mv (.t 11)) 199 true 2,
i2 201 (.mv (.t 13)) 199 true 2,
i2 202 (.call .iso (.c (.fn 8 [] [])) [(.t 200), (.t 201), (.c (.nils)), (.c (.int .i64 0))]) 199 true 2,
i1 203 (.pick (.t 199) (.t 202) (.c (.bool false))) 3,
i1 204 (.mv (.t 203)) 3,
i2 205 (.mv (.t 12)) 204 true 3,
i1 206 (.pick (.t 204) (.t 205) (.c (.bool false))) 3,
i1 207 (.mv (.t 206)) 3,
i2 208 (.mv (.t 14)) 207 true 3,
i2 209 (.mv (.t 16)) 207 true 3,
i2 210 (.bsl 1 2 [.int .i64 0] [(0, 1, (.c (.int .i64 1))), (1, 1, (.c (.int .i64 1)))]) 207 true 3,
i2 211 (.call .iso (.c (.fn 8 [] [])) [(.t 208), (.t 209), (.t 210), (.c (.int .i64 0))]) 207 true 4,
i1 212 (.pick (.t 207) (.t 211) (.c (.bool false))) 5,
i1 213 (.mv (.t 212)) 5,
i2 214 (.mv (.t 15)) 213 true 5,
i1 215 (.pick (.t 213) (.t 214) (.c (.bool false))) 5,
i1 216 (.mv (.t 215)) 5,
i2 217 (.mv (.t 17)) 216 true 5,
i2 218 (.mv (.t 19)) 216 true 5,
i2 219 (.call .iso (.c (.fn 8 [] [])) [(.t 217), (.t 218), (.c (.nils)), (.c (.int .i64 0))]) 216 true 5,
i1 220 (.pick (.t 216) (.t 219) (.c (.bool false))) 6,
i1 221 (.mv (.t 220)) 6,
i2 222 (.mv (.t 18)) 221 true 6,
i2 223 (.un .not (.t 222)) 221 true 6,
i1 224 (.pick (.t 221) (.t 223) (.c (.bool false))) 6,
i1 225 (.mv (.t 224)) 6,
i2 226 (.mv (.t 20)) 225 true 6,
i2 227 (.mv (.t 21)) 225 true 6,
i2 228 (.bsl 1 4 [.int .i64 0] [(0, 1, (.c (.int .i64 2))), (1, 1, (.c (.int .i64 (-1)))), (2, 1, (.c (.int .i64 0))), (3, 1, (.c (.int .i64 1)))]) 225 true 6,
i2 229 (.call .iso (.c (.fn 8 [] [])) [(.t 226), (.t 227), (.t 228), (.c (.int .i64 0))]) 225 true 7,
i1 230 (.pick (.t 225) (.t 229) (.c (.bool false))) 8,
i1 231 (.mv (.t 230)) 8,
i2 232 (.ld 3 true (.t 22)) 231 true 8,
i2 233 (.mv (.t 24)) 231 true 8,
i2 234 (.ld 3 true (.t 2)) 231 true 8,
i2 235 (.call .iso (.c (.fn 13 [] [])) [(.t 232), (.t 233), (.t 234)]) 231 true 8,
i1 236 (.pick (.t 231) (.t 235) (.c (.bool false))) 9,
i1 237 (.mv (.t 236)) 9,
i2 238 (.mv (.t 23)) 237 true 9,
i2 239 (.mv (.t 24)) 237 true 9,
i2 240 (.bsl 1 3 [.int .i64 0] [(0, 1, (.c (.int .i64 0))), (1, 1, (.c (.int .i64 2))), (2, 1, (.c (.int .i64 3)))]) 237 true 9,
i2 241 (.call .iso (.c (.fn 8 [] [])) [(.t 238), (.t 239), (.t 240), (.c (.int .i64 0))]) 237 true 10,
i1 242 (.pick (.t 237) (.t 241) (.c (.bool false))) 11,
i1 243 (.mv (.t 242)) 11,
i2 244 (.ld 3 true (.t 25)) 243 true 11,
i2 245 (.mv (.t 26)) 243 true 11,
i2 246 (.ld 3 true (.t 2)) 243 true 11,
i2 247 (.call .iso (.c (.fn 13 [] [])) [(.t 244), (.t 245), (.t 246)]) 243 true 11,
i1 248 (.pick (.t 243) (.t 247) (.c (.bool false))) 12,
i1 249 (.mv (.t 248)) 12,
i2 250 (.mv (.t 27)) 249 true 12,
i2 251 (.un .not (.t 250)) 249 true 12,
i1 252 (.pick (.t 249) (.t 251) (.c (.bool false))) 12,
i1 253 (.mv (.t 252)) 12,
i2 254 (.mv (.t 28)) 253 true 12,
i2 255 (.bin .eql (.t 254) (.c (.int .i64 0))) 253 true 12,
i1 256 (.pick (.t 253) (.t 255) (.c (.bool false))) 12,
i1 257 (.mv (.t 256)) 12,
i2 258 (.mv (.t 29)) 257 true 12,
i2 259 (.mv (.t 31)) 257 true 12,
i2 260 (.bsl 1 4 [.int .i64 0] [(0, 1, (.c (.int .i64 0))), (1, 1, (.c (.int .i64 (-1)))), (2, 1, (.c (.int .i64 1))), (3, 1, (.c (.int .i64 2)))]) 257 true 12,
i2 261 (.call .iso (.c (.fn 8 [] [])) [(.t 258), (.t 259), (.t 260), (.c (.int .i64 0))]) 257 true 13,
i1 262 (.pick (.t 257) (.t 261) (.c (.bool false))) 14,
i1 263 (.mv (.t 262)) 14,
i2 264 (.mv (.t 30)) 263 true 14,
i1 265 (.pick (.t 263) (.t 264) (.c (.bool false))) 14,
i1 0 (.mv (.t 265)) 14])
.ret)))))))))))))))) }
def c31 : AFun :=
{ keep := true, np := 2, nt := 14, res := [.tmp 4], body :=
(.seq (.reg 1 [i0 2 (.box (.t 0)),
i1 4 (.mv (.c (.int .i64 0))) 1])
(.seq (.seq (.reg 1 [i0 6 (.ld 3 true (.t 2)),
i0 7 (.call .iso (.c (.fn 18 [] [])) [(.t 6)]),
i1 5 (.mv (.t 7)) 1])
(.seq (.reg 0 [mv0 8 5,
i0 9 (.bin .neq (.t 8) (.c (.int .i64 0)))])
(.cond (.t 9)
(.seq (.reg 0 [mv0 10 5,
mv0 4 10])
.ret)
.skip)))
(.seq (.seq (.reg 1 [mv0 11 1,
i0 12 (.mkf 48 [] [(.t 2)]),
i0 13 (.call .iso (.c (.fn 49 [] [])) [(.t 11), (.t 12)])])
(.cond (.t 13)
(.seq (.reg 0 [i0 4 (.mv (.c (.int .i64 1)))])
.ret)
.skip))
(.seq (.reg 0 [i0 4 (.mv (.c (.int .i64 0)))])
.ret)))) }
def Ydi : AC :=
(.seq (.reg 0 [i0 19 (.bin .lss (.t 18) (.t 17))])
(.seq (.cond (.t 19)
.skip
(.exit 0))
(.seq (.block 1 (.seq (.reg 0 [mv0 20 18,
ia0 21 1 16 18,
ld1 22 21,
mv0 6 20,
mv0 7 22])
(.reg 0 [ld1 23 5,
mv0 24 7,
mv0 25 6,
⟨none, .mup false [.i] (.t 23) (.t 24) (.t 25), none, 0, false, []⟩])))
(.reg 0 [i0 26 (.bin .add (.t 18) (.c (.int .i64 1))),
mv0 18 26]))))
def Ydz : AC :=
(.seq (.reg 0 [i0 57 (.bin .lss (.t 56) (.t 55))])
(.seq (.cond (.t 57)
.skip
(.exit 4))
(.seq (.block 5 (.seq (.reg 1 [mv0 58 56,
ia0 59 2 54 56,
i0 60 (.ld 2 true (.t 59)),
i0 13 (.alloc [.int .i64 0, .int .i64 0]),
i1 12 (.mv (.t 58)) 1,
⟨none, .st 2 (.t 13) (.t 60), none, 1, false, []⟩])
(.regd [[], [0], [], [0, 1, 2], [0, 1, 2, 3], [], [], [], [6, 7], [0, 1, 2, 3, 4, 5, 6, 7, 8], [0, 1, 2, 3, 4, 5, 6, 7, 8, 9]] 1 [fd0 61 2 9,
ld1 62 61,
mv0 63 10,
ia0 64 1 62 63,
ld1 65 64,
mv0 66 12,
mv0 67 8,
i0 68 (.ld 2 true (.t 13)),
i0 69 (.call .iso (.t 67) [(.t 68)]),
i1 70 (.iad 2 (.t 65) (.t 66)) 1,
⟨none, .st 2 (.t 70) (.t 69), none, 1, false, []⟩])))
(.reg 0 [i0 71 (.bin .add (.t 56) (.c (.int .i64 1))),
mv0 56 71]))))
def Yeq : AC :=
(.seq (.reg 0 [i0 39 (.bin .lss (.t 38) (.t 37))])
(.seq (.cond (.t 39)
.skip
(.exit 2))
(.seq (.block 3 (.seq (.reg 0 [mv0 40 38,
ia0 41 1 36 38,
ld1 42 41,
mv0 10 40,
mv0 11 42])
(.seq (.regd [[], [0], [], [], [3], [3, 4], [0, 1, 2, 3, 4, 5], [0, 1, 2, 3, 4, 5, 6]] 1 [fd0 43 2 9,
ld1 44 43,
mv0 45 10,
fd0 46 0 2,
ld1 47 46,
i0 48 (.mks 2 16 [.int .i64 0, .int .i64 0] (.t 47) (.t 47)),
i1 49 (.iad 1 (.t 44) (.t 45)) 1,
⟨none, .st 1 (.t 49) (.t 48), none, 1, false, []⟩])
(.seq (.reg 0 [fd0 50 2 2,
ld1 51 50,
mv0 52 11,
ia0 53 1 51 52,
ld1 54 53,
i0 55 (.len 0 (.t 54)),
i0 56 (.mv (.c (.int .i64 0)))])
(.block 4 (.loop false Ydz))))))
(.reg 0 [i0 72 (.bin .add (.t 38) (.c (.int .i64 1))),
mv0 38 72]))))
def c32 : AFun :=
{ keep := true, np := 2, nt := 74, res := [.cell 4 3 true], body :=
(.seq (.reg 2 [i0 2 (.box (.t 0)),
i1 4 (.alloc [.int .i64 0, .int .i64 0, .nils]) 1])
(.seq (.reg 2 [i0 14 (.mkm none),
⟨none, .mup false [.i] (.t 14) (.c (.int .i64 (-1))) (.c (.int .i64 (-1))), none, 1, false, []⟩,
i1 15 (.mv (.t 14)) 1,
i1 5 (.alloc [.nilm]) 1,
⟨none, .st 1 (.t 5) (.t 15), none, 2, false, []⟩])
(.seq (.seq (.reg 0 [mv0 16 1,
i0 17 (.len 0 (.t 16)),
i0 18 (.mv (.c (.int .i64 0)))])
(.block 0 (.loop false Ydi)))
(.seq (.reg 0 [i0 27 (.mkf 63 [] [(.t 5)]),
mv0 8 27])
(.seq (.regd [[], [0], [], [2], [], [4], [4, 5], [0, 1, 2, 3, 4, 5, 6], [], [0, 1, 2, 3, 4, 5, 6, 7, 8]] 2 [fd0 28 0 2,
ld1 29 28,
fd0 30 1 2,
ld1 31 30,
mv0 32 1,
i0 33 (.len 0 (.t 32)),
i0 34 (.mks 1 24 [.nils] (.t 33) (.t 33)),
i1 35 (.build [.int .i64 0, .int .i64 0, .nils] [(0, 1, (.t 29)), (1, 1, (.t 31)), (2, 1, (.t 34))]) 1,
i1 9 (.alloc [.int .i64 0, .int .i64 0, .nils]) 1,
⟨none, .st 3 (.t 9) (.t 35), none, 2, false, []⟩])
(.seq (.seq (.reg 0 [mv0 36 1,
i0 37 (.len 0 (.t 36)),
i0 38 (.mv (.c (.int .i64 0)))])
(.block 2 (.loop true Yeq)))
(.seq (.reg 0 [i0 73 (.ld 3 true (.t 9)),
⟨none, .st 3 (.t 4) (.t 73), none, 0, false, []⟩])
.ret))))))) }
def Yec : AC :=
(.seq (.seq (.reg 0 [mv0 31 8,
fd0 32 0 2,
ld1 33 32,
i0 34 (.bin .lss (.t 31) (.t 33))])
(.cond (.t 34)
.skip
(.exit 4)))
(.seq (.block 5 (.seq (.reg 0 [fd0 37 2 2,
ld1 38 37,
mv0 39 7,
ia0 40 1 38 39,
ld1 41 40,
mv0 42 8,
ia0 43 2 41 42,
fd0 44 0 43,
ld1 45 44,
mv0 9 45])
(.seq (.reg 0 [mv0 46 5,
mv0 47 7,
ia0 48 1 46 47,
ld1 49 48,
mv0 50 49,
i2 51 (.mv (.t 9)) 50 true 0,
i2 52 (.bin .geq (.t 51) (.c (.int .i64 0))) 50 true 0,
i0 53 (.pick (.t 50) (.t 52) (.c (.bool false)))])
(.cond (.t 53)
(.reg 0 [mv0 54 5,
mv0 55 9,
ia0 56 1 54 55,
⟨none, .st 1 (.t 56) (.c (.bool true)), none, 0, false, []⟩])
.skip))))
(.reg 0 [mv0 35 8,
i0 36 (.bin .add (.t 35) (.c (.int .i64 1))),
mv0 8 36])))
def Yhn : AC :=
(.seq (.seq (.reg 0 [mv0 24 7,
fd0 25 2 2,
ld1 26 25,
i0 27 (.len 0 (.t 26)),
i0 28 (.bin .lss (.t 24) (.t 27))])
(.cond (.t 28)
.skip
(.exit 2)))
(.seq (.block 3 (.seq (.reg 0 [i0 8 (.mv (.c (.int .i64 0)))])
(.block 4 (.loop false Yec))))
(.reg 0 [mv0 29 7,
i0 30 (.bin .add (.t 29) (.c (.int .i64 1))),
mv0 7 30])))
def Yfo : AC :=
(.seq (.seq (.reg 0 [mv0 17 6,
fd0 18 2 2,
ld1 19 18,
i0 20 (.len 0 (.t 19)),
i0 21 (.bin .lss (.t 17) (.t 20))])
(.cond (.t 21)
.skip
(.exit 0)))
(.seq (.block 1 (.seq (.reg 0 [i0 7 (.mv (.c (.int .i64 0)))])
(.block 2 (.loop false Yhn))))
(.reg 0 [mv0 22 6,
i0 23 (.bin .add (.t 22) (.c (.int .i64 1))),
mv0 6 23])))
def c33 : AFun :=
{ keep := true, np := 2, nt := 58, res := [.tmp 4], body :=
(.seq (.reg 1 [i0 2 (.box (.t 0)),
i1 4 (.mv (.c (.nils))) 1])
(.seq (.reg 1 [fd0 10 2 2,
ld1 11 10,
i0 12 (.len 0 (.t 11)),
i0 13 (.mks 1 1 [.bool false] (.t 12) (.t 12)),
i1 5 (.mv (.t 13)) 1])
(.seq (.reg 0 [mv0 14 5,
mv0 15 1,
ia0 16 1 14 15,
⟨none, .st 1 (.t 16) (.c (.bool true)), none, 0, false, []⟩])
(.seq (.seq (.reg 0 [i0 6 (.mv (.c (.int .i64 0)))])
(.block 0 (.loop false Yfo)))
(.seq (.reg 0 [mv0 57 5,
mv0 4 57])
.ret))))) }
def Ydf : AC :=
(.seq (.seq (.regd [[], [], [1], [0, 1, 2], [0, 1, 2, 3], [0, 1, 2, 3, 4], [0, 1, 2, 3, 4], [0, 1, 2, 3, 4], [0, 1, 2, 3, 4, 6, 7], [0, 1, 2, 3, 4, 6, 7, 8], [0, 1, 2, 3, 4, 5, 6, 7, 8, 9], [0, 1, 2, 3, 4, 5, 6, 7, 8, 9, 10], [0, 1, 2, 3, 4], [0, 1, 2, 3, 4], [0, 1, 2, 3, 4, 12, 13], [0, 1, 2, 3, 4, 12, 13, 14], [0, 1, 2, 3, 4, 5, 6, 7, 8, 9, 10, 11, 12, 13, 14, 15], [0, 1, 2, 3, 4, 5, 6, 7, 8, 9, 10, 11, 12, 13, 14, 15, 16], [0, 1, 2, 3, 4, 5, 6, 7, 8, 9, 10, 11, 12, 13, 14, 15, 16, 17]] 1 [mv0 25 7,
mv0 26 5,
i0 27 (.len 0 (.t 26)),
i0 28 (.bin .lss (.t 25) (.t 27)),
mv0 29 28,
i2 30 (.mv (.t 3)) 29 true 0,
i2 31 (.mv (.t 5)) 29 true 0,
i2 32 (.mv (.t 7)) 29 true 0,
i2 33 (.iad 1 (.t 31) (.t 32)) 29 true 0,
i2 34 (.ld 1 false (.t 33)) 29 true 0,
i2 35 (.iad 1 (.t 30) (.t 34)) 29 true 0,
i2 36 (.ld 1 false (.t 35)) 29 true 0,
i2 37 (.mv (.t 3)) 29 true 0,
i2 38 (.mv (.t 6)) 29 true 0,
i2 39 (.iad 1 (.t 37) (.t 38)) 29 true 0,
i2 40 (.ld 1 false (.t 39)) 29 true 0,
i2 41 (.call .iso (.c (.fn 85 [] [])) [(.t 36), (.t 40)]) 29 true 0,
i2 42 (.bin .eql (.t 41) (.c (.int .i64 1))) 29 true 1,
i1 43 (.pick (.t 29) (.t 42) (.c (.bool false))) 1])
(.cond (.t 43)
.skip
(.exit 2)))
(.block 3 (.reg 0 [mv0 44 7,
i0 45 (.bin .add (.t 44) (.c (.int .i64 1))),
mv0 7 45])))
def Yez : AC :=
(.seq (.seq (.reg 0 [mv0 14 6,
mv0 15 3,
i0 16 (.len 0 (.t 15)),
i0 17 (.bin .lss (.t 14) (.t 16))])
(.cond (.t 17)
.skip
(.exit 0)))
(.seq (.block 1 (.seq (.seq (.reg 0 [mv0 20 4,
mv0 21 6,
ia0 22 1 20 21,
ld1 23 22,
i0 24 (.un .not (.t 23))])
(.cond (.t 24)
(.exit 1)
.skip))
(.seq (.reg 0 [i0 7 (.mv (.c (.int .i64 0)))])
(.seq (.block 2 (.loop false Ydf))
(.seq (.reg 1 [⟨some 8, .mv (.c (.nils)), none, 0, false, [(0, 1)]⟩])
(.seq (.reg 1 [mv0 46 8,
mv0 47 5,
mv0 48 7,
i0 49 (.slc 1 (.t 47) none (some (.t 48)) none),
i0 50 (.app 1 8 (.t 46) (.t 49)),
i1 8 (.mv (.t 50)) 1])
(.seq (.reg 2 [mv0 51 8,
mv0 52 6,
i0 53 (.bsl 1 1 [.int .i64 0] [(0, 1, (.t 52))]),
i1 54 (.app 1 8 (.t 51) (.t 53)) 1,
i1 8 (.mv (.t 54)) 2])
(.reg 1 [mv0 55 8,
mv0 56 5,
mv0 57 7,
i0 58 (.slc 1 (.t 56) (some (.t 57)) none none),
i0 59 (.app 1 8 (.t 55) (.t 58)),
⟨some 5, .mv (.t 59), none, 1, true, []⟩]))))))))
(.reg 0 [mv0 18 6,
i0 19 (.bin .add (.t 18) (.c (.int .i64 1))),
mv0 6 19])))
def c34 : AFun :=
{ keep := true, np := 1, nt := 61, res := [.tmp 2], body :=
(.seq (.reg 1 [i0 1 (.box (.t 0)),
i1 2 (.mv (.c (.nils))) 1])
(.seq (.reg 1 [i0 10 (.ld 3 true (.t 1)),
⟨some 11, .call .iso (.c (.fn 4 [] [])) [(.t 10)], none, 0, true, []⟩,
i1 9 (.mv (.t 11)) 1,
i1 12 (.ext (.t 9) 0) 1,
i1 13 (.ext (.t 9) 1) 1,
i1 3 (.mv (.t 12)) 1,
i1 4 (.mv (.t 13)) 1])
(.seq (.reg 0 [i0 5 (.mv (.c (.nils)))])
(.seq (.seq (.reg 0 [i0 6 (.mv (.c (.int .i64 0)))])
(.block 0 (.loop false Yez)))
(.seq (.reg 0 [mv0 60 5,
mv0 2 60])
.ret))))) }
def Ydv : AC :=
(.seq (.seq (.reg 0 [mv0 40 11,
mv0 41 1,
i0 42 (.len 0 (.t 41)),
i0 43 (.bin .lss (.t 40) (.t 42))])
(.cond (.t 43)
.skip
(.exit 4)))
(.seq (.block 5 (.seq (.regd [[], [], [0, 1], [0, 1, 2], [], [4], [0, 1, 2, 3, 4, 5]] 0 [mv0 46 1,
mv0 47 11,
ia0 48 1 46 47,
ld1 49 48,
fd0 50 0 9,
ld1 51 50,
i0 52 (.bin .eql (.t 49) (.t 51))])
(.cond (.t 52)
(.reg 0 [mv0 53 11,
mv0 10 53])
.skip)))
(.reg 0 [mv0 44 11,
i0 45 (.bin .add (.t 44) (.c (.int .i64 1))),
mv0 11 45])))
def Yfz : AC :=
(.seq (.seq (.reg 0 [mv0 23 8,
fd0 24 0 2,
ld1 25 24,
i0 26 (.bin .lss (.t 23) (.t 25))])
(.cond (.t 26)
.skip
(.exit 2)))
(.seq (.block 3 (.seq (.regd [[], [0], [], [], [2, 3], [2, 3, 4], [0, 1, 2, 3, 4, 5], [0, 1, 2, 3, 4, 5, 6], [], [0, 1, 2, 3, 4, 5, 6, 7, 8], [0, 1, 2, 3, 4, 5, 6, 7, 8, 9], [], [0, 1, 2, 3, 4, 5, 6, 7, 8, 9, 10, 11]] 1 [fd0 29 2 2,
ld1 30 29,
mv0 31 1,
mv0 32 6,
ia0 33 1 31 32,
ld1 34 33,
ia0 35 1 30 34,
ld1 36 35,
mv0 37 8,
ia0 38 2 36 37,
i0 39 (.ld 2 true (.t 38)),
i0 9 (.alloc [.int .i64 0, .int .i64 0]),
⟨none, .st 2 (.t 9) (.t 39), none, 1, false, []⟩])
(.seq (.reg 0 [i0 10 (.mv (.c (.int .i64 (-1))))])
(.seq (.seq (.reg 0 [i0 11 (.mv (.c (.int .i64 0)))])
(.block 4 (.loop false Ydv)))
(.reg 2 [mv0 54 7,
mv0 55 10,
fd0 56 1 9,
ld1 57 56,
i0 58 (.build [.int .i64 0, .int .i64 0] [(0, 1, (.t 55)), (1, 1, (.t 57))]),
i0 59 (.bsl 2 1 [.int .i64 0, .int .i64 0] [(0, 2, (.t 58))]),
i1 60 (.app 2 16 (.t 54) (.t 59)) 1,
i1 7 (.mv (.t 60)) 2])))))
(.reg 0 [mv0 27 8,
i0 28 (.bin .add (.t 27) (.c (.int .i64 1))),
mv0 8 28])))
def Yef : AC :=
(.seq (.seq (.reg 0 [mv0 17 6,
mv0 18 1,
i0 19 (.len 0 (.t 18)),
i0 20 (.bin .lss (.t 17) (.t 19))])
(.cond (.t 20)
.skip
(.exit 0)))
(.seq (.block 1 (.seq (.reg 1 [⟨some 7, .mv (.c (.nils)), none, 0, false, [(0, 2)]⟩])
(.seq (.seq (.reg 0 [i0 8 (.mv (.c (.int .i64 0)))])
(.block 2 (.loop false Yfz)))
(.reg 2 [fd0 61 2 5,
ld1 62 61,
mv0 63 7,
⟨some 64, .bsl 1 1 [.nils] [(0, 1, (.t 63))], none, 0, true, []⟩,
i1 65 (.app 1 24 (.t 62) (.t 64)) 1,
i1 66 (.fad 2 (.t 5)) 2,
⟨none, .st 1 (.t 66) (.t 65), none, 2, false, []⟩]))))
(.reg 0 [mv0 21 6,
i0 22 (.bin .add (.t 21) (.c (.int .i64 1))),
mv0 6 22])))
def c35 : AFun :=
{ keep := true, np := 2, nt := 68, res := [.cell 4 3 true], body :=
(.seq (.reg 2 [i0 2 (.box (.t 0)),
i1 4 (.alloc [.int .i64 0, .int .i64 0, .nils]) 1])
(.seq (.reg 3 [fd0 12 0 2,
ld1 13 12,
fd0 14 1 2,
ld1 15 14,
i0 16 (.build [.int .i64 0, .int .i64 0, .nils] [(0, 1, (.t 13)), (1, 1, (.t 15))]),
⟨some 5, .alloc [.int .i64 0, .int .i64 0, .nils], none, 0, false, [(2, 1)]⟩,
⟨none, .st 3 (.t 5) (.t 16), none, 2, false, [(2, 1)]⟩])
(.seq (.seq (.reg 0 [i0 6 (.mv (.c (.int .i64 0)))])
(.block 0 (.loop false Yef)))
(.seq (.reg 0 [i0 67 (.ld 3 true (.t 5)),
⟨none, .st 3 (.t 4) (.t 67), none, 0, false, []⟩])
.ret)))) }
def c36 : AFun :=
{ keep := true, np := 2, nt := 34, res := [.tmp 4], body :=
(.seq (.reg 2 [i0 2 (.box (.t 0)),
i1 3 (.box (.t 1)) 1,
i1 4 (.mv (.c (.bool false))) 2])
(.seq (.reg 3 [i0 5 (.ld 3 true (.t 2)),
i0 6 (.call .iso (.c (.fn 18 [] [])) [(.t 5)]),
i1 7 (.bin .eql (.t 6) (.c (.int .i64 0))) 1,
i1 8 (.mv (.t 7)) 1,
i2 9 (.ld 3 true (.t 3)) 8 true 1,
i2 10 (.call .iso (.c (.fn 18 [] [])) [(.t 9)]) 8 true 1,
i2 11 (.bin .eql (.t 10) (.c (.int .i64 0))) 8 true 2,
i1 12 (.pick (.t 8) (.t 11) (.c (.bool false))) 2,
i1 13 (.mv (.t 12)) 2,
i2 14 (.fad 0 (.t 2)) 13 true 2,
i2 15 (.ld 1 false (.t 14)) 13 true 2,
i2 16 (.fad 0 (.t 3)) 13 true 2,
i2 17 (.ld 1 false (.t 16)) 13 true 2,
i2 18 (.bin .eql (.t 15) (.t 17)) 13 true 2,
i1 19 (.pick (.t 13) (.t 18) (.c (.bool false))) 2,
i1 20 (.mv (.t 19)) 2,
i2 21 (.fad 1 (.t 2)) 20 true 2,
i2 22 (.ld 1 false (.t 21)) 20 true 2,
i2 23 (.fad 1 (.t 3)) 20 true 2,
i2 24 (.ld 1 false (.t 23)) 20 true 2,
i2 25 (.bin .eql (.t 22) (.t 24)) 20 true 2,
i1 26 (.pick (.t 20) (.t 25) (.c (.bool false))) 2,
i1 27 (.mv (.t 26)) 2,
i2 28 (.fad 2 (.t 2)) 27 true 2,
i2 29 (.ld 1 false (.t 28)) 27 true 2,
i2 30 (.fad 2 (.t 3)) 27 true 2,
i2 31 (.ld 1 false (.t 30)) 27 true 2,
i2 32 (.call .iso (.c (.fn 50 [] [])) [(.t 29), (.t 31), (.c (.fn 51 [] []))]) 27 true 2,
i1 33 (.pick (.t 27) (.t 32) (.c (.bool false))) 3,
i1 4 (.mv (.t 33)) 3])
.ret)) }
def B37_1 : AC :=
(.seq (.reg 0 [i0 9 (.bin .lss (.t 8) (.t 7))])
(.seq (.cond (.t 9)
.skip
(.exit 0))
(.seq (.block 1 (.seq (.reg 0 [ia0 10 1 6 8,
ld1 11 10,
mv0 5 11])
(.seq (.reg 0 [mv0 12 5,
mv0 13 3,
i0 14 (.bin .neq (.t 12) (.t 13))])
(.cond (.t 14)
(.seq (.reg 0 [mv0 15 5,
mv0 2 15])
.ret)
.skip))))
(.reg 0 [i0 16 (.bin .add (.t 8) (.c (.int .i64 1))),
mv0 8 16]))))
def c37 : AFun :=
{ keep := true, np := 1, nt := 18, res := [.tmp 2], body :=
(.seq (.reg 0 [i0 2 (.mv (.c (.int .i64 0)))])
(.seq (.reg 0 [i0 3 (.mv (.c (.int .i64 0)))])
(.seq (.seq (.reg 0 [mv0 6 0,
i0 7 (.len 0 (.t 6)),
i0 8 (.mv (.c (.int .i64 0)))])
(.block 0 (.loop false B37_1)))
(.seq (.reg 0 [mv0 17 3,
mv0 2 17])
.ret)))) }
def B38_1 : AC :=
(.seq (.seq (.reg 0 [mv0 34 8,
mv0 35 7,
i0 36 (.len 0 (.t 35)),
i0 37 (.bin .lss (.t 34) (.t 36))])
(.cond (.t 37)
.skip
(.exit 0)))
(.block 1 (.regd [[], [], [], [1, 2], [], [], [4, 5], [1, 2, 3, 4, 5, 6], [0, 1, 2, 3, 4, 5, 6, 7], [0, 1, 2, 3, 4, 5, 6, 7, 8]] 0 [mv0 38 8,
mv0 39 7,
mv0 40 8,
i0 41 (.slc 1 (.t 39) (some (.t 40)) none none),
mv0 42 7,
mv0 43 8,
i0 44 (.slc 1 (.t 42) none (some (.t 43)) none),
i0 45 (.cpy 1 (.t 41) (.t 44)),
i0 46 (.bin .add (.t 38) (.t 45)),
mv0 8 46])))
def c38 : AFun :=
{ keep := true, np := 2, nt := 48, res := [.tmp 4], body :=
(.seq (.reg 0 [i0 4 (.mv (.c (.nils)))])
(.seq (.seq (.reg 0 [mv0 9 1,
i0 10 (.bin .lss (.t 9) (.c (.int .i64 0)))])
(.cond (.t 10)
(.reg 0 [i0 11 (.bad),
⟨none, .bad, none, 0, false, []⟩])
.skip))
(.seq (.reg 1 [mv0 13 0,
i0 14 (.len 0 (.t 13)),
i0 15 (.conv .u64 (.t 14)),
mv0 16 1,
i0 17 (.conv .u64 (.t 16)),
i0 18 (.call .iso (.c (.fn 66 [] [])) [(.t 15), (.t 17)]),
i1 12 (.mv (.t 18)) 1,
i1 19 (.ext (.t 12) 0) 1,
i1 20 (.ext (.t 12) 1) 1,
i1 5 (.mv (.t 19)) 1,
i1 6 (.mv (.t 20)) 1])
(.seq (.seq (.reg 0 [mv0 21 5,
i0 22 (.bin .gtr (.t 21) (.c (.int .u64 0))),
mv0 23 22,
i2 24 (.mv (.t 6)) 23 false 0,
i2 25 (.bin .gtr (.t 24) (.c (.int .u64 9223372036854775807))) 23 false 0,
i0 26 (.pick (.t 23) (.c (.bool true)) (.t 25))])
(.cond (.t 26)
(.reg 0 [i0 27 (.bad),
⟨none, .bad, none, 0, false, []⟩])
.skip))
(.seq (.reg 1 [mv0 28 6,
i0 29 (.conv .i64 (.t 28)),
i0 30 (.mks 1 8 [.int .i64 0] (.t 29) (.t 29)),
i1 7 (.mv (.t 30)) 1])
(.seq (.reg 0 [mv0 31 7,
mv0 32 0,
i0 33 (.cpy 1 (.t 31) (.t 32)),
mv0 8 33])
(.seq (.block 0 (.loop false B38_1))
(.seq (.reg 0 [mv0 47 7,
mv0 4 47])
.ret)))))))) }
def Yhw : AC :=
(.seq (.seq (.reg 0 [mv0 36 7,
fd0 37 0 4,
ld1 38 37,
i0 39 (.bin .lss (.t 36) (.t 38))])
(.cond (.t 39)
.skip
(.exit 2)))
(.seq (.block 3 (.seq (.reg 1 [fd0 42 4 1,
ld1 43 42,
mv0 44 5,
fd0 45 0 4,
ld1 46 45,
i0 47 (.bin .mul (.t 44) (.t 46)),
mv0 48 7,
i0 49 (.bin .add (.t 47) (.t 48)),
i0 50 (.call .iso (.c (.fn 67 [] [])) [(.t 43), (.t 49)]),
i1 8 (.mv (.t 50)) 1])
(.regd [[], [], [], [1, 2], [], [4], [1, 2, 3, 4, 5], [1, 2, 3, 4, 5, 6], [1, 2, 3, 4, 5, 6, 7], [0, 1, 2, 3, 4, 5, 6, 7, 8], [0, 1, 2, 3, 4, 5, 6, 7, 8, 9]] 2 [mv0 51 6,
mv0 52 8,
mv0 53 3,
i0 54 (.bin .quo (.t 52) (.t 53)),
fd0 55 1 4,
ld1 56 55,
i0 57 (.bin .rem (.t 54) (.t 56)),
i0 58 (.build [.int .i64 0, .int .i64 0] [(0, 1, (.c (.int .i64 (-1)))), (1, 1, (.t 57))]),
i0 59 (.bsl 2 1 [.int .i64 0, .int .i64 0] [(0, 2, (.t 58))]),
i1 60 (.app 2 16 (.t 51) (.t 59)) 1,
i1 6 (.mv (.t 60)) 2])))
(.reg 0 [mv0 40 7,
i0 41 (.bin .add (.t 40) (.c (.int .i64 1))),
mv0 7 41])))
def Ygi : AC :=
(.seq (.seq (.reg 0 [mv0 31 5,
mv0 32 3,
i0 33 (.bin .lss (.t 31) (.t 32))])
(.cond (.t 33)
.skip
(.exit 0)))
(.seq (.block 1 (.seq (.reg 1 [⟨some 6, .mv (.c (.nils)), none, 0, false, [(0, 2)]⟩])
(.seq (.seq (.reg 0 [i0 7 (.mv (.c (.int .i64 0)))])
(.block 2 (.loop false Yhw)))
(.reg 2 [fd0 61 2 4,
ld1 62 61,
mv0 63 6,
i0 64 (.bsl 1 1 [.nils] [(0, 1, (.t 63))]),
i1 65 (.app 1 24 (.t 62) (.t 64)) 1,
i1 66 (.fad 2 (.t 4)) 2,
⟨none, .st 1 (.t 66) (.t 65), none, 2, false, []⟩]))))
(.reg 0 [mv0 34 5,
i0 35 (.bin .add (.t 34) (.c (.int .i64 1))),
mv0 5 35])))
def Ygl : AC :=
(.seq (.seq (.reg 0 [mv0 72 11,
mv0 73 9,
fd0 74 0 4,
ld1 75 74,
i0 76 (.bin .mul (.t 73) (.t 75)),
i0 77 (.bin .lss (.t 72) (.t 76))])
(.cond (.t 77)
.skip
(.exit 6)))
(.seq (.block 7 (.seq (.regd [[], [0], [], [], [3], [2, 3, 4], [0, 1, 2, 3, 4, 5], [0, 1, 2, 3, 4, 5, 6], [], [], [9], [8, 9, 10], [0, 1, 2, 3, 4, 5, 6, 7, 8, 9, 10, 11], [0, 1, 2, 3, 4, 5, 6, 7, 8, 9, 10, 11, 12], [0, 1, 2, 3, 4, 5, 6, 7, 8, 9, 10, 11, 12, 13], [0, 1, 2, 3, 4, 5, 6, 7, 8, 9, 10, 11, 12, 13, 14]] 0 [fd0 80 2 4,
ld1 81 80,
mv0 82 11,
fd0 83 0 4,
ld1 84 83,
i0 85 (.bin .quo (.t 82) (.t 84)),
ia0 86 1 81 85,
ld1 87 86,
mv0 88 11,
fd0 89 0 4,
ld1 90 89,
i0 91 (.bin .rem (.t 88) (.t 90)),
ia0 92 2 87 91,
fd0 93 0 92,
ld1 94 93,
i0 95 (.bin .lss (.t 94) (.c (.int .i64 0)))])
(.cond (.t 95)
(.reg 2 [mv0 96 10,
mv0 97 11,
i0 98 (.bsl 1 1 [.int .i64 0] [(0, 1, (.t 97))]),
i1 99 (.app 1 8 (.t 96) (.t 98)) 1,
i1 10 (.mv (.t 99)) 2])
.skip)))
(.reg 0 [mv0 78 11,
i0 79 (.bin .add (.t 78) (.c (.int .i64 1))),
mv0 11 79])))
def Yhk : AC :=
(.seq (.seq (.reg 0 [mv0 67 9,
mv0 68 3,
i0 69 (.bin .lss (.t 67) (.t 68))])
(.cond (.t 69)
.skip
(.exit 4)))
(.seq (.block 5 (.seq (.reg 1 [⟨some 10, .mv (.c (.nils)), none, 0, false, [(0, 1)]⟩])
(.seq (.seq (.reg 0 [i0 11 (.mv (.c (.int .i64 0)))])
(.block 6 (.loop false Ygl)))
(.seq (.reg 0 [mv0 100 10,
i0 101 (.iad 1 (.t 100) (.c (.int .i64 0))),
ld1 102 101,
mv0 12 102])
(.seq (.seq (.reg 0 [mv0 103 9,
i0 104 (.bin .sub (.t 103) (.c (.int .i64 1))),
fd0 105 3 1,
ld1 106 105,
i0 107 (.len 0 (.t 106)),
i0 108 (.bin .lss (.t 104) (.t 107))])
(.cond (.t 108)
(.reg 0 [mv0 109 10,
fd0 110 3 1,
ld1 111 110,
mv0 112 9,
i0 113 (.bin .sub (.t 112) (.c (.int .i64 1))),
ia0 114 1 111 113,
ld1 115 114,
i0 116 (.conv .i64 (.t 115)),
mv0 117 10,
i0 118 (.len 0 (.t 117)),
i0 119 (.bin .rem (.t 116) (.t 118)),
ia0 120 1 109 119,
ld1 121 120,
mv0 12 121])
.skip))
(.regd [[], [0], [], [], [3], [2, 3, 4], [0, 1, 2, 3, 4, 5], [0, 1, 2, 3, 4, 5, 6], [], [], [9], [8, 9, 10], [], [0, 1, 2, 3, 4, 5, 6, 7, 8, 9, 10, 11, 12], [0, 1, 2, 3, 4, 5, 6, 7, 8, 9, 10, 11, 12, 13], [0, 1, 2, 3, 4, 5, 6, 7, 8, 9, 10, 11, 12, 13, 14]] 0 [fd0 122 2 4,
ld1 123 122,
mv0 124 12,
fd0 125 0 4,
ld1 126 125,
i0 127 (.bin .quo (.t 124) (.t 126)),
ia0 128 1 123 127,
ld1 129 128,
mv0 130 12,
fd0 131 0 4,
ld1 132 131,
i0 133 (.bin .rem (.t 130) (.t 132)),
mv0 134 9,
ia0 135 2 129 133,
fd0 136 0 135,
⟨none, .st 1 (.t 136) (.t 134), none, 0, false, []⟩]))))))
(.reg 0 [mv0 70 9,
i0 71 (.bin .add (.t 70) (.c (.int .i64 1))),
mv0 9 71])))
def Yfq : AC :=
(.seq (.seq (.reg 0 [mv0 142 14,
fd0 143 0 4,
ld1 144 143,
i0 145 (.bin .lss (.t 142) (.t 144))])
(.cond (.t 145)
.skip
(.exit 10)))
(.seq (.block 11 (.seq (.reg 0 [fd0 148 2 4,
ld1 149 148,
mv0 150 13,
ia0 151 1 149 150,
ld1 152 151,
mv0 153 14,
ia0 154 2 152 153,
fd0 155 0 154,
ld1 156 155,
i0 157 (.bin .lss (.t 156) (.c (.int .i64 0)))])
(.cond (.t 157)
(.regd [[], [0], [], [0, 1, 2], [0, 1, 2, 3], [], [], [6], [], [], [9], [8, 9, 10], [], [8, 9, 10, 11, 12], [6, 7, 8, 9, 10, 11, 12, 13], [], [6, 7, 8, 9, 10, 11, 12, 13, 14, 15], [0, 1, 2, 3, 4, 5, 6, 7, 8, 9, 10, 11, 12, 13, 14, 15, 16], [0, 1, 2, 3, 4, 5, 6, 7, 8, 9, 10, 11, 12, 13, 14, 15, 16, 17], [0, 1, 2, 3, 4, 5, 6, 7, 8, 9, 10, 11, 12, 13, 14, 15, 16, 17, 18]] 1 [fd0 158 2 4,
ld1 159 158,
mv0 160 13,
ia0 161 1 159 160,
ld1 162 161,
mv0 163 14,
fd0 164 4 1,
ld1 165 164,
mv0 166 13,
fd0 167 0 4,
ld1 168 167,
i0 169 (.bin .mul (.t 166) (.t 168)),
mv0 170 14,
i0 171 (.bin .add (.t 169) (.t 170)),
i0 172 (.call .iso (.c (.fn 67 [] [])) [(.t 165), (.t 171)]),
i1 173 (.mv (.t 3)) 1,
i1 174 (.bin .rem (.t 172) (.t 173)) 1,
i1 175 (.iad 2 (.t 162) (.t 163)) 1,
i1 176 (.fad 0 (.t 175)) 1,
⟨none, .st 1 (.t 176) (.t 174), none, 1, false, []⟩])
.skip)))
(.reg 0 [mv0 146 14,
i0 147 (.bin .add (.t 146) (.c (.int .i64 1))),
mv0 14 147])))
def Yer : AC :=
(.seq (.seq (.reg 0 [mv0 137 13,
mv0 138 3,
i0 139 (.bin .lss (.t 137) (.t 138))])
(.cond (.t 139)
.skip
(.exit 8)))
(.seq (.block 9 (.seq (.reg 0 [i0 14 (.mv (.c (.int .i64 0)))])
(.block 10 (.loop false Yfq))))
(.reg 0 [mv0 140 13,
i0 141 (.bin .add (.t 140) (.c (.int .i64 1))),
mv0 13 141])))
def c39 : AFun :=
{ keep := true, np := 1, nt := 178, res := [.cell 2 3 true], body :=
(.seq (.reg 2 [i0 1 (.box (.t 0)),
i1 2 (.alloc [.int .i64 0, .int .i64 0, .nils]) 1])
(.seq (.reg 0 [fd0 15 0 1,
ld1 16 15,
i0 17 (.bin .rem (.t 16) (.c (.int .u8 6))),
i0 18 (.conv .i64 (.t 17)),
i0 19 (.bin .add (.c (.int .i64 1)) (.t 18)),
mv0 3 19])
(.seq (.reg 3 [fd0 20 1 1,
ld1 21 20,
i0 22 (.bin .rem (.t 21) (.c (.int .u8 3))),
i0 23 (.conv .i64 (.t 22)),
i0 24 (.bin .add (.c (.int .i64 1)) (.t 23)),
fd0 25 2 1,
ld1 26 25,
i0 27 (.bin .rem (.t 26) (.c (.int .u8 3))),
i0 28 (.conv .i64 (.t 27)),
i0 29 (.bin .add (.c (.int .i64 1)) (.t 28)),
i0 30 (.build [.int .i64 0, .int .i64 0, .nils] [(0, 1, (.t 24)), (1, 1, (.t 29))]),
⟨some 4, .alloc [.int .i64 0, .int .i64 0, .nils], none, 0, false, [(2, 1)]⟩,
⟨none, .st 3 (.t 4) (.t 30), none, 2, false, [(2, 1)]⟩])
(.seq (.seq (.reg 0 [i0 5 (.mv (.c (.int .i64 0)))])
(.block 0 (.loop true Ygi)))
(.seq (.seq (.reg 0 [i0 9 (.mv (.c (.int .i64 1)))])
(.block 4 (.loop false Yhk)))
(.seq (.seq (.reg 0 [i0 13 (.mv (.c (.int .i64 0)))])
(.block 8 (.loop false Yer)))
(.seq (.reg 0 [i0 177 (.ld 3 true (.t 4)),
⟨none, .st 3 (.t 2) (.t 177), none, 0, false, []⟩])
.ret))))))) }
def Yde : AC :=
(.seq (.seq (.reg 0 [mv0 50 4,
fd0 51 0 1,
ld1 52 51,
i0 53 (.bin .lss (.t 50) (.t 52))])
(.cond (.t 53)
.skip
(.exit 2)))
(.seq (.block 3 (.seq (.reg 1 [fd0 56 2 1,
ld1 57 56,
mv0 58 3,
ia0 59 1 57 58,
ld1 60 59,
mv0 61 4,
ia0 62 2 60 61,
i0 63 (.ld 2 true (.t 62)),
i0 5 (.alloc [.int .i64 0, .int .i64 0]),
⟨none, .st 2 (.t 5) (.t 63), none, 1, false, []⟩])
(.seq (.seq (.reg 0 [fd0 64 0 5,
ld1 65 64,
i0 66 (.bin .eql (.t 65) (.c (.int .i64 (-1)))),
mv0 67 66,
i2 68 (.fad 1 (.t 5)) 67 true 0,
i2 69 (.ld 1 false (.t 68)) 67 true 0,
i2 70 (.bin .eql (.t 69) (.c (.int .i64 (-1)))) 67 true 0,
i0 71 (.pick (.t 67) (.t 70) (.c (.bool false)))])
(.cond (.t 71)
(.exit 3)
.skip))
(.seq (.reg 0 [fd0 72 0 5,
ld1 73 72,
i0 74 (.bin .lss (.t 73) (.c (.int .i64 0))),
mv0 75 74,
i2 76 (.fad 0 (.t 5)) 75 false 0,
i2 77 (.ld 1 false (.t 76)) 75 false 0,
i2 78 (.fad 2 (.t 1)) 75 false 0,
i2 79 (.ld 1 false (.t 78)) 75 false 0,
i2 80 (.len 0 (.t 79)) 75 false 0,
i2 81 (.bin .geq (.t 77) (.t 80)) 75 false 0,
i0 82 (.pick (.t 75) (.c (.bool true)) (.t 81)),
mv0 83 82,
i2 84 (.fad 1 (.t 5)) 83 false 0,
i2 85 (.ld 1 false (.t 84)) 83 false 0,
i2 86 (.bin .lss (.t 85) (.c (.int .i64 0))) 83 false 0,
i0 87 (.pick (.t 83) (.c (.bool true)) (.t 86)),
mv0 88 87,
i2 89 (.fad 1 (.t 5)) 88 false 0,
i2 90 (.ld 1 false (.t 89)) 88 false 0,
i2 91 (.fad 1 (.t 1)) 88 false 0,
i2 92 (.ld 1 false (.t 91)) 88 false 0,
i2 93 (.bin .geq (.t 90) (.t 92)) 88 false 0,
i0 94 (.pick (.t 88) (.c (.bool true)) (.t 93))])
(.cond (.t 94)
(.seq (.reg 0 [i0 2 (.mv (.c (.int .i64 1)))])
.ret)
.skip)))))
(.reg 0 [mv0 54 4,
i0 55 (.bin .add (.t 54) (.c (.int .i64 1))),
mv0 4 55])))
def Ygn : AC :=
(.seq (.seq (.reg 0 [mv0 34 3,
fd0 35 2 1,
ld1 36 35,
i0 37 (.len 0 (.t 36)),
i0 38 (.bin .lss (.t 34) (.t 37))])
(.cond (.t 38)
.skip
(.exit 0)))
(.seq (.block 1 (.seq (.seq (.regd [[], [0], [], [0, 1, 2], [0, 1, 2, 3], [0, 1, 2, 3, 4], [], [6], [0, 1, 2, 3, 4, 5, 6, 7]] 0 [fd0 41 2 1,
ld1 42 41,
mv0 43 3,
ia0 44 1 42 43,
ld1 45 44,
i0 46 (.len 0 (.t 45)),
fd0 47 0 1,
ld1 48 47,
i0 49 (.bin .neq (.t 46) (.t 48))])
(.cond (.t 49)
(.seq (.reg 0 [i0 2 (.mv (.c (.int .i64 1)))])
.ret)
.skip))
(.seq (.reg 0 [i0 4 (.mv (.c (.int .i64 0)))])
(.block 2 (.loop false Yde)))))
(.reg 0 [mv0 39 3,
i0 40 (.bin .add (.t 39) (.c (.int .i64 1))),
mv0 3 40])))
def c40 : AFun :=
{ keep := true, np := 1, nt := 95, res := [.tmp 2], body :=
(.seq (.reg 1 [i0 1 (.box (.t 0)),
i1 2 (.mv (.c (.int .i64 0))) 1])
(.seq (.seq (.reg 0 [fd0 6 0 1,
ld1 7 6,
i0 8 (.bin .gtr (.t 7) (.c (.int .i64 16))),
mv0 9 8,
i2 10 (.fad 1 (.t 1)) 9 false 0,
i2 11 (.ld 1 false (.t 10)) 9 false 0,
i2 12 (.bin .gtr (.t 11) (.c (.int .i64 16))) 9 false 0,
i0 13 (.pick (.t 9) (.c (.bool true)) (.t 12)),
mv0 14 13,
i2 15 (.fad 2 (.t 1)) 14 false 0,
i2 16 (.ld 1 false (.t 15)) 14 false 0,
i2 17 (.len 0 (.t 16)) 14 false 0,
i2 18 (.bin .gtr (.t 17) (.c (.int .i64 64))) 14 false 0,
i0 19 (.pick (.t 14) (.c (.bool true)) (.t 18))])
(.cond (.t 19)
(.seq (.reg 0 [i0 2 (.mv (.c (.int .i64 3)))])
.ret)
.skip))
(.seq (.seq (.reg 0 [fd0 20 0 1,
ld1 21 20,
i0 22 (.bin .lss (.t 21) (.c (.int .i64 1))),
mv0 23 22,
i2 24 (.fad 1 (.t 1)) 23 false 0,
i2 25 (.ld 1 false (.t 24)) 23 false 0,
i2 26 (.bin .lss (.t 25) (.c (.int .i64 1))) 23 false 0,
i0 27 (.pick (.t 23) (.c (.bool true)) (.t 26)),
mv0 28 27,
i2 29 (.fad 2 (.t 1)) 28 false 0,
i2 30 (.ld 1 false (.t 29)) 28 false 0,
i2 31 (.len 0 (.t 30)) 28 false 0,
i2 32 (.bin .eql (.t 31) (.c (.int .i64 0))) 28 false 0,
i0 33 (.pick (.t 28) (.c (.bool true)) (.t 32))])
(.cond (.t 33)
(.seq (.reg 0 [i0 2 (.mv (.c (.int .i64 1)))])
.ret)
.skip))
(.seq (.seq (.reg 0 [i0 3 (.mv (.c (.int .i64 0)))])
(.block 0 (.loop false Ygn)))
(.seq (.reg 0 [i0 2 (.mv (.c (.int .i64 0)))])
.ret))))) }
def c41 : AFun :=
{ keep := true, np := 1, nt := 12, res := [.tmp 2], body :=
(.seq (.reg 1 [i0 1 (.box (.t 0)),
i1 2 (.mv (.c (.bool false))) 1])
(.seq (.regd [[], [0], [], [2], [2, 3], [], [5], [2, 3, 4, 5, 6], [0, 1, 2, 3, 4, 5, 6, 7], [0, 1, 2, 3, 4, 5, 6, 7, 8]] 1 [i0 3 (.ld 3 true (.t 1)),
i0 4 (.call .iso (.c (.fn 52 [] [])) [(.t 3)]),
i1 5 (.fad 2 (.t 1)) 1,
i1 6 (.ld 1 false (.t 5)) 1,
i1 7 (.len 0 (.t 6)) 1,
i1 8 (.fad 0 (.t 1)) 1,
i1 9 (.ld 1 false (.t 8)) 1,
i1 10 (.bin .mul (.t 7) (.t 9)) 1,
i1 11 (.bin .eql (.t 4) (.t 10)) 1,
i1 2 (.mv (.t 11)) 1])
.ret)) }
def c42 : AFun :=
{ keep := true, np := 1, nt := 35, res := [.tmp 2], body :=
(.seq (.reg 1 [i0 1 (.box (.t 0)),
i1 2 (.mv (.c (.bool false))) 1])
(.seq (.reg 2 [i0 6 (.ld 5 true (.t 1)),
⟨some 7, .call .iso (.c (.fn 39 [] [])) [(.t 6)], none, 0, true, []⟩,
i1 3 (.alloc [.int .i64 0, .int .i64 0, .nils]) 1,
⟨none, .st 3 (.t 3) (.t 7), none, 2, false, []⟩])
(.seq (.reg 1 [i0 9 (.ld 3 true (.t 3)),
⟨some 10, .call .iso (.c (.fn 27 [] [])) [(.t 9)], none, 0, true, []⟩,
i1 8 (.mv (.t 10)) 1,
i1 11 (.ext (.t 8) 0) 1,
i1 12 (.ext (.t 8) 1) 1,
i1 4 (.mv (.t 11)) 1,
i1 5 (.mv (.t 12)) 1])
(.seq (.reg 3 [i0 13 (.ld 3 true (.t 3)),
i0 14 (.call .iso (.c (.fn 40 [] [])) [(.t 13)]),
i1 15 (.bin .eql (.t 14) (.c (.int .i64 0))) 1,
i1 16 (.mv (.t 15)) 1,
i2 17 (.ld 3 true (.t 3)) 16 true 1,
i2 18 (.call .iso (.c (.fn 41 [] [])) [(.t 17)]) 16 true 1,
i1 19 (.pick (.t 16) (.t 18) (.c (.bool false))) 2,
i1 20 (.mv (.t 19)) 2,
i2 21 (.mv (.t 5)) 20 true 2,
i2 22 (.bin .eql (.t 21) (.c (.int .i64 0))) 20 true 2,
i1 23 (.pick (.t 20) (.t 22) (.c (.bool false))) 2,
i1 24 (.mv (.t 23)) 2,
i2 25 (.mv (.t 4)) 24 true 2,
i2 26 (.len 0 (.t 25)) 24 true 2,
i2 27 (.fad 2 (.t 3)) 24 true 2,
i2 28 (.ld 1 false (.t 27)) 24 true 2,
i2 29 (.len 0 (.t 28)) 24 true 2,
i2 30 (.bin .eql (.t 26) (.t 29)) 24 true 2,
i1 31 (.pick (.t 24) (.t 30) (.c (.bool false))) 2,
i1 32 (.mv (.t 31)) 2,
i2 33 (.call .iso (.c (.fn 30 [] [])) []) 32 true 2,
i1 34 (.pick (.t 32) (.t 33) (.c (.bool false))) 3,
i1 2 (.mv (.t 34)) 3])
.ret)))) }
def c43 : AFun :=
{ keep := true, np := 2, nt := 6, res := [.tmp 4], body :=
(.seq (.reg 2 [i0 2 (.box (.t 0)),
i1 3 (.box (.t 1)) 1,
i1 4 (.mv (.c (.nilf))) 2])
(.seq (.reg 0 [i0 5 (.mkf 58 [] [(.t 2), (.t 3)]),
mv0 4 5])
.ret)) }
def c44 : AFun :=
{ keep := true, np := 1, nt := 8, res := [.tmp 2], body :=
(.seq (.reg 0 [i0 2 (.mv (.c (.nils)))])
(.seq (.seq (.reg 0 [mv0 3 0,
i0 4 (.eqn false 0 (.t 3) (.c (.nils)))])
(.cond (.t 4)
(.seq (.reg 0 [i0 2 (.mv (.c (.nils)))])
.ret)
.skip))
(.seq (.reg 2 [i0 5 (.bsl 1 0 [.int .i64 0] []),
i1 6 (.mv (.t 0)) 1,
i1 7 (.app 1 8 (.t 5) (.t 6)) 1,
i1 2 (.mv (.t 7)) 2])
.ret))) }
def c45 : AFun :=
{ keep := true, np := 1, nt := 5, res := [.tmp 2], body :=
(.seq (.reg 0 [i0 2 (.mv (.c (.nils)))])
(.seq (.reg 1 [mv0 3 0,
i0 4 (.call .raw (.c (.fn 59 [] [])) [(.c (.nils)), (.t 3)]),
i1 2 (.mv (.t 4)) 1])
.ret)) }
def c46 : AFun :=
{ keep := true, np := 1, nt := 11, res := [], body :=
(.seq (.reg 0 [mv0 3 0,
i0 4 (.len 0 (.t 3)),
mv0 2 4])
(.reg 2 [mv0 5 0,
mv0 6 2,
mv0 7 2,
i0 8 (.conv .u64 (.t 7)),
i0 9 (.call .iso (.c (.fn 60 [] [])) [(.t 8)]),
i1 10 (.call .raw (.c (.fn 61 [] [])) [(.t 5), (.c (.int .i64 0)), (.t 6), (.t 9)]) 1])) }
def Yga : AC :=
(.seq (.reg 0 [i0 8 (.bin .lss (.t 7) (.t 6))])
(.seq (.cond (.t 8)
.skip
(.exit 0))
(.seq (.block 1 (.seq (.reg 0 [ia0 9 1 5 7,
ld1 10 9,
mv0 4 10])
(.seq (.reg 1 [mv0 11 0,
mv0 12 4,
i0 13 (.call .raw (.t 11) [(.t 12)]),
i1 14 (.un .not (.t 13)) 1])
(.cond (.t 14)
.ret
.skip))))
(.reg 0 [i0 15 (.bin .add (.t 7) (.c (.int .i64 1))),
mv0 7 15]))))
def c47 : AFun :=
{ keep := true, np := 2, nt := 16, res := [], body :=
(.seq (.reg 0 [ld1 5 1,
i0 6 (.len 0 (.t 5)),
i0 7 (.mv (.c (.int .i64 0)))])
(.block 0 (.loop true Yga))) }
def c48 : AFun :=
{ keep := true, np := 2, nt := 13, res := [.tmp 3], body :=
(.seq (.reg 0 [i0 3 (.mv (.c (.bool false)))])
(.seq (.reg 0 [mv0 4 0,
i0 5 (.bin .lss (.t 4) (.c (.int .i64 0))),
mv0 6 5,
i2 7 (.mv (.t 0)) 6 false 0,
i2 8 (.fad 2 (.t 1)) 6 false 0,
i2 9 (.ld 1 false (.t 8)) 6 false 0,
i2 10 (.len 0 (.t 9)) 6 false 0,
i2 11 (.bin .geq (.t 7) (.t 10)) 6 false 0,
i0 12 (.pick (.t 6) (.c (.bool true)) (.t 11)),
mv0 3 12])
.ret)) }
def c49 : AFun :=
{ keep := true, np := 2, nt := 9, res := [.tmp 4], body :=
(.seq (.reg 0 [i0 4 (.mv (.c (.bool false)))])
(.seq (.reg 1 [mv0 5 0,
mv0 6 1,
i0 7 (.call .iso (.c (.fn 62 [] [])) [(.t 5), (.t 6)]),
i1 8 (.bin .geq (.t 7) (.c (.int .i64 0))) 1,
i1 4 (.mv (.t 8)) 1])
.ret)) }
def Ydp : AC :=
(.seq (.reg 0 [i0 18 (.bin .lss (.t 17) (.t 16))])
(.seq (.cond (.t 18)
.skip
(.exit 0))
(.seq (.block 1 (.seq (.reg 0 [mv0 19 17,
ia0 20 1 15 17,
ld1 21 20,
mv0 7 19,
mv0 8 21])
(.seq (.reg 0 [mv0 22 1,
mv0 23 7,
ia0 24 1 22 23,
ld1 25 24,
mv0 9 25])
(.seq (.reg 1 [mv0 26 2,
mv0 27 8,
mv0 28 9,
i0 29 (.call .raw (.t 26) [(.t 27), (.t 28)]),
i1 30 (.un .not (.t 29)) 1])
(.cond (.t 30)
(.seq (.reg 0 [i0 6 (.mv (.c (.bool false)))])
.ret)
.skip)))))
(.reg 0 [i0 31 (.bin .add (.t 17) (.c (.int .i64 1))),
mv0 17 31]))))
def c50 : AFun :=
{ keep := true, np := 3, nt := 32, res := [.tmp 6], body :=
(.seq (.reg 0 [i0 6 (.mv (.c (.bool false)))])
(.seq (.seq (.reg 0 [mv0 10 0,
i0 11 (.len 0 (.t 10)),
mv0 12 1,
i0 13 (.len 0 (.t 12)),
i0 14 (.bin .neq (.t 11) (.t 13))])
(.cond (.t 14)
(.seq (.reg 0 [i0 6 (.mv (.c (.bool false)))])
.ret)
.skip))
(.seq (.seq (.reg 0 [mv0 15 0,
i0 16 (.len 0 (.t 15)),
i0 17 (.mv (.c (.int .i64 0)))])
(.block 0 (.loop true Ydp)))
(.seq (.reg 0 [i0 6 (.mv (.c (.bool true)))])
.ret)))) }
def Yhi : AC :=
(.seq (.reg 0 [i0 14 (.bin .lss (.t 13) (.t 12))])
(.seq (.cond (.t 14)
.skip
(.exit 0))
(.seq (.block 1 (.seq (.reg 0 [mv0 15 13,
mv0 5 15])
(.seq (.regd [[], [], [0, 1], [0, 1, 2], [], [], [4, 5], [4, 5, 6], [0, 1, 2, 3, 4, 5, 6, 7]] 0 [mv0 16 0,
mv0 17 5,
ia0 18 2 16 17,
i0 19 (.ld 2 true (.t 18)),
mv0 20 1,
mv0 21 5,
ia0 22 2 20 21,
i0 23 (.ld 2 true (.t 22)),
i0 24 (.eqb true true [.i, .i] (.t 19) (.t 23))])
(.cond (.t 24)
(.seq (.reg 0 [i0 4 (.mv (.c (.bool false)))])
.ret)
.skip))))
(.reg 0 [i0 25 (.bin .add (.t 13) (.c (.int .i64 1))),
mv0 13 25]))))
def c51 : AFun :=
{ keep := true, np := 2, nt := 26, res := [.tmp 4], body :=
(.seq (.reg 0 [i0 4 (.mv (.c (.bool false)))])
(.seq (.seq (.reg 0 [mv0 6 0,
i0 7 (.len 0 (.t 6)),
mv0 8 1,
i0 9 (.len 0 (.t 8)),
i0 10 (.bin .neq (.t 7) (.t 9))])
(.cond (.t 10)
(.seq (.reg 0 [i0 4 (.mv (.c (.bool false)))])
.ret)
.skip))
(.seq (.seq (.reg 0 [mv0 11 0,
i0 12 (.len 0 (.t 11)),
i0 13 (.mv (.c (.int .i64 0)))])
(.block 0 (.loop false Yhi)))
(.seq (.reg 0 [i0 4 (.mv (.c (.bool true)))])
.ret)))) }
def Ydu : AC :=
(.seq (.seq (.reg 0 [mv0 13 5,
fd0 14 0 1,
ld1 15 14,
i0 16 (.bin .lss (.t 13) (.t 15))])
(.cond (.t 16)
.skip
(.exit 2)))
(.seq (.block 3 (.seq (.reg 0 [fd0 19 2 1,
ld1 20 19,
mv0 21 4,
ia0 22 1 20 21,
ld1 23 22,
mv0 24 5,
ia0 25 2 23 24,
fd0 26 0 25,
ld1 27 26,
i0 28 (.bin .geq (.t 27) (.c (.int .i64 0)))])
(.cond (.t 28)
(.reg 0 [mv0 29 3,
i0 30 (.bin .add (.t 29) (.c (.int .i64 1))),
mv0 3 30])
.skip)))
(.reg 0 [mv0 17 5,
i0 18 (.bin .add (.t 17) (.c (.int .i64 1))),
mv0 5 18])))
def Yhf : AC :=
(.seq (.seq (.reg 0 [mv0 6 4,
fd0 7 2 1,
ld1 8 7,
i0 9 (.len 0 (.t 8)),
i0 10 (.bin .lss (.t 6) (.t 9))])
(.cond (.t 10)
.skip
(.exit 0)))
(.seq (.block 1 (.seq (.reg 0 [i0 5 (.mv (.c (.int .i64 0)))])
(.block 2 (.loop false Ydu))))
(.reg 0 [mv0 11 4,
i0 12 (.bin .add (.t 11) (.c (.int .i64 1))),
mv0 4 12])))
def c52 : AFun :=
{ keep := true, np := 1, nt := 32, res := [.tmp 2], body :=
(.seq (.reg 1 [i0 1 (.box (.t 0)),
i1 2 (.mv (.c (.int .i64 0))) 1])
(.seq (.reg 0 [i0 3 (.mv (.c (.int .i64 0)))])
(.seq (.seq (.reg 0 [i0 4 (.mv (.c (.int .i64 0)))])
(.block 0 (.loop false Yhf)))
(.seq (.reg 0 [mv0 31 3,
mv0 2 31])
.ret)))) }
def Yeh : AC :=
(.seq (.reg 0 [i0 9 (.bin .lss (.t 8) (.t 7))])
(.seq (.cond (.t 9)
.skip
(.exit 0))
(.seq (.block 1 (.seq (.reg 0 [mv0 10 8,
mv0 5 10])
(.seq (.reg 1 [mv0 11 1,
mv0 12 0,
mv0 13 5,
ia0 14 2 12 13,
i0 15 (.ld 2 true (.t 14)),
i0 16 (.call .raw (.t 11) [(.t 15)])])
(.cond (.t 16)
(.seq (.reg 0 [mv0 17 5,
mv0 4 17])
.ret)
.skip))))
(.reg 0 [i0 18 (.bin .add (.t 8) (.c (.int .i64 1))),
mv0 8 18]))))
def c53 : AFun :=
{ keep := true, np := 2, nt := 19, res := [.tmp 4], body :=
(.seq (.reg 0 [i0 4 (.mv (.c (.int .i64 0)))])
(.seq (.seq (.reg 0 [mv0 6 0,
i0 7 (.len 0 (.t 6)),
i0 8 (.mv (.c (.int .i64 0)))])
(.block 0 (.loop true Yeh)))
(.seq (.reg 0 [i0 4 (.mv (.c (.int .i64 (-1))))])
.ret))) }
def c54 : AFun :=
{ keep := true, np := 2, nt := 9, res := [.tmp 4], body :=
(.seq (.reg 0 [i0 4 (.mv (.c (.bool false)))])
(.seq (.reg 1 [mv0 5 0,
mv0 6 1,
i0 7 (.call .iso (.c (.fn 53 [] [])) [(.t 5), (.t 6)]),
i1 8 (.bin .geq (.t 7) (.c (.int .i64 0))) 1,
i1 4 (.mv (.t 8)) 1])
.ret)) }
def c55 : AFun :=
{ keep := true, np := 2, nt := 33, res := [.tmp 4], body :=
(.seq (.reg 2 [i0 2 (.box (.t 0)),
i1 3 (.box (.t 1)) 1,
i1 4 (.mv (.c (.bool false))) 2])
(.seq (.regd [[], [], [0, 1], [0, 1, 2], [0, 1, 2, 3], [0, 1, 2, 3, 4], [0, 1, 2, 3, 4, 5], [0, 1, 2, 3, 4, 5, 6], [0, 1, 2, 3, 4, 5, 6, 7], [0, 1, 2, 3, 4, 5, 6, 7, 8], [0, 1, 2, 3, 4, 5, 6, 7], [0, 1, 2, 3, 4, 5, 6, 7, 10], [0, 1, 2, 3, 4, 5, 6, 7, 10, 11], [0, 1, 2, 3, 4, 5, 6, 7, 8, 9, 10, 11, 12], [0, 1, 2, 3, 4, 5, 6, 7, 8, 9, 10, 11, 12, 13], [0, 1, 2, 3, 4, 5, 6, 7, 8, 9, 10, 11, 12, 13, 14], [0, 1, 2, 3, 4, 5, 6, 7, 8, 9, 10, 11, 12, 13, 14, 15], [0, 1, 2, 3, 4, 5, 6, 7, 8, 9, 10, 11, 12, 13, 14, 15, 16], [0, 1, 2, 3, 4, 5, 6, 7, 8, 9, 10, 11, 12, 13, 14, 15, 16, 17], [0, 1, 2, 3, 4, 5, 6, 7, 8, 9, 10, 11, 12, 13, 14, 15, 16, 17, 18], [0, 1, 2, 3, 4, 5, 6, 7, 8, 9, 10, 11, 12, 13, 14, 15, 16, 17, 18, 19], [0, 1, 2, 3, 4, 5, 6, 7, 8, 9, 10, 11, 12, 13, 14, 15, 16, 17, 18, 19, 20], [0, 1, 2, 3, 4, 5, 6, 7, 8, 9, 10, 11, 12, 13, 14, 15, 16, 17, 18, 19, 20, 21], [0, 1, 2, 3, 4, 5, 6, 7, 8, 9, 10, 11, 12, 13, 14, 15, 16, 17, 18, 19, 20], [0, 1, 2, 3, 4, 5, 6, 7, 8, 9, 10, 11, 12, 13, 14, 15, 16, 17, 18, 19, 20, 23], [0, 1, 2, 3, 4, 5, 6, 7, 8, 9, 10, 11, 12, 13, 14, 15, 16, 17, 18, 19, 20, 21, 22, 23, 24], [0, 1, 2, 3, 4, 5, 6, 7, 8, 9, 10, 11, 12, 13, 14, 15, 16, 17, 18, 19, 20, 21, 22, 23, 24, 25], [0, 1, 2, 3, 4, 5, 6, 7, 8, 9, 10, 11, 12, 13, 14, 15, 16, 17, 18, 19, 20, 21, 22, 23, 24, 25, 26], [0, 1, 2, 3, 4, 5, 6, 7, 8, 9, 10, 11, 12, 13, 14, 15, 16, 17, 18, 19, 20, 21, 22, 23, 24, 25, 26, 27]] 1 [i0 5 (.ld 2 true (.t 3)),
i0 6 (.call .iso (.c (.fn 57 [] [])) []),
i1 7 (.eqb false true [.i, .i] (.t 5) (.t 6)) 1,
i1 8 (.mv (.t 7)) 1,
i2 9 (.fad 0 (.t 3)) 8 false 1,
i2 10 (.ld 1 false (.t 9)) 8 false 1,
i2 11 (.bin .geq (.t 10) (.c (.int .i64 0))) 8 false 1,
i2 12 (.mv (.t 11)) 8 false 1,
i2 13 (.fad 0 (.t 3)) 12 true 1,
i2 14 (.ld 1 false (.t 13)) 12 true 1,
i2 15 (.fad 2 (.t 2)) 12 true 1,
i2 16 (.ld 1 false (.t 15)) 12 true 1,
i2 17 (.len 0 (.t 16)) 12 true 1,
i2 18 (.bin .lss (.t 14) (.t 17)) 12 true 1,
i2 19 (.pick (.t 12) (.t 18) (.c (.bool false))) 8 false 1,
i2 20 (.mv (.t 19)) 8 false 1,
i2 21 (.fad 1 (.t 3)) 20 true 1,
i2 22 (.ld 1 false (.t 21)) 20 true 1,
i2 23 (.bin .geq (.t 22) (.c (.int .i64 0))) 20 true 1,
i2 24 (.pick (.t 20) (.t 23) (.c (.bool false))) 8 false 1,
i2 25 (.mv (.t 24)) 8 false 1,
i2 26 (.fad 1 (.t 3)) 25 true 1,
i2 27 (.ld 1 false (.t 26)) 25 true 1,
i2 28 (.fad 1 (.t 2)) 25 true 1,
i2 29 (.ld 1 false (.t 28)) 25 true 1,
i2 30 (.bin .lss (.t 27) (.t 29)) 25 true 1,
i2 31 (.pick (.t 25) (.t 30) (.c (.bool false))) 8 false 1,
i1 32 (.pick (.t 8) (.c (.bool true)) (.t 31)) 1,
i1 4 (.mv (.t 32)) 1])
.ret)) }
def c56 : AFun :=
{ keep := true, np := 2, nt := 8, res := [.tmp 3], body :=
(.seq (.reg 1 [i0 2 (.box (.t 0)),
i1 3 (.mv (.c (.bool false))) 1])
(.seq (.reg 1 [i0 4 (.ld 3 true (.t 1)),
i0 5 (.ld 2 true (.t 2)),
i0 6 (.call .iso (.c (.fn 55 [] [])) [(.t 4), (.t 5)]),
i1 7 (.un .not (.t 6)) 1,
i1 3 (.mv (.t 7)) 1])
.ret)) }
def c57 : AFun :=
{ keep := true, np := 0, nt := 2, res := [.cell 0 2 true], body :=
(.seq (.reg 1 [i0 0 (.alloc [.int .i64 0, .int .i64 0])])
(.seq (.reg 0 [i0 1 (.build [.int .i64 0, .int .i64 0] [(0, 1, (.c (.int .i64 (-1)))), (1, 1, (.c (.int .i64 (-1))))]),
⟨none, .st 2 (.t 0) (.t 1), none, 0, false, []⟩])
.ret)) }
def Ygv : AC :=
(.seq (.reg 0 [i0 39 (.bin .lss (.t 38) (.t 37))])
(.seq (.cond (.t 39)
.skip
(.exit 2))
(.seq (.block 3 (.seq (.reg 1 [mv0 40 38,
ia0 41 2 36 38,
i0 42 (.ld 2 true (.t 41)),
i0 8 (.alloc [.int .i64 0, .int .i64 0]),
i1 7 (.mv (.t 40)) 1,
⟨none, .st 2 (.t 8) (.t 42), none, 1, false, []⟩])
(.seq (.reg 0 [fd0 43 0 8,
ld1 44 43,
i0 45 (.bin .neq (.t 44) (.c (.int .i64 (-1)))),
mv0 46 45,
i2 47 (.mv (.t 4)) 46 true 0,
i2 48 (.fad 0 (.t 8)) 46 true 0,
i2 49 (.ld 1 false (.t 48)) 46 true 0,
i2 50 (.iad 1 (.t 47) (.t 49)) 46 true 0,
i2 51 (.ld 1 false (.t 50)) 46 true 0,
i2 52 (.un .not (.t 51)) 46 true 0,
i0 53 (.pick (.t 46) (.t 52) (.c (.bool false)))])
(.cond (.t 53)
(.seq (.reg 0 [mv0 54 4,
fd0 55 0 8,
ld1 56 55,
ia0 57 1 54 56,
⟨none, .st 1 (.t 57) (.c (.bool true)), none, 0, false, []⟩])
(.reg 2 [mv0 58 5,
fd0 59 0 8,
ld1 60 59,
fd0 61 0 6,
ld1 62 61,
mv0 63 7,
i0 64 (.build [.int .i64 0, .int .i64 0, .int .i64 0] [(0, 1, (.t 60)), (1, 1, (.t 62)), (2, 1, (.t 63))]),
i0 65 (.bsl 3 1 [.int .i64 0, .int .i64 0, .int .i64 0] [(0, 3, (.t 64))]),
i1 66 (.app 3 24 (.t 58) (.t 65)) 1,
i1 5 (.mv (.t 66)) 2]))
.skip))))
(.reg 0 [i0 67 (.bin .add (.t 38) (.c (.int .i64 1))),
mv0 38 67]))))
def Yhe : AC :=
(.seq (.seq (.reg 0 [mv0 19 5,
i0 20 (.len 0 (.t 19)),
i0 21 (.bin .gtr (.t 20) (.c (.int .i64 0)))])
(.cond (.t 21)
.skip
(.exit 0)))
(.block 1 (.seq (.reg 1 [mv0 22 5,
i0 23 (.iad 3 (.t 22) (.c (.int .i64 0))),
i0 24 (.ld 3 true (.t 23)),
i0 6 (.alloc [.int .i64 0, .int .i64 0, .int .i64 0]),
⟨none, .st 3 (.t 6) (.t 24), none, 1, false, []⟩])
(.seq (.reg 0 [mv0 25 5,
i0 26 (.slc 3 (.t 25) (some (.c (.int .i64 1))) none none),
mv0 5 26])
(.seq (.seq (.reg 1 [mv0 27 0,
i0 28 (.ld 3 true (.t 6)),
i0 29 (.call .raw (.t 27) [(.t 28)]),
i1 30 (.un .not (.t 29)) 1])
(.cond (.t 30)
.ret
.skip))
(.seq (.reg 0 [fd0 31 2 1,
ld1 32 31,
fd0 33 0 6,
ld1 34 33,
ia0 35 1 32 34,
ld1 36 35,
i0 37 (.len 0 (.t 36)),
i0 38 (.mv (.c (.int .i64 0)))])
(.block 2 (.loop true Ygv))))))))
def c58 : AFun :=
{ keep := true, np := 3, nt := 68, res := [], body :=
(.seq (.reg 1 [fd0 9 2 1,
ld1 10 9,
i0 11 (.len 0 (.t 10)),
i0 12 (.mks 1 1 [.bool false] (.t 11) (.t 11)),
i1 4 (.mv (.t 12)) 1])
(.seq (.reg 0 [mv0 13 4,
ld1 14 2,
ia0 15 1 13 14,
⟨none, .st 1 (.t 15) (.c (.bool true)), none, 0, false, []⟩])
(.seq (.reg 1 [ld1 16 2,
i0 17 (.build [.int .i64 0, .int .i64 0, .int .i64 0] [(0, 1, (.t 16)), (1, 1, (.c (.int .i64 (-1)))), (2, 1, (.c (.int .i64 (-1))))]),
i0 18 (.bsl 3 1 [.int .i64 0, .int .i64 0, .int .i64 0] [(0, 3, (.t 17))]),
i1 5 (.mv (.t 18)) 1])
(.block 0 (.loop true Yhe))))) }
def Zhp : AC :=
(.reg 0 [mv0 5 7])
def Zgn : AC :=
(.block 1 (.reg 2 [ld1 8 2,
mv0 9 5,
i0 10 (.bsl 1 1 [.int .i64 0] [(0, 1, (.t 9))]),
i1 11 (.app 1 8 (.t 8) (.t 10)) 1,
⟨none, .st 1 (.t 2) (.t 11), none, 2, false, []⟩]))
def c59 : AFun :=
{ keep := true, np := 2, nt := 13, res := [.tmp 4], body :=
(.seq (.reg 1 [i0 2 (.box (.t 0)),
i1 4 (.mv (.c (.nils))) 1])
(.seq (.seq (.reg 0 [mv0 6 1])
(.block 0 (.rngf true (.t 6) [7] Zhp Zgn)))
(.seq (.reg 0 [ld1 12 2,
mv0 4 12])
.ret))) }
def c60 : AFun :=
{ keep := true, np := 1, nt := 8, res := [.tmp 2], body :=
(.seq (.reg 0 [i0 2 (.mv (.c (.int .i64 0)))])
(.seq (.cond (.c (.bool false))
(.seq (.reg 1 [mv0 3 0,
i0 4 (.conv .u32 (.t 3)),
i0 5 (.call .iso (.c (.fn 68 [] [])) [(.t 4)]),
i1 2 (.mv (.t 5)) 1])
.ret)
.skip)
(.seq (.reg 1 [mv0 6 0,
i0 7 (.call .iso (.c (.fn 69 [] [])) [(.t 6)]),
i1 2 (.mv (.t 7)) 1])
.ret))) }
def B61_1 : AC :=
(.block 1 (.seq (.reg 0 [mv0 19 2,
mv0 20 1,
i0 21 (.bin .sub (.t 19) (.t 20)),
mv0 10 21])
(.seq (.seq (.reg 0 [mv0 22 10,
i0 23 (.bin .leq (.t 22) (.c (.int .i64 12)))])
(.cond (.t 23)
(.seq (.reg 1 [mv0 24 0,
mv0 25 1,
mv0 26 2,
i0 27 (.call .raw (.c (.fn 86 [] [])) [(.t 24), (.t 25), (.t 26)])])
.ret)
.skip))
(.seq (.seq (.reg 0 [mv0 28 3,
i0 29 (.bin .eql (.t 28) (.c (.int .i64 0)))])
(.cond (.t 29)
(.seq (.reg 1 [mv0 30 0,
mv0 31 1,
mv0 32 2,
i0 33 (.call .raw (.c (.fn 87 [] [])) [(.t 30), (.t 31), (.t 32)])])
.ret)
.skip))
(.seq (.seq (.reg 0 [mv0 34 8,
i0 35 (.un .not (.t 34))])
(.cond (.t 35)
(.seq (.reg 1 [mv0 36 0,
mv0 37 1,
mv0 38 2,
i0 39 (.call .raw (.c (.fn 88 [] [])) [(.t 36), (.t 37), (.t 38)])])
(.reg 0 [mv0 40 3,
i0 41 (.bin .sub (.t 40) (.c (.int .i64 1))),
mv0 3 41]))
.skip))
(.seq (.reg 1 [mv0 43 0,
mv0 44 1,
mv0 45 2,
i0 46 (.call .iso (.c (.fn 73 [] [])) [(.t 43), (.t 44), (.t 45)]),
i1 42 (.mv (.t 46)) 1,
i1 47 (.ext (.t 42) 0) 1,
i1 48 (.ext (.t 42) 1) 1,
i1 11 (.mv (.t 47)) 1,
i1 12 (.mv (.t 48)) 1])
(.seq (.seq (.reg 0 [mv0 49 12,
i0 50 (.bin .eql (.t 49) (.c (.int .i64 2)))])
(.cond (.t 50)
(.seq (.reg 1 [mv0 51 0,
mv0 52 1,
mv0 53 2,
i0 54 (.call .raw (.c (.fn 89 [] [])) [(.t 51), (.t 52), (.t 53)])])
(.seq (.reg 0 [mv0 55 2,
i0 56 (.bin .sub (.t 55) (.c (.int .i64 1))),
mv0 57 11,
mv0 58 1,
i0 59 (.bin .sub (.t 57) (.t 58)),
i0 60 (.bin .sub (.t 56) (.t 59)),
mv0 11 60])
(.reg 0 [i0 12 (.mv (.c (.int .i64 1)))])))
.skip))
(.seq (.seq (.reg 0 [mv0 61 8,
mv0 62 61,
i2 63 (.mv (.t 9)) 62 true 0,
i0 64 (.pick (.t 62) (.t 63) (.c (.bool false))),
mv0 65 64,
i2 66 (.mv (.t 12)) 65 true 0,
i2 67 (.bin .eql (.t 66) (.c (.int .i64 1))) 65 true 0,
i0 68 (.pick (.t 65) (.t 67) (.c (.bool false)))])
(.cond (.t 68)
(.seq (.reg 1 [mv0 69 0,
mv0 70 1,
mv0 71 2,
i0 72 (.call .iso (.c (.fn 90 [] [])) [(.t 69), (.t 70), (.t 71)])])
(.cond (.t 72)
.ret
.skip))
.skip))
(.seq (.seq (.regd [[], [0], [0, 1], [0, 1, 2], [0, 1, 2], [0, 1, 2, 4], [0, 1, 2, 3, 4, 5], [0, 1, 2, 3, 4, 5, 6], [0, 1, 2], [0, 1, 2], [0, 1, 2, 8, 9], [0, 1, 2, 8, 9, 10], [0, 1, 2, 3, 4, 5, 6, 7, 8, 9, 10, 11], [0, 1, 2, 3, 4, 5, 6, 7, 8, 9, 10, 11, 12], [0, 1, 2, 3, 4, 5, 6, 7, 8, 9, 10, 11, 12, 13]] 1 [mv0 73 1,
i0 74 (.bin .gtr (.t 73) (.c (.int .i64 0))),
mv0 75 74,
i2 76 (.mv (.t 0)) 75 true 0,
i2 77 (.mv (.t 1)) 75 true 0,
i2 78 (.bin .sub (.t 77) (.c (.int .i64 1))) 75 true 0,
i2 79 (.iad 1 (.t 76) (.t 78)) 75 true 0,
i2 80 (.ld 1 false (.t 79)) 75 true 0,
i2 81 (.mv (.t 0)) 75 true 0,
i2 82 (.mv (.t 11)) 75 true 0,
i2 83 (.iad 1 (.t 81) (.t 82)) 75 true 0,
i2 84 (.ld 1 false (.t 83)) 75 true 0,
i2 85 (.call .iso (.c (.fn 75 [] [])) [(.t 80), (.t 84)]) 75 true 0,
i2 86 (.un .not (.t 85)) 75 true 1,
i1 87 (.pick (.t 75) (.t 86) (.c (.bool false))) 1])
(.cond (.t 87)
(.seq (.reg 1 [mv0 88 0,
mv0 89 1,
mv0 90 2,
mv0 91 11,
i0 92 (.call .iso (.c (.fn 91 [] [])) [(.t 88), (.t 89), (.t 90), (.t 91)]),
i1 13 (.mv (.t 92)) 1])
(.seq (.reg 0 [mv0 93 13,
mv0 1 93])
(.exit 1)))
.skip))
(.seq (.reg 1 [mv0 95 0,
mv0 96 1,
mv0 97 2,
mv0 98 11,
i0 99 (.call .iso (.c (.fn 92 [] [])) [(.t 95), (.t 96), (.t 97), (.t 98)]),
i1 94 (.mv (.t 99)) 1,
i1 100 (.ext (.t 94) 0) 1,
i1 101 (.ext (.t 94) 1) 1,
i1 14 (.mv (.t 100)) 1,
i1 15 (.mv (.t 101)) 1])
(.seq (.reg 0 [mv0 102 15,
mv0 9 102])
(.seq (.reg 0 [mv0 103 14,
mv0 104 1,
i0 105 (.bin .sub (.t 103) (.t 104)),
mv0 106 2,
mv0 107 14,
i0 108 (.bin .sub (.t 106) (.t 107)),
mv0 16 105,
mv0 17 108])
(.seq (.reg 0 [mv0 109 10,
i0 110 (.bin .quo (.t 109) (.c (.int .i64 8))),
mv0 18 110])
(.seq (.reg 0 [mv0 111 16,
mv0 112 17,
i0 113 (.bin .lss (.t 111) (.t 112))])
(.cond (.t 113)
(.seq (.reg 0 [mv0 114 16,
mv0 115 18,
i0 116 (.bin .geq (.t 114) (.t 115)),
mv0 8 116])
(.seq (.reg 1 [mv0 117 0,
mv0 118 1,
mv0 119 14,
mv0 120 3,
i0 121 (.call .raw (.c (.fn 61 [] [])) [(.t 117), (.t 118), (.t 119), (.t 120)])])
(.reg 0 [mv0 122 14,
i0 123 (.bin .add (.t 122) (.c (.int .i64 1))),
mv0 1 123])))
(.seq (.reg 0 [mv0 124 17,
mv0 125 18,
i0 126 (.bin .geq (.t 124) (.t 125)),
mv0 8 126])
(.seq (.reg 1 [mv0 127 0,
mv0 128 14,
i0 129 (.bin .add (.t 128) (.c (.int .i64 1))),
mv0 130 2,
mv0 131 3,
i0 132 (.call .raw (.c (.fn 61 [] [])) [(.t 127), (.t 129), (.t 130), (.t 131)])])
(.reg 0 [mv0 133 14,
mv0 2 133]))))))))))))))))))
def c61 : AFun :=
{ keep := true, np := 4, nt := 134, res := [], body :=
(.seq (.reg 0 [i0 8 (.mv (.c (.bool true)))])
(.seq (.reg 0 [i0 9 (.mv (.c (.bool true)))])
(.block 0 (.loop true B61_1)))) }
def Yek : AC :=
(.seq (.reg 0 [i0 9 (.bin .lss (.t 8) (.t 7))])
(.seq (.cond (.t 9)
.skip
(.exit 0))
(.seq (.block 1 (.seq (.reg 0 [mv0 10 8,
mv0 5 10])
(.seq (.reg 1 [mv0 11 1,
mv0 12 0,
mv0 13 5,
ia0 14 1 12 13,
ld1 15 14,
i0 16 (.call .raw (.t 11) [(.t 15)])])
(.cond (.t 16)
(.seq (.reg 0 [mv0 17 5,
mv0 4 17])
.ret)
.skip))))
(.reg 0 [i0 18 (.bin .add (.t 8) (.c (.int .i64 1))),
mv0 8 18]))))
def c62 : AFun :=
{ keep := true, np := 2, nt := 19, res := [.tmp 4], body :=
(.seq (.reg 0 [i0 4 (.mv (.c (.int .i64 0)))])
(.seq (.seq (.reg 0 [mv0 6 0,
i0 7 (.len 0 (.t 6)),
i0 8 (.mv (.c (.int .i64 0)))])
(.block 0 (.loop true Yek)))
(.seq (.reg 0 [i0 4 (.mv (.c (.int .i64 (-1))))])
.ret))) }
def c63 : AFun :=
{ keep := true, np := 2, nt := 11, res := [.cell 3 2 true], body :=
(.seq (.reg 2 [i0 2 (.box (.t 0)),
i1 3 (.alloc [.int .i64 0, .int .i64 0]) 1])
(.seq (.reg 0 [ld1 4 1,
fd0 5 0 2,
ld1 6 5,
i0 7 (.lkp false [.i] (.int .i64 0) false (.t 4) (.t 6)),
fd0 8 1 2,
ld1 9 8,
i0 10 (.build [.int .i64 0, .int .i64 0] [(0, 1, (.t 7)), (1, 1, (.t 9))]),
⟨none, .st 2 (.t 3) (.t 10), none, 0, false, []⟩])
.ret)) }
def c64 : AFun :=
{ keep := true, np := 2, nt := 17, res := [.tmp 4, .tmp 5], body :=
(.seq (.reg 0 [i0 4 (.mv (.c (.int .u32 0))),
i0 5 (.mv (.c (.int .u32 0)))])
(.seq (.reg 0 [mv0 7 0,
i0 8 (.conv .u64 (.t 7)),
mv0 9 1,
i0 10 (.conv .u64 (.t 9)),
i0 11 (.bin .mul (.t 8) (.t 10)),
mv0 6 11])
(.seq (.reg 0 [mv0 12 6,
i0 13 (.bin .shr (.t 12) (.c (.int .u64 32))),
i0 14 (.conv .u32 (.t 13)),
mv0 15 6,
i0 16 (.conv .u32 (.t 15)),
mv0 4 14,
mv0 5 16])
.ret))) }
def c65 : AFun :=
{ keep := true, np := 2, nt := 51, res := [.tmp 4, .tmp 5], body :=
(.seq (.reg 0 [i0 4 (.mv (.c (.int .u64 0))),
i0 5 (.mv (.c (.int .u64 0)))])
(.seq (.reg 0 [mv0 14 0,
i0 15 (.bin .and (.t 14) (.c (.int .u64 4294967295))),
mv0 6 15])
(.seq (.reg 0 [mv0 16 0,
i0 17 (.bin .shr (.t 16) (.c (.int .u64 32))),
mv0 7 17])
(.seq (.reg 0 [mv0 18 1,
i0 19 (.bin .and (.t 18) (.c (.int .u64 4294967295))),
mv0 8 19])
(.seq (.reg 0 [mv0 20 1,
i0 21 (.bin .shr (.t 20) (.c (.int .u64 32))),
mv0 9 21])
(.seq (.reg 0 [mv0 22 6,
mv0 23 8,
i0 24 (.bin .mul (.t 22) (.t 23)),
mv0 10 24])
(.seq (.reg 0 [mv0 25 7,
mv0 26 8,
i0 27 (.bin .mul (.t 25) (.t 26)),
mv0 28 10,
i0 29 (.bin .shr (.t 28) (.c (.int .u64 32))),
i0 30 (.bin .add (.t 27) (.t 29)),
mv0 11 30])
(.seq (.reg 0 [mv0 31 11,
i0 32 (.bin .and (.t 31) (.c (.int .u64 4294967295))),
mv0 12 32])
(.seq (.reg 0 [mv0 33 11,
i0 34 (.bin .shr (.t 33) (.c (.int .u64 32))),
mv0 13 34])
(.seq (.reg 0 [mv0 35 12,
mv0 36 6,
mv0 37 9,
i0 38 (.bin .mul (.t 36) (.t 37)),
i0 39 (.bin .add (.t 35) (.t 38)),
mv0 12 39])
(.seq (.reg 0 [mv0 40 7,
mv0 41 9,
i0 42 (.bin .mul (.t 40) (.t 41)),
mv0 43 13,
i0 44 (.bin .add (.t 42) (.t 43)),
mv0 45 12,
i0 46 (.bin .shr (.t 45) (.c (.int .u64 32))),
i0 47 (.bin .add (.t 44) (.t 46)),
mv0 4 47])
(.seq (.reg 0 [mv0 48 0,
mv0 49 1,
i0 50 (.bin .mul (.t 48) (.t 49)),
mv0 5 50])
.ret)))))))))))) }
def c66 : AFun :=
{ keep := true, np := 2, nt := 30, res := [.tmp 4, .tmp 5], body :=
(.seq (.reg 0 [i0 4 (.mv (.c (.int .u64 0))),
i0 5 (.mv (.c (.int .u64 0)))])
(.seq (.cond (.c (.bool false))
(.seq (.reg 1 [mv0 11 0,
i0 12 (.conv .u32 (.t 11)),
mv0 13 1,
i0 14 (.conv .u32 (.t 13)),
i0 15 (.call .iso (.c (.fn 64 [] [])) [(.t 12), (.t 14)]),
i1 10 (.mv (.t 15)) 1,
i1 16 (.ext (.t 10) 0) 1,
i1 17 (.ext (.t 10) 1) 1,
i1 6 (.mv (.t 16)) 1,
i1 7 (.mv (.t 17)) 1])
(.seq (.reg 0 [mv0 18 6,
i0 19 (.conv .u64 (.t 18)),
mv0 20 7,
i0 21 (.conv .u64 (.t 20)),
mv0 4 19,
mv0 5 21])
.ret))
.skip)
(.seq (.reg 1 [mv0 23 0,
mv0 24 1,
i0 25 (.call .iso (.c (.fn 65 [] [])) [(.t 23), (.t 24)]),
i1 22 (.mv (.t 25)) 1,
i1 26 (.ext (.t 22) 0) 1,
i1 27 (.ext (.t 22) 1) 1,
i1 8 (.mv (.t 26)) 1,
i1 9 (.mv (.t 27)) 1])
(.seq (.reg 0 [mv0 28 8,
mv0 29 9,
mv0 4 28,
mv0 5 29])
.ret)))) }
def c67 : AFun :=
{ keep := true, np := 2, nt := 14, res := [.tmp 4], body :=
(.seq (.reg 0 [i0 4 (.mv (.c (.int .i64 0)))])
(.seq (.seq (.reg 0 [mv0 5 1,
mv0 6 0,
i0 7 (.len 0 (.t 6)),
i0 8 (.bin .lss (.t 5) (.t 7))])
(.cond (.t 8)
(.seq (.reg 0 [mv0 9 0,
mv0 10 1,
ia0 11 1 9 10,
ld1 12 11,
i0 13 (.conv .i64 (.t 12)),
mv0 4 13])
.ret)
.skip))
(.seq (.reg 0 [i0 4 (.mv (.c (.int .i64 0)))])
.ret))) }
def c68 : AFun :=
{ keep := true, np := 1, nt := 19, res := [.tmp 2], body :=
(.seq (.reg 0 [i0 2 (.mv (.c (.int .i64 0)))])
(.seq (.seq (.reg 0 [mv0 3 0,
i0 4 (.bin .geq (.t 3) (.c (.int .u32 65536)))])
(.cond (.t 4)
(.seq (.reg 0 [mv0 5 0,
i0 6 (.bin .shr (.t 5) (.c (.int .u64 16))),
mv0 0 6])
(.reg 0 [i0 2 (.mv (.c (.int .i64 16)))]))
.skip))
(.seq (.seq (.reg 0 [mv0 7 0,
i0 8 (.bin .geq (.t 7) (.c (.int .u32 256)))])
(.cond (.t 8)
(.seq (.reg 0 [mv0 9 0,
i0 10 (.bin .shr (.t 9) (.c (.int .u64 8))),
mv0 0 10])
(.reg 0 [mv0 11 2,
i0 12 (.bin .add (.t 11) (.c (.int .i64 8))),
mv0 2 12]))
.skip))
(.seq (.reg 0 [mv0 13 2,
mv0 14 0,
i0 15 (.conv .u8 (.t 14)),
⟨some 16, .six (.c (.str ⟨#[0, 1, 2, 2, 3, 3, 3, 3, 4, 4, 4, 4, 4, 4, 4, 4, 5, 5, 5, 5, 5, 5, 5, 5, 5, 5, 5, 5, 5, 5, 5, 5, 6, 6, 6, 6, 6, 6, 6, 6, 6, 6, 6, 6, 6, 6, 6, 6, 6, 6, 6, 6, 6, 6, 6, 6, 6, 6, 6, 6, 6, 6, 6, 6, 7, 7, 7, 7, 7, 7, 7, 7, 7, 7, 7, 7, 7, 7, 7, 7, 7, 7, 7, 7, 7, 7, 7, 7, 7, 7, 7, 7, 7, 7, 7, 7, 7, 7, 7, 7, 7, 7, 7, 7, 7, 7, 7, 7, 7, 7, 7, 7, 7, 7, 7, 7, 7, 7, 7, 7, 7, 7, 7, 7, 7, 7, 7, 7, 8, 8, 8, 8, 8, 8, 8, 8, 8, 8, 8, 8, 8, 8, 8, 8, 8, 8, 8, 8, 8, 8, 8, 8, 8, 8, 8, 8, 8, 8, 8, 8, 8, 8, 8, 8, 8, 8, 8, 8, 8, 8, 8, 8, 8, 8, 8, 8, 8, 8, 8, 8, 8, 8, 8, 8, 8, 8, 8, 8, 8, 8, 8, 8, 8, 8, 8, 8, 8, 8, 8, 8, 8, 8, 8, 8, 8, 8, 8, 8, 8, 8, 8, 8, 8, 8, 8, 8, 8, 8, 8, 8, 8, 8, 8, 8, 8, 8, 8, 8, 8, 8, 8, 8, 8, 8, 8, 8, 8, 8, 8, 8, 8, 8, 8, 8, 8, 8, 8, 8, 8, 8, 8, 8, 8, 8, 8, 8]⟩)) (.t 15), none, 0, false, []⟩,
i0 17 (.conv .i64 (.t 16)),
i0 18 (.bin .add (.t 13) (.t 17)),
mv0 2 18])
.ret)))) }
def c69 : AFun :=
{ keep := true, np := 1, nt := 25, res := [.tmp 2], body :=
(.seq (.reg 0 [i0 2 (.mv (.c (.int .i64 0)))])
(.seq (.seq (.reg 0 [mv0 3 0,
i0 4 (.bin .geq (.t 3) (.c (.int .u64 4294967296)))])
(.cond (.t 4)
(.seq (.reg 0 [mv0 5 0,
i0 6 (.bin .shr (.t 5) (.c (.int .u64 32))),
mv0 0 6])
(.reg 0 [i0 2 (.mv (.c (.int .i64 32)))]))
.skip))
(.seq (.seq (.reg 0 [mv0 7 0,
i0 8 (.bin .geq (.t 7) (.c (.int .u64 65536)))])
(.cond (.t 8)
(.seq (.reg 0 [mv0 9 0,
i0 10 (.bin .shr (.t 9) (.c (.int .u64 16))),
mv0 0 10])
(.reg 0 [mv0 11 2,
i0 12 (.bin .add (.t 11) (.c (.int .i64 16))),
mv0 2 12]))
.skip))
(.seq (.seq (.reg 0 [mv0 13 0,
i0 14 (.bin .geq (.t 13) (.c (.int .u64 256)))])
(.cond (.t 14)
(.seq (.reg 0 [mv0 15 0,
i0 16 (.bin .shr (.t 15) (.c (.int .u64 8))),
mv0 0 16])
(.reg 0 [mv0 17 2,
i0 18 (.bin .add (.t 17) (.c (.int .i64 8))),
mv0 2 18]))
.skip))
(.seq (.reg 0 [mv0 19 2,
mv0 20 0,
i0 21 (.conv .u8 (.t 20)),
⟨some 22, .six (.c (.str ⟨#[0, 1, 2, 2, 3, 3, 3, 3, 4, 4, 4, 4, 4, 4, 4, 4, 5, 5, 5, 5, 5, 5, 5, 5, 5, 5, 5, 5, 5, 5, 5, 5, 6, 6, 6, 6, 6, 6, 6, 6, 6, 6, 6, 6, 6, 6, 6, 6, 6, 6, 6, 6, 6, 6, 6, 6, 6, 6, 6, 6, 6, 6, 6, 6, 7, 7, 7, 7, 7, 7, 7, 7, 7, 7, 7, 7, 7, 7, 7, 7, 7, 7, 7, 7, 7, 7, 7, 7, 7, 7, 7, 7, 7, 7, 7, 7, 7, 7, 7, 7, 7, 7, 7, 7, 7, 7, 7, 7, 7, 7, 7, 7, 7, 7, 7, 7, 7, 7, 7, 7, 7, 7, 7, 7, 7, 7, 7, 7, 8, 8, 8, 8, 8, 8, 8, 8, 8, 8, 8, 8, 8, 8, 8, 8, 8, 8, 8, 8, 8, 8, 8, 8, 8, 8, 8, 8, 8, 8, 8, 8, 8, 8, 8, 8, 8, 8, 8, 8, 8, 8, 8, 8, 8, 8, 8, 8, 8, 8, 8, 8, 8, 8, 8, 8, 8, 8, 8, 8, 8, 8, 8, 8, 8, 8, 8, 8, 8, 8, 8, 8, 8, 8, 8, 8, 8, 8, 8, 8, 8, 8, 8, 8, 8, 8, 8, 8, 8, 8, 8, 8, 8, 8, 8, 8, 8, 8, 8, 8, 8, 8, 8, 8, 8, 8, 8, 8, 8, 8, 8, 8, 8, 8, 8, 8, 8, 8, 8, 8, 8, 8, 8, 8, 8, 8, 8, 8]⟩)) (.t 21), none, 0, false, []⟩,
i0 23 (.conv .i64 (.t 22)),
i0 24 (.bin .add (.t 19) (.t 23)),
mv0 2 24])
.ret))))) }
def c74 : AFun :=
{ keep := true, np := 1, nt := 6, res := [.tmp 2], body :=
(.seq (.reg 0 [i0 2 (.mv (.c (.bool false)))])
(.seq (.reg 0 [mv0 3 0,
mv0 4 0,
i0 5 (.bin .neq (.t 3) (.t 4)),
mv0 2 5])
.ret)) }
def c75 : AFun :=
{ keep := true, np := 2, nt := 17, res := [.tmp 4], body :=
(.seq (.reg 0 [i0 4 (.mv (.c (.bool false)))])
(.seq (.reg 2 [mv0 5 0,
i0 6 (.call .iso (.c (.fn 74 [] [])) [(.t 5)]),
i1 7 (.mv (.t 6)) 1,
i2 8 (.mv (.t 1)) 7 true 1,
i2 9 (.call .iso (.c (.fn 74 [] [])) [(.t 8)]) 7 true 1,
i2 10 (.un .not (.t 9)) 7 true 2,
i1 11 (.pick (.t 7) (.t 10) (.c (.bool false))) 2,
i1 12 (.mv (.t 11)) 2,
i2 13 (.mv (.t 0)) 12 false 2,
i2 14 (.mv (.t 1)) 12 false 2,
i2 15 (.bin .lss (.t 13) (.t 14)) 12 false 2,
i1 16 (.pick (.t 12) (.c (.bool true)) (.t 15)) 2,
i1 4 (.mv (.t 16)) 2])
.ret)) }
def Yfp : AC :=
(.seq (.seq (.reg 0 [mv0 94 11,
mv0 95 4,
mv0 96 10,
ia0 97 1 95 96,
ld1 98 97,
i0 99 (.len 0 (.t 98)),
i0 100 (.bin .lss (.t 94) (.t 99))])
(.cond (.t 100)
.skip
(.exit 2)))
(.seq (.block 3 (.seq (.regd [[], [], [], [1, 2], [1, 2, 3], [], [1, 2, 3, 4, 5], [0, 1, 2, 3, 4, 5, 6], [0, 1, 2, 3, 4, 5, 6, 7]] 1 [i0 103 (.ld 3 true (.t 3)),
mv0 104 4,
mv0 105 10,
ia0 106 1 104 105,
ld1 107 106,
mv0 108 11,
i0 109 (.slc 1 (.t 107) none (some (.t 108)) none),
i0 110 (.call .iso (.c (.fn 21 [] [])) [(.t 103), (.c (.int .i64 0)), (.t 109)]),
i1 12 (.mv (.t 110)) 1])
(.seq (.regd [[], [0], [0, 1], [0, 1, 2], [0, 1, 2], [0, 1, 2, 3, 4], [0, 1, 2, 3, 4, 5], [0, 1, 2], [0, 1, 2], [0, 1, 2, 7, 8], [0, 1, 2, 7, 8, 9], [0, 1, 2], [0, 1, 2, 7, 8, 9, 10, 11], [0, 1, 2, 3, 4, 5, 6, 7, 8, 9, 10, 11, 12], [0, 1, 2, 3, 4, 5, 6, 7, 8, 9, 10, 11, 12, 13], [0, 1, 2, 3, 4, 5, 6, 7, 8, 9, 10, 11, 12, 13, 14]] 1 [mv0 111 12,
i0 112 (.bin .lss (.t 111) (.c (.int .i64 0))),
mv0 113 112,
i2 114 (.mv (.t 4)) 113 false 0,
i2 115 (.mv (.t 12)) 113 false 0,
i2 116 (.iad 1 (.t 114) (.t 115)) 113 false 0,
i2 117 (.ld 1 false (.t 116)) 113 false 0,
i2 118 (.mv (.t 4)) 113 false 0,
i2 119 (.mv (.t 10)) 113 false 0,
i2 120 (.iad 1 (.t 118) (.t 119)) 113 false 0,
i2 121 (.ld 1 false (.t 120)) 113 false 0,
i2 122 (.mv (.t 11)) 113 false 0,
i2 123 (.slc 1 (.t 121) none (some (.t 122)) none) 113 false 0,
i2 124 (.call .iso (.c (.fn 15 [] [])) [(.t 117), (.t 123)]) 113 false 0,
i2 125 (.un .not (.t 124)) 113 false 1,
i1 126 (.pick (.t 113) (.c (.bool true)) (.t 125)) 1])
(.cond (.t 126)
(.seq (.reg 0 [i0 2 (.mv (.c (.bool false)))])
.ret)
.skip))))
(.reg 0 [mv0 101 11,
i0 102 (.bin .add (.t 101) (.c (.int .i64 1))),
mv0 11 102])))
def Ydg : AC :=
(.seq (.seq (.reg 0 [mv0 58 10,
mv0 59 4,
i0 60 (.len 0 (.t 59)),
i0 61 (.bin .lss (.t 58) (.t 60))])
(.cond (.t 61)
.skip
(.exit 0)))
(.seq (.block 1 (.seq (.seq (.regd [[], [], [0, 1], [0, 1, 2], [], [], [4, 5], [4, 5, 6], [0, 1, 2, 3, 4, 5, 6, 7], [0, 1, 2, 3, 4, 5, 6, 7, 8], [0, 1, 2, 3, 4, 5, 6, 7, 8, 9], [0, 1, 2, 3, 4, 5, 6, 7, 8, 9], [0, 1, 2, 3, 4, 5, 6, 7, 8, 9, 10, 11], [0, 1, 2, 3, 4, 5, 6, 7, 8, 9, 10, 11, 12], [0, 1, 2, 3, 4, 5, 6, 7, 8, 9], [0, 1, 2, 3, 4, 5, 6, 7, 8, 9], [0, 1, 2, 3, 4, 5, 6, 7, 8, 9, 14, 15], [0, 1, 2, 3, 4, 5, 6, 7, 8, 9, 14, 15, 16], [0, 1, 2, 3, 4, 5, 6, 7, 8, 9, 10, 11, 12, 13, 14, 15, 16, 17], [0, 1, 2, 3, 4, 5, 6, 7, 8, 9, 10, 11, 12, 13, 14, 15, 16, 17, 18], [0, 1, 2, 3, 4, 5, 6, 7, 8, 9, 10, 11, 12, 13, 14, 15, 16, 17, 18, 19]] 1 [mv0 64 5,
mv0 65 10,
ia0 66 1 64 65,
ld1 67 66,
mv0 68 8,
mv0 69 10,
ia0 70 1 68 69,
ld1 71 70,
i0 72 (.eqb true false [.b] (.t 67) (.t 71)),
mv0 73 72,
i2 74 (.mv (.t 4)) 73 false 0,
i2 75 (.mv (.t 10)) 73 false 0,
i2 76 (.iad 1 (.t 74) (.t 75)) 73 false 0,
i2 77 (.ld 1 false (.t 76)) 73 false 0,
i2 78 (.mv (.t 7)) 73 false 0,
i2 79 (.mv (.t 10)) 73 false 0,
i2 80 (.iad 1 (.t 78) (.t 79)) 73 false 0,
i2 81 (.ld 1 false (.t 80)) 73 false 0,
i2 82 (.call .iso (.c (.fn 8 [] [])) [(.t 77), (.c (.int .i64 0)), (.t 81), (.c (.int .i64 0))]) 73 false 0,
i2 83 (.un .not (.t 82)) 73 false 1,
i1 84 (.pick (.t 73) (.c (.bool true)) (.t 83)) 1])
(.cond (.t 84)
(.seq (.reg 0 [i0 2 (.mv (.c (.bool false)))])
.ret)
.skip))
(.seq (.seq (.reg 0 [mv0 85 5,
mv0 86 10,
ia0 87 1 85 86,
ld1 88 87,
i0 89 (.un .not (.t 88))])
(.cond (.t 89)
(.exit 1)
.skip))
(.seq (.reg 2 [mv0 90 9,
mv0 91 10,
i0 92 (.bsl 1 1 [.int .i64 0] [(0, 1, (.t 91))]),
i1 93 (.app 1 8 (.t 90) (.t 92)) 1,
i1 9 (.mv (.t 93)) 2])
(.seq (.reg 0 [i0 11 (.mv (.c (.int .i64 0)))])
(.block 2 (.loop false Yfp)))))))
(.reg 0 [mv0 62 10,
i0 63 (.bin .add (.t 62) (.c (.int .i64 1))),
mv0 10 63])))
def c78 : AFun :=
{ keep := true, np := 1, nt := 139, res := [.tmp 2], body :=
(.seq (.reg 1 [i0 1 (.box (.t 0)),
i1 2 (.mv (.c (.bool false))) 1])
(.seq (.reg 2 [i0 15 (.ld 5 true (.t 1)),
⟨some 16, .call .iso (.c (.fn 2 [] [])) [(.t 15)], none, 0, true, []⟩,
i1 3 (.alloc [.int .i64 0, .int .i64 0, .nils]) 1,
⟨none, .st 3 (.t 3) (.t 16), none, 2, false, []⟩])
(.seq (.reg 1 [i0 18 (.ld 3 true (.t 3)),
⟨some 19, .call .iso (.c (.fn 3 [] [])) [(.t 18)], none, 0, true, []⟩,
i1 17 (.mv (.t 19)) 1,
i1 20 (.ext (.t 17) 0) 1,
i1 21 (.ext (.t 17) 1) 1,
i1 22 (.ext (.t 17) 2) 1,
i1 4 (.mv (.t 20)) 1,
i1 5 (.mv (.t 21)) 1,
i1 6 (.mv (.t 22)) 1])
(.seq (.reg 1 [i0 24 (.ld 3 true (.t 3)),
⟨some 25, .call .iso (.c (.fn 4 [] [])) [(.t 24)], none, 0, true, []⟩,
i1 23 (.mv (.t 25)) 1,
i1 26 (.ext (.t 23) 0) 1,
i1 27 (.ext (.t 23) 1) 1,
i1 7 (.mv (.t 26)) 1,
i1 8 (.mv (.t 27)) 1])
(.seq (.seq (.reg 0 [mv0 28 6,
i0 29 (.bin .neq (.t 28) (.c (.int .i64 0))),
mv0 30 29,
i2 31 (.mv (.t 4)) 30 false 0,
i2 32 (.len 0 (.t 31)) 30 false 0,
i2 33 (.mv (.t 7)) 30 false 0,
i2 34 (.len 0 (.t 33)) 30 false 0,
i2 35 (.bin .neq (.t 32) (.t 34)) 30 false 0,
i0 36 (.pick (.t 30) (.c (.bool true)) (.t 35)),
mv0 37 36,
i2 38 (.mv (.t 5)) 37 false 0,
i2 39 (.len 0 (.t 38)) 37 false 0,
i2 40 (.mv (.t 8)) 37 false 0,
i2 41 (.len 0 (.t 40)) 37 false 0,
i2 42 (.bin .neq (.t 39) (.t 41)) 37 false 0,
i0 43 (.pick (.t 37) (.c (.bool true)) (.t 42)),
mv0 44 43,
i2 45 (.mv (.t 4)) 44 false 0,
i2 46 (.cap (.t 45)) 44 false 0,
i2 47 (.mv (.t 4)) 44 false 0,
i2 48 (.len 0 (.t 47)) 44 false 0,
i2 49 (.bin .neq (.t 46) (.t 48)) 44 false 0,
i0 50 (.pick (.t 44) (.c (.bool true)) (.t 49)),
mv0 51 50,
i2 52 (.mv (.t 5)) 51 false 0,
i2 53 (.cap (.t 52)) 51 false 0,
i2 54 (.mv (.t 5)) 51 false 0,
i2 55 (.len 0 (.t 54)) 51 false 0,
i2 56 (.bin .neq (.t 53) (.t 55)) 51 false 0,
i0 57 (.pick (.t 51) (.c (.bool true)) (.t 56))])
(.cond (.t 57)
(.seq (.reg 0 [i0 2 (.mv (.c (.bool false)))])
.ret)
.skip))
(.seq (.reg 1 [⟨some 9, .mv (.c (.nils)), none, 0, false, [(0, 1)]⟩])
(.seq (.seq (.reg 0 [i0 10 (.mv (.c (.int .i64 0)))])
(.block 0 (.loop false Ydg)))
(.seq (.reg 1 [i0 128 (.ld 3 true (.t 3)),
⟨some 129, .call .iso (.c (.fn 27 [] [])) [(.t 128)], none, 0, true, []⟩,
i1 127 (.mv (.t 129)) 1,
i1 130 (.ext (.t 127) 0) 1,
i1 131 (.ext (.t 127) 1) 1,
i1 13 (.mv (.t 130)) 1,
i1 14 (.mv (.t 131)) 1])
(.seq (.reg 2 [mv0 132 13,
mv0 133 14,
mv0 134 9,
i0 135 (.call .iso (.c (.fn 8 [] [])) [(.t 132), (.t 133), (.t 134), (.c (.int .i64 0))]),
i1 136 (.mv (.t 135)) 1,
i2 137 (.call .iso (.c (.fn 30 [] [])) []) 136 true 1,
i1 138 (.pick (.t 136) (.t 137) (.c (.bool false))) 2,
i1 2 (.mv (.t 138)) 2])
.ret))))))))) }
def Ycf : AC :=
(.seq (.seq (.reg 0 [mv0 110 19,
fd0 111 0 7,
ld1 112 111,
i0 113 (.bin .lss (.t 110) (.t 112))])
(.cond (.t 113)
.skip
(.exit 2)))
(.seq (.block 3 (.seq (.reg 0 [fd0 116 2 7,
ld1 117 116,
mv0 118 17,
ia0 119 1 117 118,
ld1 120 119,
mv0 121 19,
ia0 122 2 120 121,
fd0 123 0 122,
ld1 124 123,
mv0 20 124])
(.seq (.regd [[], [], [0, 1], [0, 1, 2], [0, 1, 2, 3], [0, 1, 2, 3, 4], [0, 1, 2, 3, 4, 5], [0, 1, 2, 3, 4, 5, 6], [0, 1, 2, 3, 4, 5, 6, 7], [0, 1, 2, 3, 4, 5, 6, 7, 8], [0, 1, 2, 3, 4, 5, 6, 7, 8, 9], [0, 1, 2, 3, 4, 5, 6, 7, 8, 9], [0, 1, 2, 3, 4, 5, 6, 7, 8, 9, 10, 11], [0, 1, 2, 3, 4, 5, 6, 7, 8, 9, 10, 11, 12], [0, 1, 2, 3, 4, 5, 6, 7, 8, 9, 10, 11, 12, 13], [0, 1, 2, 3, 4, 5, 6, 7, 8, 9, 10, 11, 12, 13, 14], [0, 1, 2, 3, 4, 5, 6, 7, 8, 9, 10, 11, 12, 13, 14, 15], [0, 1, 2, 3, 4, 5, 6, 7, 8, 9, 10, 11, 12, 13, 14, 15], [0, 1, 2, 3, 4, 5, 6, 7, 8, 9, 10, 11, 12, 13, 14, 15, 16, 17], [0, 1, 2, 3, 4, 5, 6, 7, 8, 9, 10, 11, 12, 13, 14, 15, 16, 17, 18], [0, 1, 2, 3, 4, 5, 6, 7, 8, 9, 10, 11, 12, 13, 14, 15], [0, 1, 2, 3, 4, 5, 6, 7, 8, 9, 10, 11, 12, 13, 14, 15], [0, 1, 2, 3, 4, 5, 6, 7, 8, 9, 10, 11, 12, 13, 14, 15, 20, 21], [0, 1, 2, 3, 4, 5, 6, 7, 8, 9, 10, 11, 12, 13, 14, 15, 20, 21, 22], [0, 1, 2, 3, 4, 5, 6, 7, 8, 9, 10, 11, 12, 13, 14, 15, 20, 21, 22, 23], [0, 1, 2, 3, 4, 5, 6, 7, 8, 9, 10, 11, 12, 13, 14, 15, 16, 17, 18, 19, 20, 21, 22, 23, 24], [0, 1, 2, 3, 4, 5, 6, 7, 8, 9, 10, 11, 12, 13, 14, 15, 16, 17, 18, 19, 20, 21, 22, 23, 24, 25], [0, 1, 2, 3, 4, 5, 6, 7, 8, 9, 10, 11, 12, 13, 14, 15, 16, 17, 18, 19, 20, 21, 22, 23, 24, 25, 26]] 0 [mv0 125 13,
mv0 126 17,
ia0 127 1 125 126,
ld1 128 127,
i0 129 (.bin .geq (.t 128) (.c (.int .i64 0))),
mv0 130 129,
i2 131 (.mv (.t 20)) 130 true 0,
i2 132 (.bin .geq (.t 131) (.c (.int .i64 0))) 130 true 0,
i0 133 (.pick (.t 130) (.t 132) (.c (.bool false))),
mv0 134 133,
i2 135 (.mv (.t 13)) 134 true 0,
i2 136 (.mv (.t 20)) 134 true 0,
i2 137 (.iad 1 (.t 135) (.t 136)) 134 true 0,
i2 138 (.ld 1 false (.t 137)) 134 true 0,
i2 139 (.bin .lss (.t 138) (.c (.int .i64 0))) 134 true 0,
i2 140 (.mv (.t 139)) 134 true 0,
i2 141 (.mv (.t 13)) 140 false 0,
i2 142 (.mv (.t 20)) 140 false 0,
i2 143 (.iad 1 (.t 141) (.t 142)) 140 false 0,
i2 144 (.ld 1 false (.t 143)) 140 false 0,
i2 145 (.mv (.t 13)) 140 false 0,
i2 146 (.mv (.t 17)) 140 false 0,
i2 147 (.iad 1 (.t 145) (.t 146)) 140 false 0,
i2 148 (.ld 1 false (.t 147)) 140 false 0,
i2 149 (.bin .add (.t 148) (.c (.int .i64 1))) 140 false 0,
i2 150 (.bin .gtr (.t 144) (.t 149)) 140 false 0,
i2 151 (.pick (.t 140) (.c (.bool true)) (.t 150)) 134 true 0,
i0 152 (.pick (.t 134) (.t 151) (.c (.bool false)))])
(.cond (.t 152)
(.seq (.reg 0 [i0 6 (.mv (.c (.bool false)))])
.ret)
.skip))))
(.reg 0 [mv0 114 19,
i0 115 (.bin .add (.t 114) (.c (.int .i64 1))),
mv0 19 115])))
def Yhb : AC :=
(.seq (.seq (.reg 0 [mv0 89 17,
mv0 90 15,
i0 91 (.len 0 (.t 90)),
i0 92 (.bin .lss (.t 89) (.t 91))])
(.cond (.t 92)
.skip
(.exit 0)))
(.seq (.block 1 (.seq (.reg 0 [i0 18 (.mv (.c (.int .i64 (-1))))])
(.seq (.seq (.reg 0 [mv0 95 16,
mv0 96 17,
ia0 97 1 95 96,
ld1 98 97])
(.cond (.t 98)
(.reg 0 [mv0 99 15,
mv0 100 17,
ia0 101 1 99 100,
ld1 102 101,
i0 103 (.len 0 (.t 102)),
mv0 18 103])
.skip))
(.seq (.seq (.reg 0 [mv0 104 13,
mv0 105 17,
ia0 106 1 104 105,
ld1 107 106,
mv0 108 18,
i0 109 (.bin .neq (.t 107) (.t 108))])
(.cond (.t 109)
(.seq (.reg 0 [i0 6 (.mv (.c (.bool false)))])
.ret)
.skip))
(.seq (.reg 0 [i0 19 (.mv (.c (.int .i64 0)))])
(.block 2 (.loop false Ycf)))))))
(.reg 0 [mv0 93 17,
i0 94 (.bin .add (.t 93) (.c (.int .i64 1))),
mv0 17 94])))
def c79 : AFun :=
{ keep := true, np := 3, nt := 154, res := [.tmp 6], body :=
(.seq (.reg 1 [i0 3 (.box (.t 0)),
i1 6 (.mv (.c (.bool false))) 1])
(.seq (.reg 2 [i0 21 (.ld 5 true (.t 3)),
⟨some 22, .call .iso (.c (.fn 2 [] [])) [(.t 21)], none, 0, true, []⟩,
i1 7 (.alloc [.int .i64 0, .int .i64 0, .nils]) 1,
⟨none, .st 3 (.t 7) (.t 22), none, 2, false, []⟩])
(.seq (.regd [[], [0], [], [2], [2, 3], [0, 1, 2, 3, 4], [], [6], [], [8], [8, 9], [6, 7, 8, 9, 10], [0, 1, 2, 3, 4, 5], [0, 1, 2, 3, 4, 5, 6, 7, 8, 9, 10, 11, 12]] 0 [mv0 23 1,
i0 24 (.conv .i64 (.t 23)),
fd0 25 2 7,
ld1 26 25,
i0 27 (.len 0 (.t 26)),
i0 28 (.bin .rem (.t 24) (.t 27)),
mv0 29 2,
i0 30 (.conv .i64 (.t 29)),
fd0 31 2 7,
ld1 32 31,
i0 33 (.len 0 (.t 32)),
i0 34 (.bin .rem (.t 30) (.t 33)),
mv0 8 28,
mv0 9 34])
(.seq (.reg 1 [i0 36 (.ld 3 true (.t 7)),
mv0 37 8,
mv0 38 9,
⟨some 39, .call .iso (.c (.fn 5 [] [])) [(.t 36), (.t 37), (.t 38)], none, 0, true, []⟩,
i1 35 (.mv (.t 39)) 1,
i1 40 (.ext (.t 35) 0) 1,
i1 41 (.ext (.t 35) 1) 1,
i1 42 (.ext (.t 35) 2) 1,
i1 10 (.mv (.t 40)) 1,
i1 11 (.mv (.t 41)) 1,
i1 12 (.mv (.t 42)) 1])
(.seq (.reg 1 [i0 44 (.ld 3 true (.t 7)),
mv0 45 8,
⟨some 46, .call .iso (.c (.fn 6 [] [])) [(.t 44), (.t 45)], none, 0, true, []⟩,
i1 43 (.mv (.t 46)) 1,
i1 47 (.ext (.t 43) 0) 1,
i1 48 (.ext (.t 43) 1) 1,
i1 13 (.mv (.t 47)) 1,
i1 14 (.mv (.t 48)) 1])
(.seq (.reg 1 [i0 50 (.ld 3 true (.t 7)),
mv0 51 8,
⟨some 52, .call .iso (.c (.fn 7 [] [])) [(.t 50), (.t 51)], none, 0, true, []⟩,
i1 49 (.mv (.t 52)) 1,
i1 53 (.ext (.t 49) 0) 1,
i1 54 (.ext (.t 49) 1) 1,
i1 15 (.mv (.t 53)) 1,
i1 16 (.mv (.t 54)) 1])
(.seq (.seq (.reg 1 [mv0 55 10,
mv0 56 12,
mv0 57 15,
mv0 58 9,
ia0 59 1 57 58,
ld1 60 59,
i0 61 (.call .iso (.c (.fn 8 [] [])) [(.t 55), (.t 56), (.t 60), (.c (.int .i64 0))]),
i1 62 (.un .not (.t 61)) 1,
i1 63 (.mv (.t 62)) 1,
i2 64 (.mv (.t 11)) 63 false 1,
i2 65 (.mv (.t 16)) 63 false 1,
i2 66 (.mv (.t 9)) 63 false 1,
i2 67 (.iad 1 (.t 65) (.t 66)) 63 false 1,
i2 68 (.ld 1 false (.t 67)) 63 false 1,
i2 69 (.eqb true false [.b] (.t 64) (.t 68)) 63 false 1,
i1 70 (.pick (.t 63) (.c (.bool true)) (.t 69)) 1,
i1 71 (.mv (.t 70)) 1,
i2 72 (.mv (.t 14)) 71 false 1,
i2 73 (.bin .neq (.t 72) (.c (.int .i64 0))) 71 false 1,
i1 74 (.pick (.t 71) (.c (.bool true)) (.t 73)) 1,
i1 75 (.mv (.t 74)) 1,
i2 76 (.mv (.t 13)) 75 false 1,
i2 77 (.len 0 (.t 76)) 75 false 1,
i2 78 (.mv (.t 15)) 75 false 1,
i2 79 (.len 0 (.t 78)) 75 false 1,
i2 80 (.bin .neq (.t 77) (.t 79)) 75 false 1,
i1 81 (.pick (.t 75) (.c (.bool true)) (.t 80)) 1,
i1 82 (.mv (.t 81)) 1,
i2 83 (.mv (.t 13)) 82 false 1,
i2 84 (.cap (.t 83)) 82 false 1,
i2 85 (.mv (.t 13)) 82 false 1,
i2 86 (.len 0 (.t 85)) 82 false 1,
i2 87 (.bin .neq (.t 84) (.t 86)) 82 false 1,
i1 88 (.pick (.t 82) (.c (.bool true)) (.t 87)) 1])
(.cond (.t 88)
(.seq (.reg 0 [i0 6 (.mv (.c (.bool false)))])
.ret)
.skip))
(.seq (.seq (.reg 0 [i0 17 (.mv (.c (.int .i64 0)))])
(.block 0 (.loop false Yhb)))
(.seq (.reg 1 [i0 153 (.call .iso (.c (.fn 30 [] [])) []),
i1 6 (.mv (.t 153)) 1])
.ret))))))))) }
def Yhc : AC :=
(.seq (.seq (.reg 0 [mv0 7 4,
mv0 8 3,
i0 9 (.len 0 (.t 8)),
i0 10 (.bin .lss (.t 7) (.t 9))])
(.cond (.t 10)
.skip
(.exit 0)))
(.seq (.block 1 (.seq (.reg 0 [mv0 13 3,
mv0 14 4,
ia0 15 1 13 14,
ld1 16 15,
i0 17 (.un .not (.t 16))])
(.cond (.t 17)
(.seq (.reg 0 [i0 2 (.mv (.c (.bool false)))])
.ret)
.skip)))
(.reg 0 [mv0 11 4,
i0 12 (.bin .add (.t 11) (.c (.int .i64 1))),
mv0 4 12])))
def c80 : AFun :=
{ keep := true, np := 1, nt := 18, res := [.tmp 2], body :=
(.seq (.reg 1 [i0 1 (.box (.t 0)),
i1 2 (.mv (.c (.bool false))) 1])
(.seq (.reg 1 [i0 5 (.ld 3 true (.t 1)),
⟨some 6, .call .iso (.c (.fn 33 [] [])) [(.t 5), (.c (.int .i64 0))], none, 0, true, []⟩,
i1 3 (.mv (.t 6)) 1])
(.seq (.seq (.reg 0 [i0 4 (.mv (.c (.int .i64 0)))])
(.block 0 (.loop false Yhc)))
(.seq (.reg 0 [i0 2 (.mv (.c (.bool true)))])
.ret)))) }
def Ygm : AC :=
(.seq (.seq (.reg 0 [mv0 31 13,
mv0 32 11,
i0 33 (.len 0 (.t 32)),
i0 34 (.bin .lss (.t 31) (.t 33))])
(.cond (.t 34)
.skip
(.exit 0)))
(.seq (.block 1 (.seq (.reg 0 [mv0 37 11,
mv0 38 13,
ia0 39 1 37 38,
ld1 40 39])
(.cond (.t 40)
(.reg 2 [mv0 41 12,
mv0 42 13,
i0 43 (.bsl 1 1 [.int .i64 0] [(0, 1, (.t 42))]),
i1 44 (.app 1 8 (.t 41) (.t 43)) 1,
i1 12 (.mv (.t 44)) 2])
.skip)))
(.reg 0 [mv0 35 13,
i0 36 (.bin .add (.t 35) (.c (.int .i64 1))),
mv0 13 36])))
def c81 : AFun :=
{ keep := true, np := 2, nt := 73, res := [.tmp 4], body :=
(.seq (.reg 2 [i0 2 (.box (.t 0)),
i1 3 (.box (.t 1)) 1,
i1 4 (.mv (.c (.bool false))) 2])
(.seq (.reg 2 [i0 14 (.ld 5 true (.t 2)),
⟨some 15, .call .iso (.c (.fn 2 [] [])) [(.t 14)], none, 0, true, []⟩,
i1 5 (.alloc [.int .i64 0, .int .i64 0, .nils]) 1,
⟨none, .st 3 (.t 5) (.t 15), none, 2, false, []⟩])
(.seq (.reg 1 [i0 16 (.ld 1 true (.t 3)),
fd0 17 0 5,
ld1 18 17,
⟨some 19, .call .iso (.c (.fn 9 [] [])) [(.t 16), (.t 18)], none, 0, true, []⟩,
i1 6 (.mv (.t 19)) 1])
(.seq (.reg 2 [i0 21 (.ld 3 true (.t 5)),
⟨some 22, .call .iso (.c (.fn 10 [] [])) [(.t 21)], none, 0, true, []⟩,
i1 20 (.mv (.t 22)) 1,
i1 23 (.ext (.t 20) 0) 1,
i1 24 (.ext (.t 20) 1) 1,
i1 25 (.ext (.t 20) 2) 1,
i1 7 (.alloc [.int .i64 0, .int .i64 0, .nils]) 1,
⟨none, .st 3 (.t 7) (.t 23), none, 2, false, []⟩,
i1 8 (.mv (.t 24)) 2,
i1 9 (.mv (.t 25)) 2])
(.seq (.reg 1 [i0 27 (.ld 3 true (.t 5)),
⟨some 28, .call .iso (.c (.fn 4 [] [])) [(.t 27)], none, 0, true, []⟩,
i1 26 (.mv (.t 28)) 1,
i1 29 (.ext (.t 26) 0) 1,
i1 30 (.ext (.t 26) 1) 1,
i1 10 (.mv (.t 29)) 1,
i1 11 (.mv (.t 30)) 1])
(.seq (.reg 1 [⟨some 12, .mv (.c (.nils)), none, 0, false, [(0, 1)]⟩])
(.seq (.seq (.reg 0 [i0 13 (.mv (.c (.int .i64 0)))])
(.block 0 (.loop false Ygm)))
(.seq (.regd [[], [], [], [0, 1, 2], [0, 1, 2, 3], [0, 1, 2, 3, 4], [0, 1, 2, 3, 4], [0, 1, 2, 3, 4], [0, 1, 2, 3, 4], [0, 1, 2, 3, 4, 7, 8], [0, 1, 2, 3, 4, 5, 6, 7, 8, 9], [0, 1, 2, 3, 4, 5, 6, 7, 8, 9, 10], [0, 1, 2, 3, 4, 5, 6, 7, 8, 9, 10, 11], [0, 1, 2, 3, 4, 5, 6, 7, 8, 9, 10, 11, 12], [0, 1, 2, 3, 4, 5, 6, 7, 8, 9, 10, 11, 12, 13], [0, 1, 2, 3, 4, 5, 6, 7, 8, 9, 10, 11, 12, 13, 14], [0, 1, 2, 3, 4, 5, 6, 7, 8, 9, 10, 11, 12, 13, 14, 15], [0, 1, 2, 3, 4, 5, 6, 7, 8, 9, 10, 11, 12, 13, 14, 15, 16], [0, 1, 2, 3, 4, 5, 6, 7, 8, 9, 10, 11, 12, 13, 14, 15, 16], [0, 1, 2, 3, 4, 5, 6, 7, 8, 9, 10, 11, 12, 13, 14, 15, 16, 17, 18], [0, 1, 2, 3, 4, 5, 6, 7, 8, 9, 10, 11, 12, 13, 14, 15, 16], [0, 1, 2, 3, 4, 5, 6, 7, 8, 9, 10, 11, 12, 13, 14, 15, 16], [0, 1, 2, 3, 4, 5, 6, 7, 8, 9, 10, 11, 12, 13, 14, 15, 16, 17, 18, 19, 20, 21], [0, 1, 2, 3, 4, 5, 6, 7, 8, 9, 10, 11, 12, 13, 14, 15, 16, 17, 18, 19, 20, 21, 22], [0, 1, 2, 3, 4, 5, 6, 7, 8, 9, 10, 11, 12, 13, 14, 15, 16, 17, 18, 19, 20, 21, 22, 23], [0, 1, 2, 3, 4, 5, 6, 7, 8, 9, 10, 11, 12, 13, 14, 15, 16, 17, 18, 19, 20, 21, 22, 23, 24], [0, 1, 2, 3, 4, 5, 6, 7, 8, 9, 10, 11, 12, 13, 14, 15, 16, 17, 18, 19, 20, 21, 22, 23, 24, 25], [0, 1, 2, 3, 4, 5, 6, 7, 8, 9, 10, 11, 12, 13, 14, 15, 16, 17, 18, 19, 20, 21, 22, 23, 24, 25, 26], [0, 1, 2, 3, 4, 5, 6, 7, 8, 9, 10, 11, 12, 13, 14, 15, 16, 17, 18, 19, 20, 21, 22, 23, 24, 25, 26, 27]] 8 [mv0 45 8,
mv0 46 9,
mv0 47 12,
i0 48 (.call .iso (.c (.fn 8 [] [])) [(.t 45), (.t 46), (.t 47), (.c (.int .i64 0))]),
i1 49 (.mv (.t 48)) 1,
i2 50 (.ld 3 true (.t 7)) 49 true 1,
i2 51 (.mv (.t 9)) 49 true 1,
i2 52 (.ld 3 true (.t 5)) 49 true 1,
i2 53 (.mv (.t 12)) 49 true 1,
⟨some 54, .call .iso (.c (.fn 35 [] [])) [(.t 52), (.t 53)], (some (49, true)), 1, true, []⟩,
i2 55 (.call .iso (.c (.fn 13 [] [])) [(.t 50), (.t 51), (.t 54)]) 49 true 2,
i1 56 (.pick (.t 49) (.t 55) (.c (.bool false))) 3,
i1 57 (.mv (.t 56)) 3,
i2 58 (.ld 3 true (.t 7)) 57 true 3,
i2 59 (.call .iso (.c (.fn 80 [] [])) [(.t 58)]) 57 true 3,
i1 60 (.pick (.t 57) (.t 59) (.c (.bool false))) 4,
i1 61 (.mv (.t 60)) 4,
i2 62 (.ld 3 true (.t 7)) 61 true 4,
i2 63 (.mv (.t 6)) 61 true 4,
⟨some 64, .call .iso (.c (.fn 14 [] [])) [(.t 62), (.c (.int .i64 0)), (.t 63)], (some (61, true)), 4, true, []⟩,
i2 65 (.ld 3 true (.t 5)) 61 true 5,
i2 66 (.mv (.t 6)) 61 true 5,
⟨some 67, .call .iso (.c (.fn 14 [] [])) [(.t 65), (.c (.int .i64 0)), (.t 66)], (some (61, true)), 5, true, []⟩,
i2 68 (.call .iso (.c (.fn 15 [] [])) [(.t 64), (.t 67)]) 61 true 6,
i1 69 (.pick (.t 61) (.t 68) (.c (.bool false))) 7,
i1 70 (.mv (.t 69)) 7,
i2 71 (.call .iso (.c (.fn 30 [] [])) []) 70 true 7,
i1 72 (.pick (.t 70) (.t 71) (.c (.bool false))) 8,
i1 4 (.mv (.t 72)) 8])
.ret)))))))) }
def Yfr : AC :=
(.seq (.seq (.reg 0 [mv0 93 19,
mv0 94 17,
i0 95 (.bin .lss (.t 93) (.t 94))])
(.cond (.t 95)
.skip
(.exit 0)))
(.seq (.block 1 (.reg 2 [mv0 98 18,
mv0 99 19,
i0 100 (.bsl 1 1 [.int .i64 0] [(0, 1, (.t 99))]),
i1 101 (.app 1 8 (.t 98) (.t 100)) 1,
i1 18 (.mv (.t 101)) 2]))
(.reg 0 [mv0 96 19,
i0 97 (.bin .add (.t 96) (.c (.int .i64 1))),
mv0 19 97])))
def Yen : AC :=
(.seq (.seq (.reg 0 [mv0 102 20,
i0 103 (.bin .add (.t 102) (.c (.int .i64 1))),
mv0 104 2,
i0 105 (.len 0 (.t 104)),
i0 106 (.bin .lss (.t 103) (.t 105)),
mv0 107 106,
i2 108 (.mv (.t 20)) 107 true 0,
i2 109 (.bin .lss (.t 108) (.c (.int .i64 20))) 107 true 0,
i0 110 (.pick (.t 107) (.t 109) (.c (.bool false))),
mv0 111 110,
i2 112 (.mv (.t 17)) 111 true 0,
i2 113 (.bin .gtr (.t 112) (.c (.int .i64 1))) 111 true 0,
i0 114 (.pick (.t 111) (.t 113) (.c (.bool false)))])
(.cond (.t 114)
.skip
(.exit 2)))
(.seq (.block 3 (.seq (.regd [[], [], [0, 1], [0, 1, 2], [0, 1, 2, 3], [], [5], [0, 1, 2, 3, 4, 5, 6], [0, 1, 2, 3, 4, 5, 6, 7], [], [], [10], [9, 10, 11], [9, 10, 11, 12], [9, 10, 11, 12, 13], [], [15], [9, 10, 11, 12, 13, 14, 15, 16], [9, 10, 11, 12, 13, 14, 15, 16, 17], [0, 1, 2, 3, 4, 5, 6, 7, 8], [0, 1, 2, 3, 4, 5, 6, 7, 8, 9, 10, 11, 12, 13, 14, 15, 16, 17, 18, 19]] 0 [mv0 117 2,
mv0 118 20,
ia0 119 1 117 118,
ld1 120 119,
i0 121 (.conv .i64 (.t 120)),
mv0 122 17,
i0 123 (.bin .sub (.t 122) (.c (.int .i64 1))),
i0 124 (.bin .rem (.t 121) (.t 123)),
i0 125 (.bin .add (.c (.int .i64 1)) (.t 124)),
mv0 126 2,
mv0 127 20,
i0 128 (.bin .add (.t 127) (.c (.int .i64 1))),
ia0 129 1 126 128,
ld1 130 129,
i0 131 (.conv .i64 (.t 130)),
mv0 132 17,
i0 133 (.bin .sub (.t 132) (.c (.int .i64 1))),
i0 134 (.bin .rem (.t 131) (.t 133)),
i0 135 (.bin .add (.c (.int .i64 1)) (.t 134)),
mv0 21 125,
mv0 22 135])
(.regd [[], [], [], [], [], [], [4, 5], [4, 5, 6], [], [], [8, 9], [8, 9, 10], [0, 1, 4, 5, 6, 7, 8, 9, 10, 11], [0, 1, 4, 5, 6, 7, 8, 9, 10, 11, 12], [0, 1, 2, 3, 4, 5, 6, 7, 8, 9, 10, 11, 12, 13], [0, 1, 2, 3, 4, 5, 6, 7, 8, 9, 10, 11, 12, 13, 14]] 0 [mv0 136 18,
mv0 137 21,
mv0 138 18,
mv0 139 22,
mv0 140 18,
mv0 141 22,
ia0 142 1 140 141,
ld1 143 142,
mv0 144 18,
mv0 145 21,
ia0 146 1 144 145,
ld1 147 146,
ia0 148 1 136 137,
⟨none, .st 1 (.t 148) (.t 143), none, 0, false, []⟩,
ia0 149 1 138 139,
⟨none, .st 1 (.t 149) (.t 147), none, 0, false, []⟩])))
(.reg 0 [mv0 115 20,
i0 116 (.bin .add (.t 115) (.c (.int .i64 2))),
mv0 20 116])))
def c82 : AFun :=
{ keep := true, np := 3, nt := 165, res := [.tmp 6], body :=
(.seq (.reg 2 [i0 3 (.box (.t 0)),
i1 4 (.box (.t 1)) 1,
i1 6 (.mv (.c (.bool false))) 2])
(.seq (.reg 2 [i0 24 (.ld 5 true (.t 3)),
⟨some 25, .call .iso (.c (.fn 2 [] [])) [(.t 24)], none, 0, true, []⟩,
i1 7 (.alloc [.int .i64 0, .int .i64 0, .nils]) 1,
⟨none, .st 3 (.t 7) (.t 25), none, 2, false, []⟩])
(.seq (.reg 1 [i0 26 (.ld 1 true (.t 4)),
fd0 27 0 7,
ld1 28 27,
⟨some 29, .call .iso (.c (.fn 9 [] [])) [(.t 26), (.t 28)], none, 0, true, []⟩,
i1 8 (.mv (.t 29)) 1])
(.seq (.reg 2 [i0 31 (.ld 3 true (.t 7)),
⟨some 32, .call .iso (.c (.fn 11 [] [])) [(.t 31)], none, 0, true, []⟩,
i1 30 (.mv (.t 32)) 1,
i1 33 (.ext (.t 30) 0) 1,
i1 34 (.ext (.t 30) 1) 1,
i1 9 (.alloc [.int .i64 0, .int .i64 0, .nils]) 1,
⟨none, .st 3 (.t 9) (.t 33), none, 2, false, []⟩,
i1 10 (.mv (.t 34)) 2])
(.seq (.seq (.regd [[], [], [], [2], [0, 1, 2, 3], [0, 1, 2, 3, 4], [0, 1, 2, 3, 4, 5], [0, 1, 2, 3, 4, 5, 6], [0, 1, 2, 3, 4, 5, 6], [0, 1, 2, 3, 4, 5, 6, 7, 8], [0, 1, 2, 3, 4, 5, 6], [0, 1, 2, 3, 4, 5, 6], [0, 1, 2, 3, 4, 5, 6, 7, 8, 9, 10, 11], [0, 1, 2, 3, 4, 5, 6, 7, 8, 9, 10, 11, 12], [0, 1, 2, 3, 4, 5, 6, 7, 8, 9, 10, 11, 12, 13], [0, 1, 2, 3, 4, 5, 6, 7, 8, 9, 10, 11, 12, 13, 14]] 5 [i0 35 (.ld 3 true (.t 9)),
mv0 36 10,
i0 37 (.ld 3 true (.t 7)),
⟨some 38, .call .iso (.c (.fn 12 [] [])) [(.t 37)], none, 0, true, []⟩,
i1 39 (.call .iso (.c (.fn 13 [] [])) [(.t 35), (.t 36), (.t 38)]) 1,
i1 40 (.un .not (.t 39)) 2,
i1 41 (.mv (.t 40)) 2,
i2 42 (.ld 3 true (.t 9)) 41 false 2,
i2 43 (.mv (.t 8)) 41 false 2,
⟨some 44, .call .iso (.c (.fn 14 [] [])) [(.t 42), (.c (.int .i64 0)), (.t 43)], (some (41, false)), 2, true, []⟩,
i2 45 (.ld 3 true (.t 7)) 41 false 3,
i2 46 (.mv (.t 8)) 41 false 3,
⟨some 47, .call .iso (.c (.fn 14 [] [])) [(.t 45), (.c (.int .i64 0)), (.t 46)], (some (41, false)), 3, true, []⟩,
i2 48 (.call .iso (.c (.fn 15 [] [])) [(.t 44), (.t 47)]) 41 false 4,
i2 49 (.un .not (.t 48)) 41 false 5,
i1 50 (.pick (.t 41) (.c (.bool true)) (.t 49)) 5])
(.cond (.t 50)
(.seq (.reg 0 [i0 6 (.mv (.c (.bool false)))])
.ret)
.skip))
(.seq (.reg 2 [i0 52 (.ld 3 true (.t 9)),
⟨some 53, .call .iso (.c (.fn 11 [] [])) [(.t 52)], none, 0, true, []⟩,
i1 51 (.mv (.t 53)) 1,
i1 54 (.ext (.t 51) 0) 1,
i1 55 (.ext (.t 51) 1) 1,
i1 11 (.alloc [.int .i64 0, .int .i64 0, .nils]) 1,
⟨none, .st 3 (.t 11) (.t 54), none, 2, false, []⟩,
i1 12 (.mv (.t 55)) 2])
(.seq (.reg 1 [i0 57 (.ld 3 true (.t 7)),
i0 58 (.call .iso (.c (.fn 16 [] [])) [(.t 57)]),
i1 56 (.mv (.t 58)) 1,
i1 59 (.ext (.t 56) 0) 1,
i1 60 (.ext (.t 56) 1) 1,
i1 13 (.mv (.t 59)) 1,
i1 14 (.mv (.t 60)) 1])
(.seq (.reg 1 [i0 62 (.ld 3 true (.t 9)),
i0 63 (.call .iso (.c (.fn 16 [] [])) [(.t 62)]),
i1 61 (.mv (.t 63)) 1,
i1 64 (.ext (.t 61) 0) 1,
i1 65 (.ext (.t 61) 1) 1,
i1 15 (.mv (.t 64)) 1,
i1 16 (.mv (.t 65)) 1])
(.seq (.seq (.reg 2 [i0 66 (.ld 3 true (.t 11)),
mv0 67 12,
i0 68 (.ld 3 true (.t 9)),
i0 69 (.call .iso (.c (.fn 13 [] [])) [(.t 66), (.t 67), (.t 68)]),
i1 70 (.un .not (.t 69)) 1,
i1 71 (.mv (.t 70)) 1,
i2 72 (.mv (.t 14)) 71 false 1,
i2 73 (.bin .neq (.t 72) (.c (.int .i64 0))) 71 false 1,
i1 74 (.pick (.t 71) (.c (.bool true)) (.t 73)) 1,
i1 75 (.mv (.t 74)) 1,
i2 76 (.mv (.t 13)) 75 false 1,
i2 77 (.ld 3 true (.t 7)) 75 false 1,
i2 78 (.ld 3 true (.t 9)) 75 false 1,
i2 79 (.call .iso (.c (.fn 17 [] [])) [(.t 77), (.t 78)]) 75 false 1,
i2 80 (.eqb true false [.b] (.t 76) (.t 79)) 75 false 2,
i1 81 (.pick (.t 75) (.c (.bool true)) (.t 80)) 2,
i1 82 (.mv (.t 81)) 2,
i2 83 (.mv (.t 16)) 82 false 2,
i2 84 (.bin .neq (.t 83) (.c (.int .i64 0))) 82 false 2,
i1 85 (.pick (.t 82) (.c (.bool true)) (.t 84)) 2,
i1 86 (.mv (.t 85)) 2,
i2 87 (.mv (.t 15)) 86 false 2,
i2 88 (.un .not (.t 87)) 86 false 2,
i1 89 (.pick (.t 86) (.c (.bool true)) (.t 88)) 2])
(.cond (.t 89)
(.seq (.reg 0 [i0 6 (.mv (.c (.bool false)))])
.ret)
.skip))
(.seq (.reg 0 [fd0 90 2 7,
ld1 91 90,
i0 92 (.len 0 (.t 91)),
mv0 17 92])
(.seq (.reg 1 [⟨some 18, .mv (.c (.nils)), none, 0, false, [(0, 1)]⟩])
(.seq (.seq (.reg 0 [i0 19 (.mv (.c (.int .i64 0)))])
(.block 0 (.loop false Yfr)))
(.seq (.seq (.reg 0 [i0 20 (.mv (.c (.int .i64 0)))])
(.block 2 (.loop false Yen)))
(.seq (.reg 2 [i0 150 (.ld 3 true (.t 7)),
mv0 151 18,
⟨some 152, .call .iso (.c (.fn 35 [] [])) [(.t 150), (.t 151)], none, 0, true, []⟩,
i1 23 (.alloc [.int .i64 0, .int .i64 0, .nils]) 1,
⟨none, .st 3 (.t 23) (.t 152), none, 2, false, []⟩])
(.seq (.reg 1 [i0 154 (.ld 3 true (.t 23)),
⟨some 155, .call .iso (.c (.fn 11 [] [])) [(.t 154)], none, 0, true, []⟩,
i1 153 (.mv (.t 155)) 1,
i1 156 (.ext (.t 153) 0) 1,
i1 157 (.ext (.t 153) 1) 1,
⟨none, .st 3 (.t 11) (.t 156), none, 1, false, []⟩,
i1 12 (.mv (.t 157)) 1])
(.seq (.reg 2 [i0 158 (.ld 3 true (.t 11)),
mv0 159 12,
i0 160 (.ld 3 true (.t 9)),
i0 161 (.call .iso (.c (.fn 13 [] [])) [(.t 158), (.t 159), (.t 160)]),
i1 162 (.mv (.t 161)) 1,
i2 163 (.call .iso (.c (.fn 30 [] [])) []) 162 true 1,
i1 164 (.pick (.t 162) (.t 163) (.c (.bool false))) 2,
i1 6 (.mv (.t 164)) 2])
.ret)))))))))))))))) }
def Yed : AC :=
(.seq (.seq (.reg 0 [mv0 35 10,
fd0 36 2 7,
ld1 37 36,
i0 38 (.len 0 (.t 37)),
i0 39 (.bin .lss (.t 35) (.t 38))])
(.cond (.t 39)
.skip
(.exit 0)))
(.seq (.block 1 (.reg 2 [mv0 42 9,
mv0 43 10,
i0 44 (.bsl 1 1 [.int .i64 0] [(0, 1, (.t 43))]),
i1 45 (.app 1 8 (.t 42) (.t 44)) 1,
i1 9 (.mv (.t 45)) 2]))
(.reg 0 [mv0 40 10,
i0 41 (.bin .add (.t 40) (.c (.int .i64 1))),
mv0 10 41])))
def Ygr : AC :=
(.seq (.seq (.reg 0 [mv0 123 19,
mv0 124 13,
i0 125 (.len 0 (.t 124)),
i0 126 (.bin .lss (.t 123) (.t 125))])
(.cond (.t 126)
.skip
(.exit 2)))
(.seq (.block 3 (.seq (.reg 0 [i0 20 (.mv (.c (.int .i64 (-1))))])
(.seq (.seq (.reg 0 [mv0 129 18,
mv0 130 19,
ia0 131 1 129 130,
ld1 132 131])
(.cond (.t 132)
(.regd [[], [], [], [1, 2], [1, 2, 3], [0, 1, 2, 3, 4], [0, 1, 2, 3, 4, 5]] 1 [i0 133 (.ld 3 true (.t 8)),
mv0 134 17,
mv0 135 19,
ia0 136 1 134 135,
ld1 137 136,
i0 138 (.call .iso (.c (.fn 21 [] [])) [(.t 133), (.c (.int .i64 0)), (.t 137)]),
i1 20 (.mv (.t 138)) 1])
.skip))
(.seq (.reg 0 [mv0 139 13,
mv0 140 19,
ia0 141 1 139 140,
ld1 142 141,
mv0 143 20,
i0 144 (.bin .neq (.t 142) (.t 143))])
(.cond (.t 144)
(.seq (.reg 0 [i0 6 (.mv (.c (.bool false)))])
.ret)
.skip)))))
(.reg 0 [mv0 127 19,
i0 128 (.bin .add (.t 127) (.c (.int .i64 1))),
mv0 19 128])))
def c83 : AFun :=
{ keep := true, np := 3, nt := 146, res := [.tmp 6], body :=
(.seq (.reg 3 [i0 3 (.box (.t 0)),
i1 4 (.box (.t 1)) 1,
i1 5 (.box (.t 2)) 2,
i1 6 (.mv (.c (.bool false))) 3])
(.seq (.regd [[], [0], [], [0, 1, 2], [], [], [0, 1, 2, 3, 4, 5], [0, 1, 2, 3, 4, 5, 6]] 4 [i0 21 (.ld 5 true (.t 3)),
⟨some 22, .call .iso (.c (.fn 2 [] [])) [(.t 21)], none, 0, true, []⟩,
i1 23 (.ld 5 true (.t 4)) 1,
⟨some 24, .call .iso (.c (.fn 2 [] [])) [(.t 23)], none, 1, true, []⟩,
i1 7 (.alloc [.int .i64 0, .int .i64 0, .nils]) 2,
i1 8 (.alloc [.int .i64 0, .int .i64 0, .nils]) 3,
⟨none, .st 3 (.t 7) (.t 22), none, 4, false, []⟩,
⟨none, .st 3 (.t 8) (.t 24), none, 4, false, []⟩])
(.seq (.seq (.reg 0 [i0 25 (.iap 1 2 (.t 5) (.c (.int .i64 0))),
ld1 26 25,
i0 27 (.bin .rem (.t 26) (.c (.int .u8 2))),
i0 28 (.bin .eql (.t 27) (.c (.int .u8 0))),
mv0 29 28,
i2 30 (.fad 2 (.t 7)) 29 true 0,
i2 31 (.ld 1 false (.t 30)) 29 true 0,
i2 32 (.len 0 (.t 31)) 29 true 0,
i2 33 (.bin .gtr (.t 32) (.c (.int .i64 1))) 29 true 0,
i0 34 (.pick (.t 29) (.t 33) (.c (.bool false)))])
(.cond (.t 34)
(.seq (.reg 1 [⟨some 9, .mv (.c (.nils)), none, 0, false, [(0, 1)]⟩])
(.seq (.seq (.reg 0 [i0 10 (.mv (.c (.int .i64 0)))])
(.block 0 (.loop false Yed)))
(.seq (.regd [[], [0], [0, 1], [], [3], [3, 4], [0, 1, 2, 3, 4, 5], [0, 1, 2, 3, 4, 5, 6], [], [8], [8, 9], [], [11], [11, 12], [8, 9, 10, 11, 12, 13], [8, 9, 10, 11, 12, 13, 14], [0, 1, 2, 3, 4, 5, 6, 7], [0, 1, 2, 3, 4, 5, 6, 7, 8, 9, 10, 11, 12, 13, 14, 15, 16]] 0 [i0 46 (.iap 1 2 (.t 5) (.c (.int .i64 0))),
ld1 47 46,
i0 48 (.conv .i64 (.t 47)),
mv0 49 9,
i0 50 (.len 0 (.t 49)),
i0 51 (.bin .sub (.t 50) (.c (.int .i64 1))),
i0 52 (.bin .rem (.t 48) (.t 51)),
i0 53 (.bin .add (.c (.int .i64 1)) (.t 52)),
i0 54 (.iap 1 2 (.t 5) (.c (.int .i64 1))),
ld1 55 54,
i0 56 (.conv .i64 (.t 55)),
mv0 57 9,
i0 58 (.len 0 (.t 57)),
i0 59 (.bin .sub (.t 58) (.c (.int .i64 1))),
i0 60 (.bin .rem (.t 56) (.t 59)),
i0 61 (.bin .add (.c (.int .i64 1)) (.t 60)),
mv0 11 53,
mv0 12 61])
(.seq (.regd [[], [], [], [], [], [], [4, 5], [4, 5, 6], [], [], [8, 9], [8, 9, 10], [0, 1, 4, 5, 6, 7, 8, 9, 10, 11], [0, 1, 4, 5, 6, 7, 8, 9, 10, 11, 12], [0, 1, 2, 3, 4, 5, 6, 7, 8, 9, 10, 11, 12, 13], [0, 1, 2, 3, 4, 5, 6, 7, 8, 9, 10, 11, 12, 13, 14]] 0 [mv0 62 9,
mv0 63 11,
mv0 64 9,
mv0 65 12,
mv0 66 9,
mv0 67 12,
ia0 68 1 66 67,
ld1 69 68,
mv0 70 9,
mv0 71 11,
ia0 72 1 70 71,
ld1 73 72,
ia0 74 1 62 63,
⟨none, .st 1 (.t 74) (.t 69), none, 0, false, []⟩,
ia0 75 1 64 65,
⟨none, .st 1 (.t 75) (.t 73), none, 0, false, []⟩])
(.reg 1 [i0 76 (.ld 3 true (.t 7)),
mv0 77 9,
⟨some 78, .call .iso (.c (.fn 35 [] [])) [(.t 76), (.t 77)], none, 0, true, []⟩,
⟨none, .st 3 (.t 8) (.t 78), none, 1, false, []⟩])))))
.skip))
(.seq (.reg 1 [i0 80 (.ld 3 true (.t 7)),
i0 81 (.ld 3 true (.t 8)),
⟨some 82, .call .iso (.c (.fn 29 [] [])) [(.t 80), (.t 81)], none, 0, true, []⟩,
i1 79 (.mv (.t 82)) 1,
i1 83 (.ext (.t 79) 0) 1,
i1 84 (.ext (.t 79) 1) 1,
i1 85 (.ext (.t 79) 2) 1,
i1 13 (.mv (.t 83)) 1,
i1 14 (.mv (.t 84)) 1,
i1 15 (.mv (.t 85)) 1])
(.seq (.regd [[], [0], [], [0, 1, 2], [0, 1, 2, 3], [0, 1, 2, 3, 4]] 3 [i0 86 (.ld 3 true (.t 7)),
⟨some 87, .call .iso (.c (.fn 12 [] [])) [(.t 86)], none, 0, true, []⟩,
i1 88 (.ld 3 true (.t 8)) 1,
⟨some 89, .call .iso (.c (.fn 12 [] [])) [(.t 88)], none, 1, true, []⟩,
i1 90 (.call .iso (.c (.fn 17 [] [])) [(.t 87), (.t 89)]) 2,
i1 16 (.mv (.t 90)) 3])
(.seq (.seq (.reg 0 [mv0 91 15,
i0 92 (.bin .neq (.t 91) (.c (.int .i64 0))),
mv0 93 92,
i2 94 (.mv (.t 14)) 93 false 0,
i2 95 (.mv (.t 16)) 93 false 0,
i2 96 (.eqb true false [.b] (.t 94) (.t 95)) 93 false 0,
i0 97 (.pick (.t 93) (.c (.bool true)) (.t 96))])
(.cond (.t 97)
(.seq (.reg 0 [i0 6 (.mv (.c (.bool false)))])
.ret)
.skip))
(.seq (.seq (.reg 0 [mv0 98 16,
i0 99 (.un .not (.t 98))])
(.cond (.t 99)
(.seq (.reg 1 [mv0 100 13,
i0 101 (.len 0 (.t 100)),
i0 102 (.bin .eql (.t 101) (.c (.int .i64 0))),
mv0 103 102,
i2 104 (.call .iso (.c (.fn 30 [] [])) []) 103 true 0,
i1 105 (.pick (.t 103) (.t 104) (.c (.bool false))) 1,
i1 6 (.mv (.t 105)) 1])
.ret)
.skip))
(.seq (.reg 1 [i0 107 (.ld 3 true (.t 7)),
⟨some 108, .call .iso (.c (.fn 4 [] [])) [(.t 107)], none, 0, true, []⟩,
i1 106 (.mv (.t 108)) 1,
i1 109 (.ext (.t 106) 0) 1,
i1 110 (.ext (.t 106) 1) 1,
i1 17 (.mv (.t 109)) 1,
i1 18 (.mv (.t 110)) 1])
(.seq (.seq (.reg 0 [mv0 111 13,
i0 112 (.len 0 (.t 111)),
mv0 113 17,
i0 114 (.len 0 (.t 113)),
i0 115 (.bin .neq (.t 112) (.t 114)),
mv0 116 115,
i2 117 (.mv (.t 13)) 116 false 0,
i2 118 (.cap (.t 117)) 116 false 0,
i2 119 (.mv (.t 13)) 116 false 0,
i2 120 (.len 0 (.t 119)) 116 false 0,
i2 121 (.bin .neq (.t 118) (.t 120)) 116 false 0,
i0 122 (.pick (.t 116) (.c (.bool true)) (.t 121))])
(.cond (.t 122)
(.seq (.reg 0 [i0 6 (.mv (.c (.bool false)))])
.ret)
.skip))
(.seq (.seq (.reg 0 [i0 19 (.mv (.c (.int .i64 0)))])
(.block 2 (.loop false Ygr)))
(.seq (.reg 1 [i0 145 (.call .iso (.c (.fn 30 [] [])) []),
i1 6 (.mv (.t 145)) 1])
.ret))))))))))) }
def Ydr : AC :=
(.seq (.seq (.reg 0 [mv0 16 2,
i0 17 (.bin .lss (.t 16) (.c (.int .i64 64)))])
(.cond (.t 17)
.skip
(.exit 0)))
(.seq (.block 1 (.regd [[], [0], [], [2], [2, 3], [2, 3, 4], [], [2, 3, 4, 5, 6], [2, 3, 4, 5, 6, 7], [2, 3, 4, 5, 6, 7, 8], [0, 1, 2, 3, 4, 5, 6, 7, 8, 9], [0, 1, 2, 3, 4, 5, 6, 7, 8, 9, 10], [0, 1, 2, 3, 4, 5, 6, 7, 8, 9, 10, 11]] 5 [fd0 20 2 1,
ld1 21 20,
mv0 22 2,
i0 23 (.bin .add (.t 22) (.c (.int .i64 63))),
i0 24 (.bin .rem (.t 23) (.c (.int .i64 64))),
i0 25 (.call .iso (.c (.fn 28 [] [])) [(.t 24), (.c (.int .i64 0))]),
i1 26 (.mv (.t 2)) 1,
i1 27 (.call .iso (.c (.fn 28 [] [])) [(.t 26), (.c (.int .i64 0))]) 1,
i1 28 (.bsl 2 2 [.int .i64 0, .int .i64 0] [(0, 2, (.t 25)), (2, 2, (.t 27))]) 2,
⟨some 29, .bsl 1 1 [.nils] [(0, 1, (.t 28))], none, 3, true, []⟩,
i1 30 (.app 1 24 (.t 21) (.t 29)) 4,
i1 31 (.fad 2 (.t 1)) 5,
⟨none, .st 1 (.t 31) (.t 30), none, 5, false, []⟩]))
(.reg 0 [mv0 18 2,
i0 19 (.bin .add (.t 18) (.c (.int .i64 1))),
mv0 2 19])))
def Yhr : AC :=
(.seq (.seq (.reg 0 [mv0 85 12,
i0 86 (.bin .lss (.t 85) (.c (.int .i64 18)))])
(.cond (.t 86)
.skip
(.exit 4)))
(.seq (.block 5 (.seq (.reg 0 [mv0 89 8,
i0 90 (.bin .mul (.t 89) (.c (.int .i64 31))),
mv0 91 12,
i0 92 (.bin .mul (.c (.int .i64 7)) (.t 91)),
i0 93 (.bin .add (.t 90) (.t 92)),
i0 94 (.bin .add (.t 93) (.c (.int .i64 11))),
i0 95 (.bin .rem (.t 94) (.c (.int .i64 100003))),
mv0 8 95])
(.seq (.reg 2 [mv0 96 10,
mv0 97 8,
i0 98 (.conv .u16 (.t 97)),
i0 99 (.bsl 1 1 [.int .u16 0] [(0, 1, (.t 98))]),
i1 100 (.app 1 2 (.t 96) (.t 99)) 1,
i1 10 (.mv (.t 100)) 2])
(.reg 2 [mv0 101 11,
mv0 102 8,
i0 103 (.bin .quo (.t 102) (.c (.int .i64 7))),
i0 104 (.conv .u8 (.t 103)),
i0 105 (.bsl 1 1 [.int .u8 0] [(0, 1, (.t 104))]),
i1 106 (.app 1 1 (.t 101) (.t 105)) 1,
i1 11 (.mv (.t 106)) 2]))))
(.reg 0 [mv0 87 12,
i0 88 (.bin .add (.t 87) (.c (.int .i64 1))),
mv0 12 88])))
def Ydt : AC :=
(.seq (.seq (.reg 0 [mv0 81 9,
i0 82 (.bin .lss (.t 81) (.c (.int .i64 60)))])
(.cond (.t 82)
.skip
(.exit 2)))
(.seq (.block 3 (.seq (.reg 1 [⟨some 10, .mv (.c (.nils)), none, 0, false, [(0, 1)]⟩])
(.seq (.reg 1 [⟨some 11, .mv (.c (.nils)), none, 0, false, [(0, 1)]⟩])
(.seq (.seq (.reg 0 [i0 12 (.mv (.c (.int .i64 0)))])
(.block 4 (.loop false Yhr)))
(.seq (.reg 1 [mv0 107 9,
i0 108 (.conv .u8 (.t 107)),
mv0 109 9,
i0 110 (.bin .quo (.t 109) (.c (.int .i64 3))),
i0 111 (.conv .u8 (.t 110)),
mv0 112 9,
i0 113 (.bin .quo (.t 112) (.c (.int .i64 2))),
i0 114 (.conv .u8 (.t 113)),
mv0 115 9,
i0 116 (.bin .rem (.t 115) (.c (.int .i64 2))),
i0 117 (.bin .eql (.t 116) (.c (.int .i64 0))),
mv0 118 10,
i0 119 (.build [.int .u8 0, .int .u8 0, .int .u8 0, .bool false, .nils] [(0, 1, (.t 108)), (1, 1, (.t 111)), (2, 1, (.t 114)), (3, 1, (.t 117)), (4, 1, (.t 118))]),
i0 13 (.alloc [.int .u8 0, .int .u8 0, .int .u8 0, .bool false, .nils]),
⟨none, .st 5 (.t 13) (.t 119), none, 1, false, []⟩])
(.seq (.reg 2 [mv0 120 8,
i0 121 (.conv .u8 (.t 120)),
mv0 122 9,
i0 123 (.conv .u8 (.t 122)),
mv0 124 8,
i0 125 (.bin .quo (.t 124) (.c (.int .i64 7))),
i0 126 (.conv .u8 (.t 125)),
i0 127 (.bsl 1 5 [.int .u8 0] [(0, 1, (.t 121)), (1, 1, (.t 123)), (2, 1, (.c (.int .u8 1))), (3, 1, (.c (.int .u8 2))), (4, 1, (.t 126))]),
i1 128 (.build [.nils] [(0, 1, (.t 127))]) 1,
i1 14 (.alloc [.nils]) 1,
⟨none, .st 1 (.t 14) (.t 128), none, 2, false, []⟩])
(.seq (.reg 6 [i0 129 (.ld 5 true (.t 13)),
i0 130 (.call .iso (.c (.fn 78 [] [])) [(.t 129)]),
i1 131 (.un .not (.t 130)) 1,
i1 132 (.mv (.t 131)) 1,
i2 133 (.ld 5 true (.t 13)) 132 false 1,
i2 134 (.mv (.t 9)) 132 false 1,
i2 135 (.conv .u8 (.t 134)) 132 false 1,
i2 136 (.mv (.t 8)) 132 false 1,
i2 137 (.conv .u8 (.t 136)) 132 false 1,
i2 138 (.call .iso (.c (.fn 79 [] [])) [(.t 133), (.t 135), (.t 137)]) 132 false 1,
i2 139 (.un .not (.t 138)) 132 false 2,
i1 140 (.pick (.t 132) (.c (.bool true)) (.t 139)) 2,
i1 141 (.mv (.t 140)) 2,
i2 142 (.ld 5 true (.t 13)) 141 false 2,
i2 143 (.ld 1 true (.t 14)) 141 false 2,
i2 144 (.call .iso (.c (.fn 81 [] [])) [(.t 142), (.t 143)]) 141 false 2,
i2 145 (.un .not (.t 144)) 141 false 3,
i1 146 (.pick (.t 141) (.c (.bool true)) (.t 145)) 3,
i1 147 (.mv (.t 146)) 3,
i2 148 (.ld 5 true (.t 13)) 147 false 3,
i2 149 (.ld 1 true (.t 14)) 147 false 3,
i2 150 (.mv (.t 11)) 147 false 3,
i2 151 (.call .iso (.c (.fn 82 [] [])) [(.t 148), (.t 149), (.t 150)]) 147 false 3,
i2 152 (.un .not (.t 151)) 147 false 4,
i1 153 (.pick (.t 147) (.c (.bool true)) (.t 152)) 4,
i1 154 (.mv (.t 153)) 4,
i2 155 (.ld 5 true (.t 13)) 154 false 4,
i2 156 (.ld 5 true (.t 13)) 154 false 4,
i2 157 (.mv (.t 9)) 154 false 4,
i2 158 (.conv .u8 (.t 157)) 154 false 4,
i2 159 (.mv (.t 8)) 154 false 4,
i2 160 (.conv .u8 (.t 159)) 154 false 4,
i2 161 (.build [.int .u8 0, .int .u8 0] [(0, 1, (.t 158)), (1, 1, (.t 160))]) 154 false 4,
i2 162 (.call .iso (.c (.fn 83 [] [])) [(.t 155), (.t 156), (.t 161)]) 154 false 4,
i2 163 (.un .not (.t 162)) 154 false 5,
i1 164 (.pick (.t 154) (.c (.bool true)) (.t 163)) 5,
i1 165 (.mv (.t 164)) 5,
i2 166 (.mv (.t 9)) 165 false 5,
i2 167 (.conv .u8 (.t 166)) 165 false 5,
i2 168 (.mv (.t 9)) 165 false 5,
i2 169 (.bin .quo (.t 168) (.c (.int .i64 3))) 165 false 5,
i2 170 (.conv .u8 (.t 169)) 165 false 5,
i2 171 (.mv (.t 9)) 165 false 5,
i2 172 (.bin .quo (.t 171) (.c (.int .i64 2))) 165 false 5,
i2 173 (.conv .u8 (.t 172)) 165 false 5,
i2 174 (.mv (.t 11)) 165 false 5,
i2 175 (.mv (.t 10)) 165 false 5,
i2 176 (.build [.int .u8 0, .int .u8 0, .int .u8 0, .nils, .nils] [(0, 1, (.t 167)), (1, 1, (.t 170)), (2, 1, (.t 173)), (3, 1, (.t 174)), (4, 1, (.t 175))]) 165 false 5,
i2 177 (.call .iso (.c (.fn 42 [] [])) [(.t 176)]) 165 false 5,
i2 178 (.un .not (.t 177)) 165 false 6,
i1 179 (.pick (.t 165) (.c (.bool true)) (.t 178)) 6])
(.cond (.t 179)
(.seq (.reg 0 [i0 0 (.mv (.c (.bool false)))])
.ret)
.skip))))))))
(.reg 0 [mv0 83 9,
i0 84 (.bin .add (.t 83) (.c (.int .i64 1))),
mv0 9 84])))
def c84 : AFun :=
{ keep := true, np := 0, nt := 181, res := [.tmp 0], body :=
(.seq (.reg 0 [i0 0 (.mv (.c (.bool false)))])
(.seq (.reg 3 [i0 15 (.build [.int .i64 0, .int .i64 0, .nils] [(0, 1, (.c (.int .i64 2))), (1, 1, (.c (.int .i64 1)))]),
⟨some 1, .alloc [.int .i64 0, .int .i64 0, .nils], none, 0, false, [(2, 1)]⟩,
⟨none, .st 3 (.t 1) (.t 15), none, 2, false, [(2, 1)]⟩])
(.seq (.seq (.reg 0 [i0 2 (.mv (.c (.int .i64 0)))])
(.block 0 (.loop false Ydr)))
(.seq (.reg 1 [i0 33 (.ld 3 true (.t 1)),
⟨some 34, .call .iso (.c (.fn 5 [] [])) [(.t 33), (.c (.int .i64 0)), (.c (.int .i64 1))], none, 0, true, []⟩,
i1 32 (.mv (.t 34)) 1,
i1 35 (.ext (.t 32) 0) 1,
i1 36 (.ext (.t 32) 1) 1,
i1 37 (.ext (.t 32) 2) 1,
i1 3 (.mv (.t 35)) 1,
i1 4 (.mv (.t 36)) 1,
i1 5 (.mv (.t 37)) 1])
(.seq (.reg 1 [i0 39 (.ld 3 true (.t 1)),
⟨some 40, .call .iso (.c (.fn 6 [] [])) [(.t 39), (.c (.int .i64 10))], none, 0, true, []⟩,
i1 38 (.mv (.t 40)) 1,
i1 41 (.ext (.t 38) 0) 1,
i1 42 (.ext (.t 38) 1) 1,
i1 6 (.mv (.t 41)) 1,
i1 7 (.mv (.t 42)) 1])
(.seq (.seq (.reg 0 [mv0 43 5,
i0 44 (.bin .neq (.t 43) (.c (.int .i64 0))),
mv0 45 44,
i2 46 (.mv (.t 4)) 45 false 0,
i2 47 (.un .not (.t 46)) 45 false 0,
i0 48 (.pick (.t 45) (.c (.bool true)) (.t 47)),
mv0 49 48,
i2 50 (.mv (.t 3)) 49 false 0,
i2 51 (.len 0 (.t 50)) 49 false 0,
i2 52 (.bin .neq (.t 51) (.c (.int .i64 63))) 49 false 0,
i0 53 (.pick (.t 49) (.c (.bool true)) (.t 52)),
mv0 54 53,
i2 55 (.mv (.t 7)) 54 false 0,
i2 56 (.bin .neq (.t 55) (.c (.int .i64 0))) 54 false 0,
i0 57 (.pick (.t 54) (.c (.bool true)) (.t 56)),
mv0 58 57,
i2 59 (.mv (.t 6)) 58 false 0,
i2 60 (.len 0 (.t 59)) 58 false 0,
i2 61 (.bin .neq (.t 60) (.c (.int .i64 64))) 58 false 0,
i0 62 (.pick (.t 58) (.c (.bool true)) (.t 61)),
mv0 63 62,
i2 64 (.mv (.t 6)) 63 false 0,
i2 65 (.iad 1 (.t 64) (.c (.int .i64 10))) 63 false 0,
i2 66 (.ld 1 false (.t 65)) 63 false 0,
i2 67 (.bin .neq (.t 66) (.c (.int .i64 0))) 63 false 0,
i0 68 (.pick (.t 63) (.c (.bool true)) (.t 67)),
mv0 69 68,
i2 70 (.mv (.t 6)) 69 false 0,
i2 71 (.iad 1 (.t 70) (.c (.int .i64 11))) 69 false 0,
i2 72 (.ld 1 false (.t 71)) 69 false 0,
i2 73 (.bin .neq (.t 72) (.c (.int .i64 63))) 69 false 0,
i0 74 (.pick (.t 69) (.c (.bool true)) (.t 73)),
mv0 75 74,
i2 76 (.mv (.t 6)) 75 false 0,
i2 77 (.iad 1 (.t 76) (.c (.int .i64 9))) 75 false 0,
i2 78 (.ld 1 false (.t 77)) 75 false 0,
i2 79 (.bin .neq (.t 78) (.c (.int .i64 1))) 75 false 0,
i0 80 (.pick (.t 75) (.c (.bool true)) (.t 79))])
(.cond (.t 80)
(.seq (.reg 0 [i0 0 (.mv (.c (.bool false)))])
.ret)
.skip))
(.seq (.reg 0 [i0 8 (.mv (.c (.int .i64 1)))])
(.seq (.seq (.reg 0 [i0 9 (.mv (.c (.int .i64 0)))])
(.block 2 (.loop false Ydt)))
(.seq (.reg 1 [i0 180 (.call .iso (.c (.fn 30 [] [])) []),
i1 0 (.mv (.t 180)) 1])
.ret))))))))) }
def Yes : AC :=
(.seq (.seq (.reg 0 [mv0 16 5,
mv0 17 0,
i0 18 (.len 0 (.t 17)),
i0 19 (.bin .lss (.t 16) (.t 18))])
(.cond (.t 19)
.skip
(.exit 0)))
(.seq (.block 1 (.seq (.regd [[], [], [0, 1], [0, 1, 2], [], [], [4, 5], [4, 5, 6], [0, 1, 2, 3, 4, 5, 6, 7]] 0 [mv0 22 0,
mv0 23 5,
ia0 24 1 22 23,
ld1 25 24,
mv0 26 1,
mv0 27 5,
ia0 28 1 26 27,
ld1 29 28,
i0 30 (.bin .neq (.t 25) (.t 29))])
(.cond (.t 30)
(.seq (.seq (.regd [[], [], [0, 1], [0, 1, 2], [], [], [4, 5], [4, 5, 6], [0, 1, 2, 3, 4, 5, 6, 7]] 0 [mv0 31 0,
mv0 32 5,
ia0 33 1 31 32,
ld1 34 33,
mv0 35 1,
mv0 36 5,
ia0 37 1 35 36,
ld1 38 37,
i0 39 (.bin .lss (.t 34) (.t 38))])
(.cond (.t 39)
(.seq (.reg 0 [i0 4 (.mv (.c (.int .i64 1)))])
.ret)
.skip))
(.seq (.reg 0 [i0 4 (.mv (.c (.int .i64 0)))])
.ret))
.skip)))
(.reg 0 [mv0 20 5,
i0 21 (.bin .add (.t 20) (.c (.int .i64 1))),
mv0 5 21])))
def c85 : AFun :=
{ keep := true, np := 2, nt := 40, res := [.tmp 4], body :=
(.seq (.reg 0 [i0 4 (.mv (.c (.int .i64 0)))])
(.seq (.seq (.reg 0 [mv0 6 0,
i0 7 (.len 0 (.t 6)),
mv0 8 1,
i0 9 (.len 0 (.t 8)),
i0 10 (.bin .neq (.t 7) (.t 9))])
(.cond (.t 10)
(.seq (.seq (.reg 0 [mv0 11 0,
i0 12 (.len 0 (.t 11)),
mv0 13 1,
i0 14 (.len 0 (.t 13)),
i0 15 (.bin .lss (.t 12) (.t 14))])
(.cond (.t 15)
(.seq (.reg 0 [i0 4 (.mv (.c (.int .i64 1)))])
.ret)
.skip))
(.seq (.reg 0 [i0 4 (.mv (.c (.int .i64 0)))])
.ret))
.skip))
(.seq (.seq (.reg 0 [i0 5 (.mv (.c (.int .i64 0)))])
(.block 0 (.loop false Yes)))
(.seq (.reg 0 [i0 4 (.mv (.c (.int .i64 0)))])
.ret)))) }
def Yfg : AC :=
(.seq (.seq (.regd [[], [], [0, 1], [0, 1, 2], [0, 1, 2, 3], [0, 1, 2, 3], [0, 1, 2, 3, 4, 5], [0, 1, 2, 3, 4, 5, 6], [0, 1, 2, 3], [0, 1, 2, 3], [0, 1, 2, 3, 9], [0, 1, 2, 3, 8, 9, 10], [0, 1, 2, 3, 8, 9, 10, 11], [0, 1, 2, 3, 4, 5, 6, 7, 8, 9, 10, 11, 12], [0, 1, 2, 3, 4, 5, 6, 7, 8, 9, 10, 11, 12, 13]] 1 [mv0 16 7,
mv0 17 1,
i0 18 (.bin .gtr (.t 16) (.t 17)),
mv0 19 18,
i2 20 (.mv (.t 0)) 19 true 0,
i2 21 (.mv (.t 7)) 19 true 0,
i2 22 (.iad 1 (.t 20) (.t 21)) 19 true 0,
i2 23 (.ld 1 false (.t 22)) 19 true 0,
i2 24 (.mv (.t 0)) 19 true 0,
i2 25 (.mv (.t 7)) 19 true 0,
i2 26 (.bin .sub (.t 25) (.c (.int .i64 1))) 19 true 0,
i2 27 (.iad 1 (.t 24) (.t 26)) 19 true 0,
i2 28 (.ld 1 false (.t 27)) 19 true 0,
i2 29 (.call .iso (.c (.fn 75 [] [])) [(.t 23), (.t 28)]) 19 true 0,
i1 30 (.pick (.t 19) (.t 29) (.c (.bool false))) 1])
(.cond (.t 30)
.skip
(.exit 2)))
(.seq (.block 3 (.regd [[], [], [], [], [3], [], [], [6], [5, 6, 7], [5, 6, 7, 8], [], [], [10, 11], [10, 11, 12], [0, 1, 5, 6, 7, 8, 9, 10, 11, 12, 13], [0, 1, 5, 6, 7, 8, 9, 10, 11, 12, 13, 14], [0, 1, 2, 3, 4, 5, 6, 7, 8, 9, 10, 11, 12, 13, 14, 15], [0, 1, 2, 3, 4, 5, 6, 7, 8, 9, 10, 11, 12, 13, 14, 15, 16]] 0 [mv0 33 0,
mv0 34 7,
mv0 35 0,
mv0 36 7,
i0 37 (.bin .sub (.t 36) (.c (.int .i64 1))),
mv0 38 0,
mv0 39 7,
i0 40 (.bin .sub (.t 39) (.c (.int .i64 1))),
ia0 41 1 38 40,
ld1 42 41,
mv0 43 0,
mv0 44 7,
ia0 45 1 43 44,
ld1 46 45,
ia0 47 1 33 34,
⟨none, .st 1 (.t 47) (.t 42), none, 0, false, []⟩,
ia0 48 1 35 37,
⟨none, .st 1 (.t 48) (.t 46), none, 0, false, []⟩]))
(.reg 0 [mv0 31 7,
i0 32 (.bin .sub (.t 31) (.c (.int .i64 1))),
mv0 7 32])))
def Ygz : AC :=
(.seq (.seq (.reg 0 [mv0 10 6,
mv0 11 2,
i0 12 (.bin .lss (.t 10) (.t 11))])
(.cond (.t 12)
.skip
(.exit 0)))
(.seq (.block 1 (.seq (.reg 0 [mv0 15 6,
mv0 7 15])
(.block 2 (.loop false Yfg))))
(.reg 0 [mv0 13 6,
i0 14 (.bin .add (.t 13) (.c (.int .i64 1))),
mv0 6 14])))
def c86 : AFun :=
{ keep := true, np := 3, nt := 49, res := [], body :=
(.seq (.reg 0 [mv0 8 1,
i0 9 (.bin .add (.t 8) (.c (.int .i64 1))),
mv0 6 9])
(.block 0 (.loop false Ygz))) }
def tbl : List (Option AFun) := [none, none, some c2, some c3, some c4, some c5, some c6, some c7, some c8, some c9, some c10, some c11, some c12, some c13, some c14, some c15, some c16, some c17, some c18, some c19, some c20, some c21, some c22, some c23, some c24, some c25, some c26, some c27, some c28, some c29, some c30, some c31, some c32, some c33, some c34, some c35, some c36, some c37, some c38, some c39, some c40, some c41, some c42, some c43, some c44, some c45, some c46, some c47, some c48, some c49, some c50, some c51, some c52, some c53, some c54, some c55, some c56, some c57, some c58, some c59, some c60, some c61, some c62, some c63, some c64, some c65, some c66, some c67, some c68, some c69, none, none, none, none, some c74, some c75, none, none, some c78, some c79, some c80, some c81, some c82, some c83, some c84, some c85, some c86, none, none, none, none, none, none, none]
def AP : Zce := fun n => (tbl[n]?).getD none
theorem AP2 : AP 2 = some c2 := rfl
theorem AP3 : AP 3 = some c3 := rfl
theorem AP4 : AP 4 = some c4 := rfl
theorem AP5 : AP 5 = some c5 := rfl
theorem AP6 : AP 6 = some c6 := rfl
theorem AP7 : AP 7 = some c7 := rfl
theorem AP8 : AP 8 = some c8 := rfl
theorem AP9 : AP 9 = some c9 := rfl
theorem AP10 : AP 10 = some c10 := rfl
theorem AP11 : AP 11 = some c11 := rfl
theorem AP12 : AP 12 = some c12 := rfl
theorem AP13 : AP 13 = some c13 := rfl
theorem AP14 : AP 14 = some c14 := rfl
theorem AP15 : AP 15 = some c15 := rfl
theorem AP16 : AP 16 = some c16 := rfl
theorem AP17 : AP 17 = some c17 := rfl
theorem AP18 : AP 18 = some c18 := rfl
theorem AP19 : AP 19 = some c19 := rfl
theorem AP20 : AP 20 = some c20 := rfl
theorem AP21 : AP 21 = some c21 := rfl
theorem AP22 : AP 22 = some c22 := rfl
theorem AP23 : AP 23 = some c23 := rfl
theorem AP24 : AP 24 = some c24 := rfl
theorem AP25 : AP 25 = some c25 := rfl
theorem AP26 : AP 26 = some c26 := rfl
theorem AP27 : AP 27 = some c27 := rfl
theorem AP28 : AP 28 = some c28 := rfl
theorem AP29 : AP 29 = some c29 := rfl
theorem AP30 : AP 30 = some c30 := rfl
theorem AP31 : AP 31 = some c31 := rfl
theorem AP32 : AP 32 = some c32 := rfl
theorem AP33 : AP 33 = some c33 := rfl
theorem AP34 : AP 34 = some c34 := rfl
theorem AP35 : AP 35 = some c35 := rfl
theorem AP36 : AP 36 = some c36 := rfl
theorem AP37 : AP 37 = some c37 := rfl
theorem AP38 : AP 38 = some c38 := rfl
theorem AP39 : AP 39 = some c39 := rfl
theorem AP40 : AP 40 = some c40 := rfl
theorem AP41 : AP 41 = some c41 := rfl
theorem AP42 : AP 42 = some c42 := rfl
theorem AP43 : AP 43 = some c43 := rfl
theorem AP44 : AP 44 = some c44 := rfl
theorem AP45 : AP 45 = some c45 := rfl
theorem AP46 : AP 46 = some c46 := rfl
theorem AP47 : AP 47 = some c47 := rfl
theorem AP48 : AP 48 = some c48 := rfl
theorem AP49 : AP 49 = some c49 := rfl
theorem AP50 : AP 50 = some c50 := rfl
theorem AP51 : AP 51 = some c51 := rfl
theorem AP52 : AP 52 = some c52 := rfl
theorem AP53 : AP 53 = some c53 := rfl
theorem AP54 : AP 54 = some c54 := rfl
theorem AP55 : AP 55 = some c55 := rfl
theorem AP56 : AP 56 = some c56 := rfl
theorem AP57 : AP 57 = some c57 := rfl
theorem AP58 : AP 58 = some c58 := rfl
theorem AP59 : AP 59 = some c59 := rfl
theorem AP60 : AP 60 = some c60 := rfl
theorem AP61 : AP 61 = some c61 := rfl
theorem AP62 : AP 62 = some c62 := rfl
theorem AP63 : AP 63 = some c63 := rfl
theorem AP64 : AP 64 = some c64 := rfl
theorem AP65 : AP 65 = some c65 := rfl
theorem AP66 : AP 66 = some c66 := rfl
theorem AP67 : AP 67 = some c67 := rfl
theorem AP68 : AP 68 = some c68 := rfl
theorem AP69 : AP 69 = some c69 := rfl
theorem AP74 : AP 74 = some c74 := rfl
theorem AP75 : AP 75 = some c75 := rfl
theorem AP78 : AP 78 = some c78 := rfl
theorem AP79 : AP 79 = some c79 := rfl
theorem AP80 : AP 80 = some c80 := rfl
theorem AP81 : AP 81 = some c81 := rfl
theorem AP82 : AP 82 = some c82 := rfl
theorem AP83 : AP 83 = some c83 := rfl
theorem AP84 : AP 84 = some c84 := rfl
theorem AP85 : AP 85 = some c85 := rfl
theorem AP86 : AP 86 = some c86 := rfl
end Go.AM
