import Derived.Test.YtkfbldogmgofoaaGreatDoorRows
import Derived.Test.YtkfbldogmgofoaaGreatDoorK7
set_option linter.unusedSimpArgs false
set_option linter.unusedVariables false
namespace Go.Proofs.YtkfbldogmgofoaaGreatDoor
section
open Mir.Ab
def g3:Mir.Fn:=⟨114,[(.cell 2 1 false)],
(.seq
(.ops [oa 2 (.alloc [(.bool false)])])
(.seq
(.ops [mv 13 0,
ca 14 13 [(t 13),(i 400)],
mv 0 14])
(.seq
(.ops [mv 16 0,
ca 17 14 [(t 16)],
mv 15 17,
xt 18 15 0,
xt 19 15 1,
xt 20 15 2,
oa 3 (.alloc [(.str []),(.str []),(.int .i64 0),.nilsl]),
st 4 3 18,
mv 4 19,
mv 5 20])
(.seq
(.seq
(.ops [mv 21 5,
op 22 (.bin .neq (t 21) (i 0))])
(.cond (t 22)
(.seq
(.ops [ca 23 15 [],
st 1 2 23])
.ret)
.skip))
(.seq
(.ops [la 25 4 3,
ca 26 16 [(t 25)],
mv 24 26,
xt 27 24 0,
xt 28 24 1,
xt 29 24 2,
oa 6 (.alloc [.nilptr]),
oa 7 (.alloc [(.int .i64 0)]),
oa 8 (.alloc [(.int .i64 0)]),
st 1 6 27,
st 1 7 28,
st 1 8 29])
(.seq
(.seq
(.ops [ld 30 1 8,
op 31 (.bin .neq (t 30) (i 0))])
(.cond (t 31)
(.seq
(.seq
(.ops [la 32 4 3,
ca 33 17 [(t 32)]])
(.block 0 (.rangeFn (t 33) [34,35] (.ops [oa 10 (.alloc [(.str []),(.str []),(.int .i64 0),.nilsl]),
st 4 10 35]) (.block 1 (.seq
(.ops [fa 36 2 10,
ld 37 1 36,
ld 38 1 7,
op 39 (.bin .eql (t 37) (t 38)),
mv 40 39,
og 41 40 true (.r (.load 1 false (t 8))),
og 42 40 true (.p (.bin .eql (t 41) (i 11))),
gm 43 40 true 42,
og 44 43 true (.p (.fieldAt 1 (t 10))),
og 45 43 true (.r (.load 1 false (t 44))),
og 46 43 true (.p (.bin .neq (t 45) (s []))),
og 47 40 true (.p (.pick (t 43) (t 46) (.c (.bool false)))),
gm 48 40 true 47,
og 49 48 false (.r (.load 1 false (t 8))),
og 50 48 false (.p (.bin .eql (t 49) (i 9))),
gm 51 48 false 50,
og 52 51 true (.p (.fieldAt 1 (t 10))),
og 53 51 true (.r (.load 1 false (t 52))),
og 54 51 true (.p (.bin .eql (t 53) (s []))),
og 55 48 false (.p (.pick (t 51) (t 54) (.c (.bool false)))),
og 56 40 true (.p (.pick (t 48) (.c (.bool true)) (t 55))),
an 57 40 56])
(.cond (t 57)
(.seq
(.ops [ca 58 15 [],
mv 59 58,
og 60 59 true (.r (.load 1 false (t 6))),
og 61 59 true (.p (.eq .ptr false (t 60) (.c .nilptr))),
an 62 59 61,
st 1 2 62])
.ret)
.skip))))))
(.seq
(.ops [⟨none,none,(.h (.store 1 (t 2) (.c (.bool false)))),0,[]⟩])
.ret))
.skip))
(.seq
(.seq
(.draw [ld 63 1 6,
dp 64 1 (.eq .ptr false (t 63) (.c .nilptr)),
dm 65 2 64,
⟨(some 66),(some (65,false)),(.r (.load 1 false (t 6))),3,[]⟩,
⟨(some 67),(some (65,false)),(.p (.nilchk (t 66))),4,[]⟩,
⟨(some 68),(some (65,false)),(.p (.fieldAt 1 (t 67))),5,[]⟩,
⟨(some 69),(some (65,false)),(.r (.load 1 false (t 68))),6,[]⟩,
⟨(some 70),(some (65,false)),(.p (.lenSl (t 69))),7,[]⟩,
⟨(some 71),(some (65,false)),(.r (.load 1 false (t 6))),8,[]⟩,
⟨(some 72),(some (65,false)),(.p (.nilchk (t 71))),9,[]⟩,
⟨(some 73),(some (65,false)),(.p (.fieldAt 2 (t 72))),10,[]⟩,
⟨(some 74),(some (65,false)),(.r (.load 1 false (t 73))),11,[]⟩,
⟨(some 75),(some (65,false)),(.p (.lenSl (t 74))),12,[]⟩,
⟨(some 76),(some (65,false)),(.p (.bin .neq (t 70) (t 75))),13,[]⟩,
dp 77 14 (.pick (t 65) (.c (.bool true)) (t 76))])
(.cond (t 77)
(.seq
(.ops [⟨none,none,(.h (.store 1 (t 2) (.c (.bool false)))),0,[]⟩])
.ret)
.skip))
(.seq
(.seq
(.ops [ld 78 1 6,
nc 79 78,
fa 80 1 79,
ld 81 1 80,
op 82 (.lenSl (t 81)),
op 83 (.mv (i 0))])
(.block 2 (.loop (.seq
(.ops [op 84 (.bin .lss (t 83) (t 82))])
(.seq
(.cond (t 84)
.skip
(.exit 2))
(.seq
(.block 3 (.seq
(.ops [mv 85 83,
mv 11 85])
(.seq
(.ops [ld 86 1 6,
nc 87 86,
fa 88 1 87,
ld 89 1 88,
mv 90 11,
op 91 (.subSl 1 (t 89) none (some (t 90))),
op 92 (.lenSl (t 91)),
op 93 (.mv (i 0))])
(.block 4 (.loop (.seq
(.ops [op 94 (.bin .lss (t 93) (t 92))])
(.seq
(.cond (t 94)
.skip
(.exit 4))
(.seq
(.block 5 (.seq
(.ops [mv 95 93,
mv 12 95])
(.seq
(.draw [ld 96 1 6,
dp 97 1 (.nilchk (t 96)),
df 98 2 1 97,
dl 99 3 1 98,
dm 100 4 11,
dp 101 5 (.idxSl 1 (t 99) (t 100)),
dl 102 6 1 101,
dl 103 7 1 6,
dp 104 8 (.nilchk (t 103)),
df 105 9 1 104,
dl 106 10 1 105,
dm 107 11 12,
dp 108 12 (.idxSl 1 (t 106) (t 107)),
dl 109 13 1 108,
dp 110 14 (.bin .eql (t 102) (t 109))])
(.cond (t 110)
(.seq
(.ops [⟨none,none,(.h (.store 1 (t 2) (.c (.bool false)))),0,[]⟩])
.ret)
.skip))))
(.ops [op 111 (.bin .add (t 93) (i 1)),
mv 93 111])))))))))
(.ops [op 112 (.bin .add (t 83) (i 1)),
mv 83 112])))))))
(.seq
(.ops [ca 113 15 [],
st 1 2 113])
.ret)))))))))⟩
theorem c3:Mir.compF Tryz.prog Tryz.f3=some g3:=by kernel_rfl
def g4:Mir.Fn:=⟨115,[(.tmp 2)],
(.seq
(.ops [op 2 (.mv (.c (.bool false)))])
(.seq
(.ops [mv 15 0,
ca 16 13 [(t 15),(i 300)],
mv 0 16])
(.seq
(.ops [mv 18 0,
ca 19 14 [(t 18)],
mv 17 19,
xt 20 17 0,
xt 21 17 1,
xt 22 17 2,
oa 3 (.alloc [(.str []),(.str []),(.int .i64 0),.nilsl]),
st 4 3 20,
mv 4 21,
mv 5 22])
(.seq
(.seq
(.ops [mv 23 5,
op 24 (.bin .neq (t 23) (i 0))])
(.cond (t 24)
(.seq
(.ops [ca 25 15 [],
mv 2 25])
.ret)
.skip))
(.seq
(.ops [oa 26 (.mkSl [(.str []),(.str []),(.int .i64 0),.nilsl] 4 0 []),
fa 27 3 3,
ld 28 1 27,
ok 29 (.h (.app 4 64 (t 26) (t 28))),
op 30 (.build [(.str []),(.str []),(.int .i64 0),.nilsl] [(0,(1,(s [112,114,111,103,114,97,109]))),(3,(1,(t 29)))]),
oa 6 (.alloc [(.str []),(.str []),(.int .i64 0),.nilsl]),
st 4 6 30])
(.seq
(.seq
(.ops [fa 31 3 3,
ld 32 1 31,
op 33 (.lenSl (t 32)),
op 34 (.mv (i 0))])
(.block 0 (.loop (.seq
(.ops [op 35 (.bin .lss (t 34) (t 33))])
(.seq
(.cond (t 35)
.skip
(.exit 0))
(.seq
(.block 1 (.seq
(.ops [op 36 (.idxSl 4 (t 32) (t 34)),
la 37 4 36,
oa 8 (.alloc [(.str []),(.str []),(.int .i64 0),.nilsl]),
st 4 8 37])
(.seq
(.ops [fa 38 0 8,
ld 39 1 38,
op 40 (.bin .neq (t 39) (s [102,117,110,99]))])
(.cond (t 40)
(.ops [fa 41 3 6,
ld 42 1 41,
la 43 4 8,
oa 44 (.mkSl [(.str []),(.str []),(.int .i64 0),.nilsl] 4 1 [(0,(4,(t 43)))]),
ok 45 (.h (.app 4 64 (t 42) (t 44))),
fa 46 3 6,
st 1 46 45])
.skip))))
(.ops [op 47 (.bin .add (t 34) (i 1)),
mv 34 47])))))))
(.seq
(.ops [la 49 4 3,
ca 50 16 [(t 49)],
mv 48 50,
xt 51 48 0,
xt 52 48 1,
xt 53 48 2,
mv 9 51,
mv 10 52,
mv 11 53])
(.seq
(.ops [la 55 4 6,
ca 56 16 [(t 55)],
mv 54 56,
xt 57 54 0,
xt 58 54 1,
xt 59 54 2,
mv 12 57,
mv 13 58,
mv 14 59])
(.seq
(.seq
(.ops [mv 60 11,
mv 61 14,
op 62 (.bin .neq (t 60) (t 61)),
mv 63 62,
gm 64 63 false 10,
gm 65 63 false 13,
og 66 63 false (.p (.bin .neq (t 64) (t 65))),
oo 67 63 66,
mv 68 67,
gm 69 68 false 9,
og 70 68 false (.p (.eq .ptr false (t 69) (.c .nilptr))),
gm 71 68 false 12,
og 72 68 false (.p (.eq .ptr false (t 71) (.c .nilptr))),
og 73 68 false (.p (.eq .bool true (t 70) (t 72))),
oo 74 68 73])
(.cond (t 74)
(.seq
(.ops [op 2 (.mv (.c (.bool false)))])
.ret)
.skip))
(.seq
(.draw [ca 75 15 [],
dm 76 1 75,
⟨(some 77),(some (76,true)),(.p (.mv (t 9))),2,[]⟩,
⟨(some 78),(some (76,true)),(.p (.eq .ptr false (t 77) (.c .nilptr))),3,[]⟩,
⟨(some 79),(some (76,true)),(.p (.mv (t 78))),4,[]⟩,
⟨(some 80),(some (79,false)),(.p (.mv (t 9))),5,[]⟩,
⟨(some 81),(some (79,false)),(.p (.nilchk (t 80))),6,[]⟩,
⟨(some 82),(some (79,false)),(.p (.fieldAt 1 (t 81))),7,[]⟩,
⟨(some 83),(some (79,false)),(.r (.load 1 false (t 82))),8,[]⟩,
⟨(some 84),(some (79,false)),(.p (.mv (t 12))),9,[]⟩,
⟨(some 85),(some (79,false)),(.p (.nilchk (t 84))),10,[]⟩,
⟨(some 86),(some (79,false)),(.p (.fieldAt 1 (t 85))),11,[]⟩,
⟨(some 87),(some (79,false)),(.r (.load 1 false (t 86))),12,[]⟩,
⟨(some 88),(some (79,false)),(.h (.call (.c (.fn 18 [] [])) [(t 83),(t 87)])),13,[]⟩,
⟨(some 89),(some (79,false)),(.p (.mv (t 88))),14,[]⟩,
⟨(some 90),(some (89,true)),(.p (.mv (t 9))),15,[]⟩,
⟨(some 91),(some (89,true)),(.p (.nilchk (t 90))),16,[]⟩,
⟨(some 92),(some (89,true)),(.p (.fieldAt 2 (t 91))),17,[]⟩,
⟨(some 93),(some (89,true)),(.r (.load 1 false (t 92))),18,[]⟩,
⟨(some 94),(some (89,true)),(.p (.mv (t 12))),19,[]⟩,
⟨(some 95),(some (89,true)),(.p (.nilchk (t 94))),20,[]⟩,
⟨(some 96),(some (89,true)),(.p (.fieldAt 2 (t 95))),21,[]⟩,
⟨(some 97),(some (89,true)),(.r (.load 1 false (t 96))),22,[]⟩,
⟨(some 98),(some (89,true)),(.h (.call (.c (.fn 19 [] [])) [(t 93),(t 97)])),23,[]⟩,
⟨(some 99),(some (79,false)),(.p (.pick (t 89) (t 98) (.c (.bool false)))),24,[]⟩,
⟨(some 100),(some (79,false)),(.p (.mv (t 99))),25,[]⟩,
⟨(some 101),(some (100,true)),(.p (.mv (t 9))),26,[]⟩,
⟨(some 102),(some (100,true)),(.p (.nilchk (t 101))),27,[]⟩,
⟨(some 103),(some (100,true)),(.p (.fieldAt 0 (t 102))),28,[]⟩,
⟨(some 104),(some (100,true)),(.r (.load 1 false (t 103))),29,[]⟩,
⟨(some 105),(some (100,true)),(.p (.lenSl (t 104))),30,[]⟩,
⟨(some 106),(some (100,true)),(.p (.mv (t 12))),31,[]⟩,
⟨(some 107),(some (100,true)),(.p (.nilchk (t 106))),32,[]⟩,
⟨(some 108),(some (100,true)),(.p (.fieldAt 0 (t 107))),33,[]⟩,
⟨(some 109),(some (100,true)),(.r (.load 1 false (t 108))),34,[]⟩,
⟨(some 110),(some (100,true)),(.p (.lenSl (t 109))),35,[]⟩,
⟨(some 111),(some (100,true)),(.p (.bin .eql (t 105) (t 110))),36,[]⟩,
⟨(some 112),(some (79,false)),(.p (.pick (t 100) (t 111) (.c (.bool false)))),37,[]⟩,
⟨(some 113),(some (76,true)),(.p (.pick (t 79) (.c (.bool true)) (t 112))),38,[]⟩,
dp 114 39 (.pick (t 76) (t 113) (.c (.bool false))),
dm 2 40 114])
.ret))))))))))⟩
theorem c4:Mir.compF Tryz.prog Tryz.f4=some g4:=by kernel_rfl
def g5:Mir.Fn:=⟨51,[(.tmp 2)],
(.seq
(.ops [op 2 (.mv (.c (.bool false)))])
(.seq
(.ops [oa 10 (.mkSl [(.str [])] 1 6 [(0,(1,(s [66,69,71,73,78,123,98,114,101,97,107,125]))),(1,(1,(s [123,105,102,40,49,41,99,111,110,116,105,110,117,101,125]))),(2,(1,(s [123,114,101,116,117,114,110,125]))),(3,(1,(s [66,69,71,73,78,123,110,101,120,116,125]))),(4,(1,(s [102,117,110,99,116,105,111,110,32,102,40,41,123,110,101,120,116,125]))),(5,(1,(s [69,78,68,123,119,104,105,108,101,40,49,41,98,114,101,97,107,59,98,114,101,97,107,125])))]),
mv 3 10])
(.seq
(.seq
(.ops [mv 11 0,
op 12 (.bin .lss (t 11) (i 0)),
mv 13 12,
gm 14 13 false 0,
gm 15 13 false 3,
og 16 13 false (.p (.lenSl (t 15))),
og 17 13 false (.p (.bin .geq (t 14) (t 16))),
oo 18 13 17])
(.cond (t 18)
(.seq
(.ops [ca 19 15 [],
mv 2 19])
.ret)
.skip))
(.seq
(.ops [mv 21 3,
mv 22 0,
op 23 (.idxSl 1 (t 21) (t 22)),
ld 24 1 23,
ca 25 20 [(t 24)],
mv 20 25,
xt 26 20 0,
xt 27 20 1,
xt 28 20 2,
mv 4 26,
mv 5 27,
mv 6 28])
(.seq
(.ops [ca 30 20 [(s [102,117,110,99,116,105,111,110,32,102,40,41,123,119,104,105,108,101,40,49,41,123,98,114,101,97,107,125,114,101,116,117,114,110,32,49,125,32,123,102,111,114,40,59,59,41,99,111,110,116,105,110,117,101,59,110,101,120,116,125])],
mv 29 30,
xt 31 29 0,
xt 32 29 1,
xt 33 29 2,
mv 7 31,
mv 8 32,
mv 9 33])
(.seq
(.ops [ca 34 15 [],
mv 35 34,
gm 36 35 true 6,
og 37 35 true (.p (.bin .eql (t 36) (i 9))),
an 38 35 37,
mv 39 38,
gm 40 39 true 4,
og 41 39 true (.p (.eq .ptr false (t 40) (.c .nilptr))),
an 42 39 41,
mv 43 42,
gm 44 43 true 9,
og 45 43 true (.p (.bin .eql (t 44) (i 0))),
an 46 43 45,
mv 47 46,
gm 48 47 true 7,
og 49 47 true (.p (.eq .ptr true (t 48) (.c .nilptr))),
an 50 47 49,
mv 2 50])
.ret))))))⟩
theorem c5:Mir.compF Tryz.prog Tryz.f5=some g5:=by kernel_rfl
def g6:Mir.Fn:=⟨49,[(.tmp 2)],
(.seq
(.ops [op 2 (.mv (.c (.bool false)))])
(.seq
(.ops [mv 6 0,
ca 7 13 [(t 6),(i 300)],
mv 0 7])
(.seq
(.ops [mv 9 0,
ca 10 14 [(t 9)],
mv 8 10,
xt 11 8 0,
xt 12 8 1,
xt 13 8 2,
oa 3 (.alloc [(.str []),(.str []),(.int .i64 0),.nilsl]),
st 4 3 11,
mv 4 12,
mv 5 13])
(.seq
(.seq
(.ops [mv 14 5,
op 15 (.bin .eql (t 14) (i 0))])
(.cond (t 15)
(.seq
(.ops [ca 16 21 [],
mv 17 16,
gm 18 17 true 4,
og 19 17 true (.p (.bin .eql (t 18) (i 0))),
an 20 17 19,
mv 21 20,
og 22 21 true (.p (.fieldAt 0 (t 3))),
og 23 21 true (.r (.load 1 false (t 22))),
og 24 21 true (.p (.bin .eql (t 23) (s [112,114,111,103,114,97,109]))),
an 25 21 24,
mv 2 25])
.ret)
.skip))
(.seq
(.ops [ca 26 21 [],
mv 27 26,
gm 28 27 true 4,
og 29 27 true (.p (.bin .geq (t 28) (i 0))),
an 30 27 29,
mv 31 30,
gm 32 31 true 4,
gm 33 31 true 0,
og 34 31 true (.p (.lenStr (t 33))),
og 35 31 true (.p (.bin .leq (t 32) (t 34))),
an 36 31 35,
mv 37 36,
gm 38 37 true 5,
og 39 37 true (.p (.bin .eql (t 38) (i 9))),
gm 40 37 true 39,
gm 41 40 false 5,
og 42 40 false (.p (.bin .eql (t 41) (i 10))),
og 43 37 true (.p (.pick (t 40) (.c (.bool true)) (t 42))),
gm 44 37 true 43,
gm 45 44 false 5,
og 46 44 false (.p (.bin .eql (t 45) (i 14))),
og 47 37 true (.p (.pick (t 44) (.c (.bool true)) (t 46))),
an 48 37 47,
mv 2 48])
.ret)))))⟩
theorem c6:Mir.compF Tryz.prog Tryz.f6=some g6:=by kernel_rfl
def g7:Mir.Fn:=⟨65,[(.tmp 2)],
(.seq
(.ops [op 2 (.mv (.c (.bool false)))])
(.seq
(.ops [oa 13 (.mkSl [(.str [])] 1 6 [(0,(1,(s [103,101,116,108,105,110,101]))),(1,(1,(s [115,121,115,116,101,109,40,34,120,34,41]))),(2,(1,(s [99,108,111,115,101,40,102,41]))),(3,(1,(s [102,102,108,117,115,104,40,41]))),(4,(1,(s [115,121,115,116,105,109,101,40,41]))),(5,(1,(s [115,116,114,102,116,105,109,101,40,49,41])))]),
mv 3 13])
(.seq
(.seq
(.ops [mv 14 0,
op 15 (.bin .lss (t 14) (i 0)),
mv 16 15,
gm 17 16 false 0,
gm 18 16 false 3,
og 19 16 false (.p (.lenSl (t 18))),
og 20 16 false (.p (.bin .geq (t 17) (t 19))),
oo 21 16 20])
(.cond (t 21)
(.seq
(.ops [ca 22 21 [],
mv 2 22])
.ret)
.skip))
(.seq
(.ops [mv 24 3,
mv 25 0,
op 26 (.idxSl 1 (t 24) (t 25)),
ld 27 1 26,
op 28 (.bin .add (s [66,69,71,73,78,123,120,61]) (t 27)),
op 29 (.bin .add (t 28) (s [125])),
ca 30 14 [(t 29)],
mv 23 30,
xt 31 23 0,
xt 32 23 1,
xt 33 23 2,
oa 4 (.alloc [(.str []),(.str []),(.int .i64 0),.nilsl]),
st 4 4 31,
mv 5 32,
mv 6 33])
(.seq
(.ops [ca 35 14 [(s [123,112,114,105,110,116,32,124,32,34,115,104,34,125])],
mv 34 35,
xt 36 34 0,
xt 37 34 1,
xt 38 34 2,
oa 7 (.alloc [(.str []),(.str []),(.int .i64 0),.nilsl]),
st 4 7 36,
mv 8 37,
mv 9 38])
(.seq
(.ops [ca 40 14 [(s [123,32,115,114,97,110,100,40,41,32,125])],
mv 39 40,
xt 41 39 0,
xt 42 39 1,
xt 43 39 2,
oa 10 (.alloc [(.str []),(.str []),(.int .i64 0),.nilsl]),
st 4 10 41,
mv 11 42,
mv 12 43])
(.seq
(.ops [ca 44 21 [],
mv 45 44,
gm 46 45 true 6,
og 47 45 true (.p (.bin .eql (t 46) (i 10))),
an 48 45 47,
mv 49 48,
gm 50 49 true 5,
og 51 49 true (.p (.bin .eql (t 50) (i 8))),
an 52 49 51,
mv 53 52,
gm 54 53 true 9,
og 55 53 true (.p (.bin .eql (t 54) (i 10))),
an 56 53 55,
mv 57 56,
gm 58 57 true 12,
og 59 57 true (.p (.bin .eql (t 58) (i 10))),
an 60 57 59,
mv 61 60,
gm 62 61 true 11,
og 63 61 true (.p (.bin .eql (t 62) (i 2))),
an 64 61 63,
mv 2 64])
.ret)))))))⟩
theorem c7:Mir.compF Tryz.prog Tryz.f7=some g7:=by kernel_rfl
def g8:Mir.Fn:=⟨58,[(.tmp 2)],
(.seq
(.ops [op 2 (.mv (.c (.bool false)))])
(.seq
(.seq
(.ops [mv 9 0,
op 10 (.bin .lss (t 9) (i 0)),
mv 11 10,
gm 12 11 false 0,
og 13 11 false (.p (.bin .gtr (t 12) (i 100))),
oo 14 11 13])
(.cond (t 14)
(.seq
(.ops [ca 15 21 [],
mv 2 15])
.ret)
.skip))
(.seq
(.ops [op 3 (.mv (s []))])
(.seq
(.seq
(.ops [op 4 (.mv (i 0))])
(.block 0 (.loop (.seq
(.seq
(.ops [mv 16 4,
mv 17 0,
op 18 (.bin .lss (t 16) (t 17))])
(.cond (t 18)
.skip
(.exit 0)))
(.seq
(.block 1 (.ops [mv 21 3,
op 22 (.bin .add (t 21) (s [40])),
mv 3 22]))
(.ops [mv 19 4,
op 20 (.bin .add (t 19) (i 1)),
mv 4 20]))))))
(.seq
(.ops [mv 23 3,
op 24 (.bin .add (t 23) (s [49])),
mv 3 24])
(.seq
(.seq
(.ops [op 5 (.mv (i 0))])
(.block 2 (.loop (.seq
(.seq
(.ops [mv 25 5,
mv 26 0,
op 27 (.bin .lss (t 25) (t 26))])
(.cond (t 27)
.skip
(.exit 2)))
(.seq
(.block 3 (.ops [mv 30 3,
op 31 (.bin .add (t 30) (s [41])),
mv 3 31]))
(.ops [mv 28 5,
op 29 (.bin .add (t 28) (i 1)),
mv 5 29]))))))
(.seq
(.ops [mv 33 3,
ca 34 14 [(t 33)],
mv 32 34,
xt 35 32 0,
xt 36 32 1,
xt 37 32 2,
oa 6 (.alloc [(.str []),(.str []),(.int .i64 0),.nilsl]),
st 4 6 35,
mv 7 36,
mv 8 37])
(.seq
(.seq
(.ops [mv 38 0,
op 39 (.bin .geq (t 38) (i 50))])
(.cond (t 39)
(.seq
(.ops [ca 40 21 [],
mv 41 40,
gm 42 41 true 8,
og 43 41 true (.p (.bin .eql (t 42) (i 14))),
an 44 41 43,
mv 45 44,
gm 46 45 true 7,
og 47 45 true (.p (.bin .eql (t 46) (i 50))),
an 48 45 47,
mv 2 48])
.ret)
.skip))
(.seq
(.ops [ca 49 21 [],
mv 50 49,
gm 51 50 true 8,
og 52 50 true (.p (.bin .eql (t 51) (i 0))),
an 53 50 52,
mv 54 53,
gm 55 54 true 7,
og 56 54 true (.p (.bin .eql (t 55) (i 0))),
an 57 54 56,
mv 2 57])
.ret)))))))))⟩
theorem c8:Mir.compF Tryz.prog Tryz.f8=some g8:=by kernel_rfl
def g9:Mir.Fn:=⟨110,[(.tmp 4)],
(.seq
(.ops [op 4 (.mv (.c (.bool false)))])
(.seq
(.ops [mv 18 0,
ca 19 13 [(t 18),(i 200)],
mv 20 1,
ca 21 13 [(t 20),(i 200)],
mv 0 19,
mv 1 21])
(.seq
(.ops [mv 23 0,
ca 24 14 [(t 23)],
mv 22 24,
xt 25 22 0,
xt 26 22 1,
xt 27 22 2,
oa 5 (.alloc [(.str []),(.str []),(.int .i64 0),.nilsl]),
st 4 5 25,
mv 6 26,
mv 7 27])
(.seq
(.ops [mv 29 1,
ca 30 14 [(t 29)],
mv 28 30,
xt 31 28 0,
xt 32 28 1,
xt 33 28 2,
oa 8 (.alloc [(.str []),(.str []),(.int .i64 0),.nilsl]),
st 4 8 31,
mv 9 32,
mv 10 33])
(.seq
(.seq
(.ops [mv 34 7,
op 35 (.bin .neq (t 34) (i 0)),
mv 36 35,
gm 37 36 false 10,
og 38 36 false (.p (.bin .neq (t 37) (i 0))),
oo 39 36 38,
mv 40 39,
gm 41 40 false 0,
og 42 40 false (.p (.lenStr (t 41))),
og 43 40 false (.p (.bin .gtr (t 42) (i 0))),
gm 44 40 false 43,
gm 45 44 true 0,
gm 46 44 true 0,
og 47 44 true (.p (.lenStr (t 46))),
og 48 44 true (.p (.bin .sub (t 47) (i 1))),
og 49 44 true (.p (.idxStr (t 45) (t 48))),
og 50 44 true (.p (.bin .eql (t 49) (u 92))),
og 51 40 false (.p (.pick (t 44) (t 50) (.c (.bool false)))),
oo 52 40 51])
(.cond (t 52)
(.seq
(.ops [ca 53 21 [],
mv 4 53])
.ret)
.skip))
(.seq
(.ops [mv 55 0,
op 56 (.bin .add (t 55) (s [10])),
mv 57 1,
op 58 (.bin .add (t 56) (t 57)),
ca 59 14 [(t 58)],
mv 54 59,
xt 60 54 0,
xt 61 54 1,
xt 62 54 2,
oa 11 (.alloc [(.str []),(.str []),(.int .i64 0),.nilsl]),
st 4 11 60,
mv 12 61,
mv 13 62])
(.seq
(.seq
(.ops [mv 63 13,
op 64 (.bin .neq (t 63) (i 0)),
mv 65 64,
og 66 65 false (.p (.fieldAt 3 (t 11))),
og 67 65 false (.r (.load 1 false (t 66))),
og 68 65 false (.p (.lenSl (t 67))),
og 69 65 false (.p (.fieldAt 3 (t 5))),
og 70 65 false (.r (.load 1 false (t 69))),
og 71 65 false (.p (.lenSl (t 70))),
og 72 65 false (.p (.fieldAt 3 (t 8))),
og 73 65 false (.r (.load 1 false (t 72))),
og 74 65 false (.p (.lenSl (t 73))),
og 75 65 false (.p (.bin .add (t 71) (t 74))),
og 76 65 false (.p (.bin .neq (t 68) (t 75))),
oo 77 65 76])
(.cond (t 77)
(.seq
(.ops [op 4 (.mv (.c (.bool false)))])
.ret)
.skip))
(.seq
(.seq
(.ops [fa 78 3 11,
ld 79 1 78,
op 80 (.lenSl (t 79)),
op 81 (.mv (i 0))])
(.block 0 (.loop (.seq
(.ops [op 82 (.bin .lss (t 81) (t 80))])
(.seq
(.cond (t 82)
.skip
(.exit 0))
(.seq
(.block 1 (.seq
(.ops [mv 83 81,
op 84 (.idxSl 4 (t 79) (t 81)),
la 85 4 84,
oa 15 (.alloc [(.str []),(.str []),(.int .i64 0),.nilsl]),
mv 14 83,
st 4 15 85])
(.seq
(.ops [fa 86 3 5,
ld 87 1 86,
mv 16 87])
(.seq
(.ops [mv 88 14,
mv 17 88])
(.seq
(.seq
(.ops [mv 89 14,
fa 90 3 5,
ld 91 1 90,
op 92 (.lenSl (t 91)),
op 93 (.bin .geq (t 89) (t 92))])
(.cond (t 93)
(.seq
(.ops [fa 94 3 8,
ld 95 1 94,
mv 16 95])
(.ops [mv 96 14,
fa 97 3 5,
ld 98 1 97,
op 99 (.lenSl (t 98)),
op 100 (.bin .sub (t 96) (t 99)),
mv 17 100]))
.skip))
(.seq
(.draw [la 101 4 15,
dm 102 1 16,
dm 103 2 17,
dp 104 3 (.idxSl 4 (t 102) (t 103)),
dk 105 4 (.r (.load 4 true (t 104))),
dk 106 5 (.h (.call (.c (.fn 22 [] [])) [(t 101),(t 105)])),
dp 107 6 (.un .not (t 106))])
(.cond (t 107)
(.seq
(.ops [op 4 (.mv (.c (.bool false)))])
.ret)
.skip)))))))
(.ops [op 108 (.bin .add (t 81) (i 1)),
mv 81 108])))))))
(.seq
(.ops [ca 109 21 [],
mv 4 109])
.ret)))))))))⟩
theorem c9:Mir.compF Tryz.prog Tryz.f9=some g9:=by kernel_rfl
def g10:Mir.Fn:=⟨38,[(.tmp 2)],
(.seq
(.ops [op 2 (.mv (.c (.bool false)))])
(.seq
(.ops [mv 9 0,
ca 10 13 [(t 9),(i 300)],
mv 0 10])
(.seq
(.ops [mv 12 0,
ca 13 14 [(t 12)],
mv 11 13,
xt 14 11 0,
xt 15 11 1,
xt 16 11 2,
oa 3 (.alloc [(.str []),(.str []),(.int .i64 0),.nilsl]),
st 4 3 14,
mv 4 15,
mv 5 16])
(.seq
(.seq
(.ops [mv 17 5,
op 18 (.bin .neq (t 17) (i 0))])
(.cond (t 18)
(.seq
(.ops [ca 19 21 [],
mv 2 19])
.ret)
.skip))
(.seq
(.ops [mv 21 0,
op 22 (.bin .add (s [59,10,32,59]) (t 21)),
op 23 (.bin .add (t 22) (s [32,9,35,32,97,32,110,111,116,101])),
ca 24 14 [(t 23)],
mv 20 24,
xt 25 20 0,
xt 26 20 1,
xt 27 20 2,
oa 6 (.alloc [(.str []),(.str []),(.int .i64 0),.nilsl]),
st 4 6 25,
mv 7 26,
mv 8 27])
(.seq
(.ops [ca 28 21 [],
mv 29 28,
gm 30 29 true 8,
og 31 29 true (.p (.bin .eql (t 30) (i 0))),
an 32 29 31,
mv 33 32,
og 34 33 true (.r (.load 4 true (t 6))),
og 35 33 true (.r (.load 4 true (t 3))),
og 36 33 true (.h (.call (.c (.fn 22 [] [])) [(t 34),(t 35)])),
an 37 33 36,
mv 2 37])
.ret))))))⟩
theorem c10:Mir.compF Tryz.prog Tryz.f10=some g10:=by kernel_rfl
def g11:Mir.Fn:=⟨85,[(.tmp 2)],
(.seq
(.ops [op 2 (.mv (.c (.bool false)))])
(.seq
(.ops [mv 10 0,
ca 11 13 [(t 10),(i 100)],
mv 0 11])
(.seq
(.seq
(.ops [op 3 (.mv (i 0))])
(.block 0 (.loop (.seq
(.seq
(.ops [mv 12 3,
mv 13 0,
op 14 (.lenStr (t 13)),
op 15 (.bin .lss (t 12) (t 14))])
(.cond (t 15)
.skip
(.exit 0)))
(.seq
(.block 1 (.seq
(.ops [mv 18 0,
mv 19 3,
op 20 (.idxStr (t 18) (t 19)),
op 21 (.bin .eql (t 20) (u 35)),
mv 22 21,
gm 23 22 false 0,
gm 24 22 false 3,
og 25 22 false (.p (.idxStr (t 23) (t 24))),
og 26 22 false (.p (.bin .eql (t 25) (u 59))),
oo 27 22 26])
(.cond (t 27)
(.seq
(.ops [ca 28 21 [],
mv 2 28])
.ret)
.skip)))
(.ops [mv 16 3,
op 17 (.bin .add (t 16) (i 1)),
mv 3 17]))))))
(.seq
(.ops [mv 30 0,
ca 31 14 [(t 30)],
mv 29 31,
xt 32 29 0,
xt 33 29 1,
xt 34 29 2,
oa 4 (.alloc [(.str []),(.str []),(.int .i64 0),.nilsl]),
st 4 4 32,
mv 5 33,
mv 6 34])
(.seq
(.seq
(.ops [mv 35 6,
op 36 (.bin .neq (t 35) (i 0)),
mv 37 36,
og 38 37 false (.p (.fieldAt 3 (t 4))),
og 39 37 false (.r (.load 1 false (t 38))),
og 40 37 false (.p (.lenSl (t 39))),
og 41 37 false (.p (.bin .neq (t 40) (i 1))),
oo 42 37 41,
mv 43 42,
og 44 43 false (.p (.fieldAt 3 (t 4))),
og 45 43 false (.r (.load 1 false (t 44))),
og 46 43 false (.p (.idxSl 4 (t 45) (i 0))),
og 47 43 false (.p (.fieldAt 0 (t 46))),
og 48 43 false (.r (.load 1 false (t 47))),
og 49 43 false (.p (.bin .neq (t 48) (s [114,117,108,101]))),
oo 50 43 49,
mv 51 50,
og 52 51 false (.p (.fieldAt 3 (t 4))),
og 53 51 false (.r (.load 1 false (t 52))),
og 54 51 false (.p (.idxSl 4 (t 53) (i 0))),
og 55 51 false (.p (.fieldAt 3 (t 54))),
og 56 51 false (.r (.load 1 false (t 55))),
og 57 51 false (.p (.idxSl 4 (t 56) (i 1))),
og 58 51 false (.p (.fieldAt 0 (t 57))),
og 59 51 false (.r (.load 1 false (t 58))),
og 60 51 false (.p (.bin .neq (t 59) (s [100,101,102,97,117,108,116]))),
oo 61 51 60])
(.cond (t 61)
(.seq
(.ops [ca 62 21 [],
mv 2 62])
.ret)
.skip))
(.seq
(.ops [mv 64 0,
op 65 (.bin .add (s [40]) (t 64)),
op 66 (.bin .add (t 65) (s [41])),
ca 67 14 [(t 66)],
mv 63 67,
xt 68 63 0,
xt 69 63 1,
xt 70 63 2,
oa 7 (.alloc [(.str []),(.str []),(.int .i64 0),.nilsl]),
st 4 7 68,
mv 8 69,
mv 9 70])
(.seq
(.ops [ca 71 21 [],
mv 72 71,
gm 73 72 true 9,
og 74 72 true (.p (.bin .eql (t 73) (i 14))),
gm 75 72 true 74,
gm 76 75 false 9,
og 77 75 false (.p (.bin .eql (t 76) (i 0))),
gm 78 75 false 77,
og 79 78 true (.r (.load 4 true (t 4))),
og 80 78 true (.r (.load 4 true (t 7))),
og 81 78 true (.h (.call (.c (.fn 22 [] [])) [(t 79),(t 80)])),
og 82 75 false (.p (.pick (t 78) (t 81) (.c (.bool false)))),
og 83 72 true (.p (.pick (t 75) (.c (.bool true)) (t 82))),
an 84 72 83,
mv 2 84])
.ret)))))))⟩
theorem c11:Mir.compF Tryz.prog Tryz.f11=some g11:=by kernel_rfl
def g12:Mir.Fn:=⟨127,[(.tmp 4)],
(.seq
(.ops [op 4 (.mv (.c (.bool false)))])
(.seq
(.ops [oa 12 (.mkSl [(.str [])] 1 10 [(0,(1,(s [124,124]))),(1,(1,(s [38,38]))),(2,(1,(s [126]))),(3,(1,(s [60]))),(4,(1,(s [43]))),(5,(1,(s [42]))),(6,(1,(s [45]))),(7,(1,(s [47]))),(8,(1,(s [37]))),(9,(1,(s [33,126])))]),
mv 5 12])
(.seq
(.ops [oa 13 (.mkSl [(.int .i64 0)] 1 10 [(0,(1,(i 1))),(1,(1,(i 2))),(2,(1,(i 3))),(3,(1,(i 4))),(4,(1,(i 5))),(5,(1,(i 6))),(6,(1,(i 5))),(7,(1,(i 6))),(8,(1,(i 6))),(9,(1,(i 3)))]),
mv 6 13])
(.seq
(.ops [oa 14 (.mkSl [(.str [])] 1 10 [(0,(1,(s [111,114]))),(1,(1,(s [97,110,100]))),(2,(1,(s [109,97,116,99,104]))),(3,(1,(s [108,101,115,115]))),(4,(1,(s [97,100,100]))),(5,(1,(s [109,117,108]))),(6,(1,(s [115,117,98]))),(7,(1,(s [100,105,118]))),(8,(1,(s [109,111,100]))),(9,(1,(s [110,111,109,97,116,99,104])))]),
mv 7 14])
(.seq
(.seq
(.ops [mv 15 0,
op 16 (.bin .lss (t 15) (i 0)),
mv 17 16,
gm 18 17 false 0,
gm 19 17 false 5,
og 20 17 false (.p (.lenSl (t 19))),
og 21 17 false (.p (.bin .geq (t 18) (t 20))),
oo 22 17 21,
mv 23 22,
gm 24 23 false 1,
og 25 23 false (.p (.bin .lss (t 24) (i 0))),
oo 26 23 25,
mv 27 26,
gm 28 27 false 1,
gm 29 27 false 5,
og 30 27 false (.p (.lenSl (t 29))),
og 31 27 false (.p (.bin .geq (t 28) (t 30))),
oo 32 27 31])
(.cond (t 32)
(.seq
(.ops [ca 33 21 [],
mv 4 33])
.ret)
.skip))
(.seq
(.draw [mv 35 5,
dm 36 1 0,
dp 37 2 (.idxSl 1 (t 35) (t 36)),
dl 38 3 1 37,
dp 39 4 (.bin .add (s [66,69,71,73,78,123,120,32]) (t 38)),
dp 40 5 (.bin .add (t 39) (s [32,121,32])),
dm 41 6 5,
dm 42 7 1,
dp 43 8 (.idxSl 1 (t 41) (t 42)),
dl 44 9 1 43,
dp 45 10 (.bin .add (t 40) (t 44)),
dp 46 11 (.bin .add (t 45) (s [32,122,125])),
dk 47 12 (.h (.call (.c (.fn 14 [] [])) [(t 46)])),
dm 34 13 47,
dp 48 14 (.ext (t 34) 0),
dp 49 15 (.ext (t 34) 1),
dp 50 16 (.ext (t 34) 2),
dk 8 17 (.a (.alloc [(.str []),(.str []),(.int .i64 0),.nilsl])),
⟨none,none,(.h (.store 4 (t 8) (t 48))),18,[]⟩,
dm 9 19 49,
dm 10 20 50])
(.seq
(.seq
(.ops [mv 51 0,
op 52 (.bin .eql (t 51) (i 3)),
mv 53 52,
gm 54 53 true 1,
og 55 53 true (.p (.bin .eql (t 54) (i 3))),
an 56 53 55])
(.cond (t 56)
(.seq
(.ops [ca 57 21 [],
mv 58 57,
gm 59 58 true 10,
og 60 58 true (.p (.bin .eql (t 59) (i 9))),
an 61 58 60,
mv 4 61])
.ret)
.skip))
(.seq
(.seq
(.ops [mv 62 10,
op 63 (.bin .neq (t 62) (i 0)),
mv 64 63,
og 65 64 false (.p (.fieldAt 3 (t 8))),
og 66 64 false (.r (.load 1 false (t 65))),
og 67 64 false (.p (.lenSl (t 66))),
og 68 64 false (.p (.bin .neq (t 67) (i 1))),
oo 69 64 68])
(.cond (t 69)
(.seq
(.ops [op 4 (.mv (.c (.bool false)))])
.ret)
.skip))
(.seq
(.draw [mv 70 7,
dm 71 1 1,
dp 72 2 (.idxSl 1 (t 70) (t 71)),
dl 73 3 1 72,
dm 74 4 7,
dm 75 5 0,
dp 76 6 (.idxSl 1 (t 74) (t 75)),
dl 77 7 1 76,
⟨(some 78),none,(.h (.call (.c (.fn 23 [] [])) [(s [120])])),8,[3,7]⟩,
⟨(some 79),none,(.h (.call (.c (.fn 23 [] [])) [(s [121])])),9,[3,7]⟩,
⟨(some 82),none,(.h (.call (.c (.fn 23 [] [])) [(s [122])])),12,[3,7]⟩,
dk 80 10 (.a (.mkSl [(.str []),(.str []),(.int .i64 0),.nilsl] 4 2 [(0,(4,(t 78))),(4,(4,(t 79)))])),
dp 81 11 (.build [(.str []),(.str []),(.int .i64 0),.nilsl] [(0,(1,(t 77))),(3,(1,(t 80)))]),
dk 83 13 (.a (.mkSl [(.str []),(.str []),(.int .i64 0),.nilsl] 4 2 [(0,(4,(t 81))),(4,(4,(t 82)))])),
dp 84 14 (.build [(.str []),(.str []),(.int .i64 0),.nilsl] [(0,(1,(t 73))),(3,(1,(t 83)))]),
dk 11 15 (.a (.alloc [(.str []),(.str []),(.int .i64 0),.nilsl])),
⟨none,none,(.h (.store 4 (t 11) (t 84))),16,[]⟩])
(.seq
(.seq
(.draw [mv 85 6,
dm 86 1 1,
dp 87 2 (.idxSl 1 (t 85) (t 86)),
dl 88 3 1 87,
dm 89 4 6,
dm 90 5 0,
dp 91 6 (.idxSl 1 (t 89) (t 90)),
dl 92 7 1 91,
dp 93 8 (.bin .gtr (t 88) (t 92))])
(.cond (t 93)
(.draw [mv 94 7,
dm 95 1 0,
dp 96 2 (.idxSl 1 (t 94) (t 95)),
dl 97 3 1 96,
dm 99 5 7,
dm 100 6 1,
dp 101 7 (.idxSl 1 (t 99) (t 100)),
dl 102 8 1 101,
⟨(some 98),none,(.h (.call (.c (.fn 23 [] [])) [(s [120])])),4,[3,8]⟩,
⟨(some 103),none,(.h (.call (.c (.fn 23 [] [])) [(s [121])])),9,[3,8]⟩,
⟨(some 104),none,(.h (.call (.c (.fn 23 [] [])) [(s [122])])),10,[3,8]⟩,
dk 105 11 (.a (.mkSl [(.str []),(.str []),(.int .i64 0),.nilsl] 4 2 [(0,(4,(t 103))),(4,(4,(t 104)))])),
dp 106 12 (.build [(.str []),(.str []),(.int .i64 0),.nilsl] [(0,(1,(t 102))),(3,(1,(t 105)))]),
dk 107 13 (.a (.mkSl [(.str []),(.str []),(.int .i64 0),.nilsl] 4 2 [(0,(4,(t 98))),(4,(4,(t 106)))])),
dp 108 14 (.build [(.str []),(.str []),(.int .i64 0),.nilsl] [(0,(1,(t 97))),(3,(1,(t 107)))]),
⟨none,none,(.h (.store 4 (t 11) (t 108))),15,[]⟩])
.skip))
(.seq
(.draw [ca 109 21 [],
dm 110 1 109,
⟨(some 111),(some (110,true)),(.p (.fieldAt 3 (t 8))),2,[]⟩,
⟨(some 112),(some (110,true)),(.r (.load 1 false (t 111))),3,[]⟩,
⟨(some 113),(some (110,true)),(.p (.idxSl 4 (t 112) (i 0))),4,[]⟩,
⟨(some 114),(some (110,true)),(.p (.fieldAt 3 (t 113))),5,[]⟩,
⟨(some 115),(some (110,true)),(.r (.load 1 false (t 114))),6,[]⟩,
⟨(some 116),(some (110,true)),(.p (.idxSl 4 (t 115) (i 0))),7,[]⟩,
⟨(some 117),(some (110,true)),(.p (.fieldAt 3 (t 116))),8,[]⟩,
⟨(some 118),(some (110,true)),(.r (.load 1 false (t 117))),9,[]⟩,
⟨(some 119),(some (110,true)),(.p (.idxSl 4 (t 118) (i 0))),10,[]⟩,
⟨(some 120),(some (110,true)),(.p (.fieldAt 3 (t 119))),11,[]⟩,
⟨(some 121),(some (110,true)),(.r (.load 1 false (t 120))),12,[]⟩,
⟨(some 122),(some (110,true)),(.p (.idxSl 4 (t 121) (i 0))),13,[]⟩,
⟨(some 123),(some (110,true)),(.r (.load 4 true (t 122))),14,[]⟩,
⟨(some 124),(some (110,true)),(.r (.load 4 true (t 11))),15,[]⟩,
⟨(some 125),(some (110,true)),(.h (.call (.c (.fn 22 [] [])) [(t 123),(t 124)])),16,[]⟩,
dp 126 17 (.pick (t 110) (t 125) (.c (.bool false))),
dm 4 18 126])
.ret)))))))))))⟩
theorem c12:Mir.compF Tryz.prog Tryz.f12=some g12:=by kernel_rfl
def g13:Mir.Fn:=⟨13,[(.tmp 4)],
(.seq
(.ops [op 4 (.mv (s []))])
(.seq
(.seq
(.ops [mv 5 0,
op 6 (.lenStr (t 5)),
mv 7 1,
op 8 (.bin .gtr (t 6) (t 7))])
(.cond (t 8)
(.seq
(.ops [mv 9 0,
mv 10 1,
op 11 (.subStr (t 9) none (some (t 10))),
mv 4 11])
.ret)
.skip))
(.seq
(.ops [mv 12 0,
mv 4 12])
.ret)))⟩
theorem c13:Mir.compF Tryz.prog Tryz.f13=some g13:=by kernel_rfl
def g14:Mir.Fn:=⟨67,[(.cell 2 4 true),(.tmp 3),(.tmp 4)],
(.seq
(.ops [oa 2 (.alloc [(.str []),(.str []),(.int .i64 0),.nilsl]),
op 3 (.mv (i 0)),
op 4 (.mv (i 0))])
(.seq
(.ops [mv 11 0,
ca 12 24 [(t 11)],
mv 10 12,
xt 13 10 0,
xt 14 10 1,
xt 15 10 2,
mv 5 13,
mv 6 14,
mv 7 15])
(.seq
(.seq
(.ops [mv 16 7,
op 17 (.bin .neq (t 16) (i 0))])
(.cond (t 17)
(.seq
(.ops [op 18 (.build [(.str []),(.str []),(.int .i64 0),.nilsl] []),
mv 19 6,
mv 20 7,
st 4 2 18,
mv 3 19,
mv 4 20])
.ret)
.skip))
(.seq
(.ops [mv 21 5,
op 22 (.build [.nilsl,(.int .i64 0),(.int .i64 0),(.bool false),(.int .i64 0),(.int .i64 0)] [(0,(1,(t 21)))]),
oa 23 (.box (t 22)),
mv 8 23])
(.seq
(.ops [ca 24 25 [(s [112,114,111,103,114,97,109]),(.c .nilsl)],
oa 9 (.alloc [(.str []),(.str []),(.int .i64 0),.nilsl]),
st 4 9 24])
(.seq
(.block 0 (.loop (.seq
(.seq
(.ops [mv 25 8,
nc 26 25,
fa 27 4 26,
ld 28 1 27,
op 29 (.bin .eql (t 28) (i 0))])
(.cond (t 29)
.skip
(.exit 0)))
(.block 1 (.seq
(.block 2 (.loop (.seq
(.seq
(.ops [mv 30 8,
oa 31 (.mkSl [(.str [])] 1 1 [(0,(1,(s [59])))]),
ca 32 26 [(t 30),(t 31)],
mv 33 32,
gm 34 33 false 8,
og 35 33 false (.h (.call (.c (.fn 27 [] [])) [(t 34)])),
og 36 33 false (.p (.field 0 1 false (t 35))),
og 37 33 false (.p (.bin .eql (t 36) (i 1))),
oo 38 33 37])
(.cond (t 38)
.skip
(.exit 2)))
(.block 3 (.ops [mv 39 8,
ca 40 28 [(t 39)]])))))
(.seq
(.seq
(.ops [mv 41 8,
ca 42 27 [(t 41)],
op 43 (.field 0 1 false (t 42)),
op 44 (.bin .eql (t 43) (i 0))])
(.cond (t 44)
(.exit 0)
.skip))
(.draw [fa 45 3 9,
dl 46 1 1 45,
dm 47 2 8,
⟨(some 48),none,(.h (.call (.c (.fn 29 [] [])) [(t 47)])),3,[1]⟩,
dk 49 4 (.a (.mkSl [(.str []),(.str []),(.int .i64 0),.nilsl] 4 1 [(0,(4,(t 48)))])),
dk 50 5 (.h (.app 4 64 (t 46) (t 49))),
df 51 6 3 9,
⟨none,none,(.h (.store 1 (t 51) (t 50))),7,[]⟩])))))))
(.seq
(.seq
(.ops [mv 52 8,
nc 53 52,
fa 54 4 53,
ld 55 1 54,
op 56 (.bin .neq (t 55) (i 0))])
(.cond (t 56)
(.seq
(.draw [op 57 (.build [(.str []),(.str []),(.int .i64 0),.nilsl] []),
dm 58 1 8,
dp 59 2 (.nilchk (t 58)),
df 60 3 5 59,
dl 61 4 1 60,
dm 62 5 8,
dp 63 6 (.nilchk (t 62)),
df 64 7 4 63,
dl 65 8 1 64,
⟨none,none,(.h (.store 4 (t 2) (t 57))),9,[4,8]⟩,
dm 3 10 61,
dm 4 11 65])
.ret)
.skip))
(.seq
(.ops [la 66 4 9,
st 4 2 66,
op 3 (.mv (i 0)),
op 4 (.mv (i 0))])
.ret))))))))⟩
theorem c14:Mir.compF Tryz.prog Tryz.f14=some g14:=by kernel_rfl
def g15:Mir.Fn:=⟨86,[(.tmp 0)],
(.seq
(.ops [op 0 (.mv (.c (.bool false)))])
(.seq
(.ops [ca 8 20 [(s [102,117,110,99,116,105,111,110,32,102,40,97,41,123,97,91,49,93,61,49,125,32,66,69,71,73,78,123,102,40,120,41,59,112,114,105,110,116,32,120,91,49,93,125])],
mv 7 8,
xt 9 7 0,
xt 10 7 1,
xt 11 7 2,
mv 1 9,
mv 2 10,
mv 3 11])
(.seq
(.ops [ca 13 20 [(s [102,117,110,99,116,105,111,110,32,102,40,97,41,123,97,91,49,93,61,49,125,32,66,69,71,73,78,123,102,40,120,41,59,112,114,105,110,116,32,120,125])],
mv 12 13,
xt 14 12 0,
xt 15 12 1,
xt 16 12 2,
mv 4 14,
mv 5 15,
mv 6 16])
(.seq
(.ops [mv 17 3,
op 18 (.bin .eql (t 17) (i 0)),
mv 19 18,
gm 20 19 true 1,
og 21 19 true (.p (.eq .ptr true (t 20) (.c .nilptr))),
an 22 19 21,
mv 23 22,
gm 24 23 true 1,
og 25 23 true (.p (.nilchk (t 24))),
og 26 23 true (.p (.fieldAt 0 (t 25))),
og 27 23 true (.r (.load 1 false (t 26))),
og 28 23 true (.p (.lenSl (t 27))),
og 29 23 true (.p (.bin .eql (t 28) (i 1))),
an 30 23 29,
mv 31 30,
gm 32 31 true 1,
og 33 31 true (.p (.nilchk (t 32))),
og 34 31 true (.p (.fieldAt 0 (t 33))),
og 35 31 true (.r (.load 1 false (t 34))),
og 36 31 true (.p (.idxSl 7 (t 35) (i 0))),
og 37 31 true (.p (.fieldAt 2 (t 36))),
og 38 31 true (.r (.load 1 false (t 37))),
og 39 31 true (.p (.lenSl (t 38))),
og 40 31 true (.p (.bin .eql (t 39) (i 1))),
an 41 31 40,
mv 42 41,
gm 43 42 true 1,
og 44 42 true (.p (.nilchk (t 43))),
og 45 42 true (.p (.fieldAt 0 (t 44))),
og 46 42 true (.r (.load 1 false (t 45))),
og 47 42 true (.p (.idxSl 7 (t 46) (i 0))),
og 48 42 true (.p (.fieldAt 2 (t 47))),
og 49 42 true (.r (.load 1 false (t 48))),
og 50 42 true (.p (.idxSl 1 (t 49) (i 0))),
og 51 42 true (.r (.load 1 false (t 50))),
an 52 42 51,
mv 53 52,
gm 54 53 true 1,
og 55 53 true (.p (.nilchk (t 54))),
og 56 53 true (.p (.fieldAt 1 (t 55))),
og 57 53 true (.r (.load 1 false (t 56))),
og 58 53 true (.p (.lenSl (t 57))),
og 59 53 true (.p (.bin .eql (t 58) (i 1))),
an 60 53 59,
mv 61 60,
gm 62 61 true 1,
og 63 61 true (.p (.nilchk (t 62))),
og 64 61 true (.p (.fieldAt 1 (t 63))),
og 65 61 true (.r (.load 1 false (t 64))),
og 66 61 true (.p (.idxSl 1 (t 65) (i 0))),
og 67 61 true (.r (.load 1 false (t 66))),
og 68 61 true (.p (.bin .eql (t 67) (s [120]))),
an 69 61 68,
mv 70 69,
gm 71 70 true 1,
og 72 70 true (.p (.nilchk (t 71))),
og 73 70 true (.p (.fieldAt 2 (t 72))),
og 74 70 true (.r (.load 1 false (t 73))),
og 75 70 true (.p (.idxSl 1 (t 74) (i 0))),
og 76 70 true (.r (.load 1 false (t 75))),
an 77 70 76,
mv 78 77,
gm 79 78 true 6,
og 80 78 true (.p (.bin .eql (t 79) (i 11))),
an 81 78 80,
mv 82 81,
gm 83 82 true 5,
og 84 82 true (.p (.bin .eql (t 83) (i 39))),
an 85 82 84,
mv 0 85])
.ret))))⟩
theorem c15:Mir.compF Tryz.prog Tryz.f15=some g15:=by kernel_rfl
def g16:Mir.Fn:=⟨158,[(.tmp 2),(.tmp 3),(.tmp 4)],
(.seq
(.ops [oa 1 (.box (t 0)),
op 2 (.mv (.c .nilptr)),
op 3 (.mv (i 0)),
op 4 (.mv (i 0))])
(.seq
(.ops [oa 15 .mkMap,
op 16 (.build [.nilsl,.nilsl,.nilsl] []),
oa 17 (.box (t 16)),
oa 18 .mkMap,
op 19 (.build [.nilmap,.nilptr,.nilmap,.nilsl,(.int .i64 0),(.int .i64 0)] [(0,(1,(t 15))),(1,(1,(t 17))),(2,(1,(t 18)))]),
oa 20 (.box (t 19)),
mv 5 20])
(.seq
(.ops [mv 21 5,
fa 22 3 1,
ld 23 1 22,
ca 24 30 [(t 21),(t 23)]])
(.seq
(.ops [mv 25 5,
fa 26 3 1,
ld 27 1 26,
ca 28 31 [(t 25),(t 27)]])
(.seq
(.ops [op 6 (.mv (i 0))])
(.seq
(.seq
(.ops [fa 29 3 1,
ld 30 1 29,
op 31 (.lenSl (t 30)),
op 32 (.mv (i 0))])
(.block 0 (.loop (.seq
(.ops [op 33 (.bin .lss (t 32) (t 31))])
(.seq
(.cond (t 33)
.skip
(.exit 0))
(.seq
(.block 1 (.seq
(.ops [op 34 (.idxSl 4 (t 30) (t 32)),
la 35 4 34,
oa 8 (.alloc [(.str []),(.str []),(.int .i64 0),.nilsl]),
st 4 8 35])
(.seq
(.ops [mv 36 5,
la 37 4 8,
mv 38 6,
ca 39 32 [(t 36),(t 37),(t 38)]])
(.seq
(.ops [fa 40 0 8,
ld 41 1 40,
op 42 (.bin .eql (t 41) (s [102,117,110,99]))])
(.cond (t 42)
(.ops [mv 43 6,
op 44 (.bin .add (t 43) (i 1)),
mv 6 44])
.skip)))))
(.ops [op 45 (.bin .add (t 32) (i 1)),
mv 32 45])))))))
(.seq
(.seq
(.ops [mv 46 5,
nc 47 46,
fa 48 5 47,
ld 49 1 48,
op 50 (.bin .neq (t 49) (i 0))])
(.cond (t 50)
(.seq
(.draw [mv 51 5,
dp 52 1 (.nilchk (t 51)),
df 53 2 4 52,
dl 54 3 1 53,
dm 55 4 5,
dp 56 5 (.nilchk (t 55)),
df 57 6 5 56,
dl 58 7 1 57,
dp 2 8 (.mv (.c .nilptr)),
dm 3 9 54,
dm 4 10 58])
.ret)
.skip))
(.seq
(.seq
(.ops [mv 59 5,
nc 60 59,
fa 61 1 60,
ld 62 1 61,
nc 63 62,
fa 64 0 63,
ld 65 1 64,
op 66 (.lenSl (t 65)),
op 67 (.mv (i 0))])
(.block 2 (.loop (.seq
(.ops [op 68 (.bin .lss (t 67) (t 66))])
(.seq
(.cond (t 68)
.skip
(.exit 2))
(.seq
(.block 3 (.seq
(.ops [mv 69 67,
op 70 (.idxSl 7 (t 65) (t 67)),
la 71 7 70,
oa 10 (.alloc [(.str []),.nilsl,.nilsl,(.str []),(.str []),(.int .i64 0),.nilsl]),
mv 9 69,
st 7 10 71])
(.seq
(.ops [fa 72 1 10,
ld 73 1 72,
op 74 (.lenSl (t 73)),
op 75 (.mv (i 0))])
(.block 4 (.loop (.seq
(.ops [op 76 (.bin .lss (t 75) (t 74))])
(.seq
(.cond (t 76)
.skip
(.exit 4))
(.seq
(.block 5 (.seq
(.ops [op 77 (.idxSl 1 (t 73) (t 75)),
ld 78 1 77,
mv 12 78])
(.draw [mv 79 5,
dp 80 1 (.nilchk (t 79)),
df 81 2 1 80,
dl 82 3 1 81,
dp 83 4 (.nilchk (t 82)),
df 84 5 0 83,
dl 85 6 1 84,
dm 86 7 9,
dm 87 8 5,
dp 88 9 (.nilchk (t 87)),
df 89 10 1 88,
dl 90 11 1 89,
dp 91 12 (.nilchk (t 90)),
df 92 13 0 91,
dl 93 14 1 92,
dm 94 15 9,
dp 95 16 (.idxSl 7 (t 93) (t 94)),
df 96 17 2 95,
dl 97 18 1 96,
dm 98 19 5,
dp 99 20 (.nilchk (t 98)),
df 100 21 2 99,
dl 101 22 1 100,
dm 102 23 9,
dm 103 24 12,
dp 104 25 (.build [(.int .i64 0),(.str [])] [(0,(1,(t 102))),(1,(1,(t 103)))]),
dk 105 26 (.r (.lookup (.agg [.int,.str]) (.bool false) false (t 101) (t 104))),
dk 106 27 (.a (.mkSl [(.bool false)] 1 1 [(0,(1,(t 105)))])),
⟨(some 107),none,(.h (.app 1 2 (t 97) (t 106))),28,[3,6]⟩,
dp 108 29 (.idxSl 7 (t 85) (t 86)),
df 109 30 2 108,
⟨none,none,(.h (.store 1 (t 109) (t 107))),31,[]⟩])))
(.ops [op 110 (.bin .add (t 75) (i 1)),
mv 75 110])))))))))
(.ops [op 111 (.bin .add (t 67) (i 1)),
mv 67 111])))))))
(.seq
(.draw [mv 112 5,
dp 113 1 (.nilchk (t 112)),
df 114 2 1 113,
dl 115 3 1 114,
dm 116 4 5,
dp 117 5 (.nilchk (t 116)),
df 118 6 3 117,
dl 119 7 1 118,
dp 120 8 (.nilchk (t 115)),
df 121 9 1 120,
⟨none,none,(.h (.store 1 (t 121) (t 119))),10,[]⟩])
(.seq
(.seq
(.ops [mv 122 5,
nc 123 122,
fa 124 3 123,
ld 125 1 124,
op 126 (.lenSl (t 125)),
op 127 (.mv (i 0))])
(.block 6 (.loop (.seq
(.ops [op 128 (.bin .lss (t 127) (t 126))])
(.seq
(.cond (t 128)
.skip
(.exit 6))
(.seq
(.block 7 (.seq
(.ops [op 129 (.idxSl 1 (t 125) (t 127)),
ld 130 1 129,
mv 14 130])
(.draw [mv 131 5,
dp 132 1 (.nilchk (t 131)),
df 133 2 1 132,
dl 134 3 1 133,
dm 135 4 5,
dp 136 5 (.nilchk (t 135)),
df 137 6 1 136,
dl 138 7 1 137,
dp 139 8 (.nilchk (t 138)),
df 140 9 2 139,
dl 141 10 1 140,
dm 142 11 5,
dp 143 12 (.nilchk (t 142)),
df 144 13 2 143,
dl 145 14 1 144,
dm 146 15 14,
dp 147 16 (.build [(.int .i64 0),(.str [])] [(0,(1,(.c (.int .i64 (-1))))),(1,(1,(t 146)))]),
dk 148 17 (.r (.lookup (.agg [.int,.str]) (.bool false) false (t 145) (t 147))),
dk 149 18 (.a (.mkSl [(.bool false)] 1 1 [(0,(1,(t 148)))])),
⟨(some 150),none,(.h (.app 1 2 (t 141) (t 149))),19,[3]⟩,
dp 151 20 (.nilchk (t 134)),
df 152 21 2 151,
⟨none,none,(.h (.store 1 (t 152) (t 150))),22,[]⟩])))
(.ops [op 153 (.bin .add (t 127) (i 1)),
mv 127 153])))))))
(.seq
(.ops [mv 154 5,
nc 155 154,
fa 156 1 155,
ld 157 1 156,
mv 2 157,
op 3 (.mv (i 0)),
op 4 (.mv (i 0))])
.ret)))))))))))⟩
theorem c16:Mir.compF Tryz.prog Tryz.f16=some g16:=by kernel_rfl
def g17:Mir.Fn:=⟨4,[(.tmp 2)],
(.seq
(.ops [oa 1 (.box (t 0)),
op 2 (.mv (.c .nilfn))])
(.seq
(.ops [op 3 (.mkFn 33 [] [(t 1)]),
mv 2 3])
.ret))⟩
theorem c17:Mir.compF Tryz.prog Tryz.f17=some g17:=by kernel_rfl
def g18:Mir.Fn:=⟨26,[(.tmp 4)],
(.seq
(.ops [op 4 (.mv (.c (.bool false)))])
(.seq
(.seq
(.ops [mv 6 0,
op 7 (.lenSl (t 6)),
mv 8 1,
op 9 (.lenSl (t 8)),
op 10 (.bin .neq (t 7) (t 9))])
(.cond (t 10)
(.seq
(.ops [op 4 (.mv (.c (.bool false)))])
.ret)
.skip))
(.seq
(.seq
(.ops [mv 11 0,
op 12 (.lenSl (t 11)),
op 13 (.mv (i 0))])
(.block 0 (.loop (.seq
(.ops [op 14 (.bin .lss (t 13) (t 12))])
(.seq
(.cond (t 14)
.skip
(.exit 0))
(.seq
(.block 1 (.seq
(.ops [mv 15 13,
mv 5 15])
(.seq
(.draw [mv 16 0,
dm 17 1 5,
dp 18 2 (.idxSl 1 (t 16) (t 17)),
dl 19 3 1 18,
dm 20 4 1,
dm 21 5 5,
dp 22 6 (.idxSl 1 (t 20) (t 21)),
dl 23 7 1 22,
dp 24 8 (.bin .neq (t 19) (t 23))])
(.cond (t 24)
(.seq
(.ops [op 4 (.mv (.c (.bool false)))])
.ret)
.skip))))
(.ops [op 25 (.bin .add (t 13) (i 1)),
mv 13 25])))))))
(.seq
(.ops [op 4 (.mv (.c (.bool true)))])
.ret))))⟩
theorem c18:Mir.compF Tryz.prog Tryz.f18=some g18:=by kernel_rfl
def g19:Mir.Fn:=⟨26,[(.tmp 4)],
(.seq
(.ops [op 4 (.mv (.c (.bool false)))])
(.seq
(.seq
(.ops [mv 6 0,
op 7 (.lenSl (t 6)),
mv 8 1,
op 9 (.lenSl (t 8)),
op 10 (.bin .neq (t 7) (t 9))])
(.cond (t 10)
(.seq
(.ops [op 4 (.mv (.c (.bool false)))])
.ret)
.skip))
(.seq
(.seq
(.ops [mv 11 0,
op 12 (.lenSl (t 11)),
op 13 (.mv (i 0))])
(.block 0 (.loop (.seq
(.ops [op 14 (.bin .lss (t 13) (t 12))])
(.seq
(.cond (t 14)
.skip
(.exit 0))
(.seq
(.block 1 (.seq
(.ops [mv 15 13,
mv 5 15])
(.seq
(.draw [mv 16 0,
dm 17 1 5,
dp 18 2 (.idxSl 1 (t 16) (t 17)),
dl 19 3 1 18,
dm 20 4 1,
dm 21 5 5,
dp 22 6 (.idxSl 1 (t 20) (t 21)),
dl 23 7 1 22,
dp 24 8 (.eq .bool true (t 19) (t 23))])
(.cond (t 24)
(.seq
(.ops [op 4 (.mv (.c (.bool false)))])
.ret)
.skip))))
(.ops [op 25 (.bin .add (t 13) (i 1)),
mv 13 25])))))))
(.seq
(.ops [op 4 (.mv (.c (.bool true)))])
.ret))))⟩
theorem c19:Mir.compF Tryz.prog Tryz.f19=some g19:=by kernel_rfl
def g20:Mir.Fn:=⟨28,[(.tmp 2),(.tmp 3),(.tmp 4)],
(.seq
(.ops [op 2 (.mv (.c .nilptr)),
op 3 (.mv (i 0)),
op 4 (.mv (i 0))])
(.seq
(.ops [mv 9 0,
ca 10 14 [(t 9)],
mv 8 10,
xt 11 8 0,
xt 12 8 1,
xt 13 8 2,
oa 5 (.alloc [(.str []),(.str []),(.int .i64 0),.nilsl]),
st 4 5 11,
mv 6 12,
mv 7 13])
(.seq
(.seq
(.ops [mv 14 7,
op 15 (.bin .neq (t 14) (i 0)),
mv 16 15,
og 17 16 false (.p (.fieldAt 0 (t 5))),
og 18 16 false (.r (.load 1 false (t 17))),
og 19 16 false (.p (.bin .neq (t 18) (s [112,114,111,103,114,97,109]))),
oo 20 16 19])
(.cond (t 20)
(.seq
(.ops [mv 21 6,
mv 22 7,
op 2 (.mv (.c .nilptr)),
mv 3 21,
mv 4 22])
.ret)
.skip))
(.seq
(.ops [la 23 4 5,
ca 24 16 [(t 23)],
xt 25 24 0,
xt 26 24 1,
xt 27 24 2,
mv 2 25,
mv 3 26,
mv 4 27])
.ret))))⟩
theorem c20:Mir.compF Tryz.prog Tryz.f20=some g20:=by kernel_rfl
def g21:Mir.Fn:=⟨32,[(.tmp 0)],
(.seq
(.ops [op 0 (.mv (.c (.bool false)))])
(.seq
(.ops [ca 8 14 [(s [66,69,71,73,78,123,120,61,97,32,98,43,49,125])],
mv 7 8,
xt 9 7 0,
xt 10 7 1,
xt 11 7 2,
oa 1 (.alloc [(.str []),(.str []),(.int .i64 0),.nilsl]),
st 4 1 9,
mv 2 10,
mv 3 11])
(.seq
(.ops [ca 13 14 [(s [66,69,71,73,78,123,120,61,125])],
mv 12 13,
xt 14 12 0,
xt 15 12 1,
xt 16 12 2,
oa 4 (.alloc [(.str []),(.str []),(.int .i64 0),.nilsl]),
st 4 4 14,
mv 5 15,
mv 6 16])
(.seq
(.ops [mv 17 3,
op 18 (.bin .eql (t 17) (i 0)),
mv 19 18,
og 20 19 true (.r (.load 4 true (t 1))),
og 21 19 true (.h (.call (.c (.fn 35 [] [])) [(t 20)])),
og 22 19 true (.p (.bin .eql (t 21) (s [40,112,114,111,103,114,97,109,32,40,98,101,103,105,110,32,40,98,108,111,99,107,32,40,101,120,112,114,32,40,97,115,115,105,103,110,32,49,58,61,32,40,118,97,114,32,49,58,120,41,32,40,99,97,116,32,40,118,97,114,32,49,58,97,41,32,40,97,100,100,32,40,118,97,114,32,49,58,98,41,32,40,110,117,109,32,49,58,49,41,41,41,41,41,41,41,41]))),
an 23 19 22,
mv 24 23,
gm 25 24 true 6,
og 26 24 true (.p (.bin .eql (t 25) (i 9))),
an 27 24 26,
mv 28 27,
gm 29 28 true 5,
og 30 28 true (.p (.bin .eql (t 29) (i 8))),
an 31 28 30,
mv 0 31])
.ret))))⟩
theorem c21:Mir.compF Tryz.prog Tryz.f21=some g21:=by kernel_rfl
def g22:Mir.Fn:=⟨24,[(.tmp 4)],
(.seq
(.ops [oa 2 (.box (t 0)),
oa 3 (.box (t 1)),
op 4 (.mv (.c (.bool false)))])
(.seq
(.ops [fa 5 0 2,
ld 6 1 5,
fa 7 0 3,
ld 8 1 7,
op 9 (.bin .eql (t 6) (t 8)),
mv 10 9,
og 11 10 true (.p (.fieldAt 1 (t 2))),
og 12 10 true (.r (.load 1 false (t 11))),
og 13 10 true (.p (.fieldAt 1 (t 3))),
og 14 10 true (.r (.load 1 false (t 13))),
og 15 10 true (.p (.bin .eql (t 12) (t 14))),
an 16 10 15,
mv 17 16,
og 18 17 true (.p (.fieldAt 3 (t 2))),
og 19 17 true (.r (.load 1 false (t 18))),
og 20 17 true (.p (.fieldAt 3 (t 3))),
og 21 17 true (.r (.load 1 false (t 20))),
og 22 17 true (.h (.call (.c (.fn 36 [] [])) [(t 19),(t 21),(.c (.fn 22 [] []))])),
an 23 17 22,
mv 4 23])
.ret))⟩
theorem c22:Mir.compF Tryz.prog Tryz.f22=some g22:=by kernel_rfl
def g24:Mir.Fn:=⟨39,[(.tmp 2),(.tmp 3),(.tmp 4)],
(.seq
(.ops [op 2 (.mv (.c .nilsl)),
op 3 (.mv (i 0)),
op 4 (.mv (i 0))])
(.seq
(.seq
(.ops [mv 7 0,
op 8 (.lenStr (t 7)),
op 9 (.bin .gtr (t 8) (i 4000))])
(.cond (t 9)
(.seq
(.ops [op 2 (.mv (.c .nilsl)),
op 3 (.mv (i 0)),
op 4 (.mv (i 12))])
.ret)
.skip))
(.seq
(.ops [mv 10 0,
op 11 (.build [(.str []),(.int .i64 0),.nilsl] [(0,(1,(t 10)))]),
oa 12 (.box (t 11)),
mv 5 12])
(.seq
(.block 0 (.loop (.seq
(.seq
(.ops [mv 13 5,
nc 14 13,
fa 15 1 14,
ld 16 1 15,
mv 17 0,
op 18 (.lenStr (t 17)),
op 19 (.bin .lss (t 16) (t 18))])
(.cond (t 19)
.skip
(.exit 0)))
(.block 1 (.seq
(.ops [mv 20 5,
ca 21 37 [(t 20)],
mv 6 21])
(.seq
(.ops [mv 22 6,
op 23 (.bin .neq (t 22) (i 0))])
(.cond (t 23)
(.seq
(.draw [mv 24 5,
dp 25 1 (.nilchk (t 24)),
df 26 2 1 25,
dl 27 3 1 26,
dm 28 4 6,
dp 2 5 (.mv (.c .nilsl)),
dm 3 6 27,
dm 4 7 28])
.ret)
.skip)))))))
(.seq
(.ops [mv 29 5,
mv 30 5,
nc 31 30,
fa 32 1 31,
ld 33 1 32,
ca 34 38 [(t 29),(i 0),(s []),(t 33)]])
(.seq
(.ops [mv 35 5,
nc 36 35,
fa 37 2 36,
ld 38 1 37,
mv 2 38,
op 3 (.mv (i 0)),
op 4 (.mv (i 0))])
.ret))))))⟩
theorem c24:Mir.compF Tryz.prog Tryz.f24=some g24:=by kernel_rfl
def g25:Mir.Fn:=⟨8,[(.cell 4 4 true)],
(.seq
(.ops [oa 4 (.alloc [(.str []),(.str []),(.int .i64 0),.nilsl])])
(.seq
(.ops [mv 5 0,
mv 6 1,
op 7 (.build [(.str []),(.str []),(.int .i64 0),.nilsl] [(0,(1,(t 5))),(3,(1,(t 6)))]),
st 4 4 7])
.ret))⟩
theorem c25:Mir.compF Tryz.prog Tryz.f25=some g25:=by kernel_rfl
def g26:Mir.Fn:=⟨22,[(.tmp 4)],
(.seq
(.ops [op 4 (.mv (.c (.bool false)))])
(.seq
(.ops [mv 6 0,
ca 7 27 [(t 6)],
oa 5 (.alloc [(.int .i64 0),(.str []),(.int .i64 0)]),
st 3 5 7])
(.seq
(.ops [fa 8 0 5,
ld 9 1 8,
op 10 (.bin .eql (t 9) (i 8)),
mv 11 10,
og 12 11 false (.p (.fieldAt 0 (t 5))),
og 13 11 false (.r (.load 1 false (t 12))),
og 14 11 false (.p (.bin .eql (t 13) (i 7))),
oo 15 11 14,
mv 16 15,
gm 17 16 true 1,
og 18 16 true (.p (.fieldAt 1 (t 5))),
og 19 16 true (.r (.load 1 false (t 18))),
og 20 16 true (.h (.call (.c (.fn 39 [] [])) [(t 17),(t 19)])),
an 21 16 20,
mv 4 21])
.ret)))⟩
theorem c26:Mir.compF Tryz.prog Tryz.f26=some g26:=by kernel_rfl
def g27:Mir.Fn:=⟨19,[(.cell 2 3 true)],
(.seq
(.ops [oa 2 (.alloc [(.int .i64 0),(.str []),(.int .i64 0)])])
(.seq
(.seq
(.ops [mv 3 0,
nc 4 3,
fa 5 4 4,
ld 6 1 5,
op 7 (.bin .neq (t 6) (i 0))])
(.cond (t 7)
(.seq
(.ops [op 8 (.build [(.int .i64 0),(.str []),(.int .i64 0)] []),
st 3 2 8])
.ret)
.skip))
(.seq
(.draw [mv 9 0,
dp 10 1 (.nilchk (t 9)),
df 11 2 0 10,
dl 12 3 1 11,
dm 13 4 0,
dp 14 5 (.nilchk (t 13)),
df 15 6 1 14,
dl 16 7 1 15,
dp 17 8 (.idxSl 3 (t 12) (t 16)),
dk 18 9 (.r (.load 3 true (t 17))),
⟨none,none,(.h (.store 3 (t 2) (t 18))),10,[]⟩])
.ret)))⟩
theorem c27:Mir.compF Tryz.prog Tryz.f27=some g27:=by kernel_rfl
def g28:Mir.Fn:=⟨27,[],
(.seq
(.draw [mv 2 0,
dp 3 1 (.nilchk (t 2)),
df 4 2 4 3,
dl 5 3 1 4,
dp 6 4 (.bin .eql (t 5) (i 0)),
dm 7 5 6,
⟨(some 8),(some (7,true)),(.p (.mv (t 0))),6,[]⟩,
⟨(some 9),(some (7,true)),(.p (.nilchk (t 8))),7,[]⟩,
⟨(some 10),(some (7,true)),(.p (.fieldAt 1 (t 9))),8,[]⟩,
⟨(some 11),(some (7,true)),(.r (.load 1 false (t 10))),9,[]⟩,
⟨(some 12),(some (7,true)),(.p (.mv (t 0))),10,[]⟩,
⟨(some 13),(some (7,true)),(.p (.nilchk (t 12))),11,[]⟩,
⟨(some 14),(some (7,true)),(.p (.fieldAt 0 (t 13))),12,[]⟩,
⟨(some 15),(some (7,true)),(.r (.load 1 false (t 14))),13,[]⟩,
⟨(some 16),(some (7,true)),(.p (.lenSl (t 15))),14,[]⟩,
⟨(some 17),(some (7,true)),(.p (.bin .sub (t 16) (i 1))),15,[]⟩,
⟨(some 18),(some (7,true)),(.p (.bin .lss (t 11) (t 17))),16,[]⟩,
dp 19 17 (.pick (t 7) (t 18) (.c (.bool false)))])
(.cond (t 19)
(.ops [mv 20 0,
nc 21 20,
fa 22 1 21,
ld 23 1 22,
op 24 (.bin .add (t 23) (i 1)),
nc 25 20,
fa 26 1 25,
st 1 26 24])
.skip))⟩
theorem c28:Mir.compF Tryz.prog Tryz.f28=some g28:=by kernel_rfl
def g29:Mir.Fn:=⟨122,[(.cell 2 4 true)],
(.seq
(.ops [oa 2 (.alloc [(.str []),(.str []),(.int .i64 0),.nilsl])])
(.seq
(.block 0 (.seq
(.ops [mv 7 0,
ca 8 40 [(t 7),(s [66,69,71,73,78])],
mv 6 8])
(.cond (t 6)
(.seq
(.ops [mv 9 0,
ca 10 41 [(t 9)],
oa 11 (.mkSl [(.str []),(.str []),(.int .i64 0),.nilsl] 4 1 [(0,(4,(t 10)))]),
ca 12 25 [(s [98,101,103,105,110]),(t 11)],
st 4 2 12])
.ret)
(.seq
(.ops [mv 14 0,
ca 15 40 [(t 14),(s [69,78,68])],
mv 13 15])
(.cond (t 13)
(.seq
(.ops [mv 16 0,
ca 17 41 [(t 16)],
oa 18 (.mkSl [(.str []),(.str []),(.int .i64 0),.nilsl] 4 1 [(0,(4,(t 17)))]),
ca 19 25 [(s [101,110,100]),(t 18)],
st 4 2 19])
.ret)
(.seq
(.ops [mv 21 0,
ca 22 40 [(t 21),(s [102,117,110,99,116,105,111,110])],
mv 20 22])
(.cond (t 20)
(.seq
(.ops [mv 23 0,
oa 24 (.mkSl [(.int .i64 0)] 1 2 [(0,(1,(i 5))),(1,(1,(i 6)))]),
ca 25 43 [(t 23),(t 24)],
ca 26 42 [(s [102,117,110,99]),(t 25),(.c .nilsl)],
oa 3 (.alloc [(.str []),(.str []),(.int .i64 0),.nilsl]),
st 4 3 26])
(.seq
(.ops [mv 27 0,
ca 28 44 [(t 27),(s [40])]])
(.seq
(.ops [mv 29 0,
ca 30 45 [(t 29)]])
(.seq
(.block 1 (.loop (.seq
(.seq
(.ops [mv 31 0,
nc 32 31,
fa 33 4 32,
ld 34 1 33,
op 35 (.bin .eql (t 34) (i 0)),
mv 36 35,
gm 37 36 true 0,
og 38 36 true (.a (.mkSl [(.str [])] 1 1 [(0,(1,(s [41])))])),
og 39 36 true (.h (.call (.c (.fn 26 [] [])) [(t 37),(t 38)])),
og 40 36 true (.p (.un .not (t 39))),
an 41 36 40])
(.cond (t 41)
.skip
(.exit 1)))
(.block 2 (.seq
(.seq
(.ops [fa 42 3 3,
ld 43 1 42,
op 44 (.lenSl (t 43)),
op 45 (.bin .gtr (t 44) (i 0))])
(.cond (t 45)
(.seq
(.ops [mv 46 0,
ca 47 44 [(t 46),(s [44])]])
(.ops [mv 48 0,
ca 49 45 [(t 48)]]))
.skip))
(.seq
(.draw [fa 50 3 3,
dl 51 1 1 50,
dm 52 2 0,
dk 53 3 (.a (.mkSl [(.int .i64 0)] 1 1 [(0,(1,(i 5)))])),
⟨(some 54),none,(.h (.call (.c (.fn 43 [] [])) [(t 52),(t 53)])),4,[1]⟩,
⟨(some 55),none,(.h (.call (.c (.fn 42 [] [])) [(s [112,97,114,97,109]),(t 54),(.c .nilsl)])),5,[1]⟩,
dk 56 6 (.a (.mkSl [(.str []),(.str []),(.int .i64 0),.nilsl] 4 1 [(0,(4,(t 55)))])),
dk 57 7 (.h (.app 4 64 (t 51) (t 56))),
df 58 8 3 3,
⟨none,none,(.h (.store 1 (t 58) (t 57))),9,[]⟩])
(.ops [mv 59 0,
ca 60 45 [(t 59)]])))))))
(.seq
(.ops [mv 61 0,
ca 62 44 [(t 61),(s [41])]])
(.seq
(.ops [mv 63 0,
ca 64 45 [(t 63)]])
(.seq
(.draw [fa 65 3 3,
dl 66 1 1 65,
dm 67 2 0,
⟨(some 68),none,(.h (.call (.c (.fn 41 [] [])) [(t 67)])),3,[1]⟩,
dk 69 4 (.a (.mkSl [(.str []),(.str []),(.int .i64 0),.nilsl] 4 1 [(0,(4,(t 68)))])),
dk 70 5 (.h (.app 4 64 (t 66) (t 69))),
df 71 6 3 3,
⟨none,none,(.h (.store 1 (t 71) (t 70))),7,[]⟩])
(.seq
(.ops [la 72 4 3,
st 4 2 72])
.ret))))))))
(.seq
(.ops [mv 74 0,
oa 75 (.mkSl [(.str [])] 1 1 [(0,(1,(s [123])))]),
ca 76 26 [(t 74),(t 75)],
mv 73 76])
(.cond (t 73)
(.seq
(.ops [ca 77 25 [(s [97,108,119,97,121,115]),(.c .nilsl)],
mv 78 0,
ca 79 41 [(t 78)],
oa 80 (.mkSl [(.str []),(.str []),(.int .i64 0),.nilsl] 4 2 [(0,(4,(t 77))),(4,(4,(t 79)))]),
ca 81 25 [(s [114,117,108,101]),(t 80)],
st 4 2 81])
.ret)
.skip)))))))))
(.seq
(.ops [mv 82 0,
ca 83 46 [(t 82)],
oa 84 (.mkSl [(.str []),(.str []),(.int .i64 0),.nilsl] 4 1 [(0,(4,(t 83)))]),
ca 85 25 [(s [114,117,108,101]),(t 84)],
oa 4 (.alloc [(.str []),(.str []),(.int .i64 0),.nilsl]),
st 4 4 85])
(.seq
(.seq
(.ops [mv 86 0,
oa 87 (.mkSl [(.str [])] 1 1 [(0,(1,(s [123])))]),
ca 88 26 [(t 86),(t 87)]])
(.cond (t 88)
(.seq
(.draw [fa 89 3 4,
dl 90 1 1 89,
dm 91 2 0,
⟨(some 92),none,(.h (.call (.c (.fn 41 [] [])) [(t 91)])),3,[1]⟩,
dk 93 4 (.a (.mkSl [(.str []),(.str []),(.int .i64 0),.nilsl] 4 1 [(0,(4,(t 92)))])),
dk 94 5 (.h (.app 4 64 (t 90) (t 93))),
df 95 6 3 4,
⟨none,none,(.h (.store 1 (t 95) (t 94))),7,[]⟩])
(.seq
(.ops [la 96 4 4,
st 4 2 96])
.ret))
.skip))
(.seq
(.seq
(.ops [mv 97 0,
ca 98 27 [(t 97)],
oa 5 (.alloc [(.int .i64 0),(.str []),(.int .i64 0)]),
st 3 5 98])
(.seq
(.ops [fa 99 0 5,
ld 100 1 99,
op 101 (.bin .neq (t 100) (i 1)),
mv 102 101,
og 103 102 true (.p (.fieldAt 0 (t 5))),
og 104 102 true (.r (.load 1 false (t 103))),
og 105 102 true (.p (.bin .neq (t 104) (i 0))),
an 106 102 105,
mv 107 106,
gm 108 107 true 0,
og 109 107 true (.a (.mkSl [(.str [])] 1 1 [(0,(1,(s [59])))])),
og 110 107 true (.h (.call (.c (.fn 26 [] [])) [(t 108),(t 109)])),
og 111 107 true (.p (.un .not (t 110))),
an 112 107 111])
(.cond (t 112)
(.ops [mv 113 0,
ca 114 47 [(t 113)]])
.skip)))
(.seq
(.draw [fa 115 3 4,
dl 116 1 1 115,
⟨(some 117),none,(.h (.call (.c (.fn 25 [] [])) [(s [100,101,102,97,117,108,116]),(.c .nilsl)])),2,[1]⟩,
dk 118 3 (.a (.mkSl [(.str []),(.str []),(.int .i64 0),.nilsl] 4 1 [(0,(4,(t 117)))])),
dk 119 4 (.h (.app 4 64 (t 116) (t 118))),
df 120 5 3 4,
⟨none,none,(.h (.store 1 (t 120) (t 119))),6,[]⟩])
(.seq
(.ops [la 121 4 4,
st 4 2 121])
.ret)))))))⟩
theorem c29:Mir.compF Tryz.prog Tryz.f29=some g29:=by kernel_rfl
def g30:Mir.Fn:=⟨94,[],
(.seq
(.ops [mv 11 1,
op 12 (.lenSl (t 11)),
op 13 (.mv (i 0))])
(.block 0 (.loop (.seq
(.ops [op 14 (.bin .lss (t 13) (t 12))])
(.seq
(.cond (t 14)
.skip
(.exit 0))
(.seq
(.block 1 (.seq
(.ops [op 15 (.idxSl 4 (t 11) (t 13)),
la 16 4 15,
oa 5 (.alloc [(.str []),(.str []),(.int .i64 0),.nilsl]),
st 4 5 16])
(.seq
(.seq
(.ops [fa 17 0 5,
ld 18 1 17,
op 19 (.bin .neq (t 18) (s [102,117,110,99]))])
(.cond (t 19)
(.exit 1)
.skip))
(.seq
(.draw [fa 20 1 5,
dl 21 1 1 20,
df 22 2 3 5,
dl 23 3 1 22,
df 24 4 3 5,
dl 25 5 1 24,
dp 26 6 (.lenSl (t 25)),
dp 27 7 (.bin .sub (t 26) (i 1)),
dp 28 8 (.idxSl 4 (t 23) (t 27)),
dk 29 9 (.r (.load 4 true (t 28))),
dp 30 10 (.build [(.str []),.nilsl,.nilsl,(.str []),(.str []),(.int .i64 0),.nilsl] [(0,(1,(t 21))),(3,(4,(t 29)))]),
dk 6 11 (.a (.alloc [(.str []),.nilsl,.nilsl,(.str []),(.str []),(.int .i64 0),.nilsl])),
⟨none,none,(.h (.store 7 (t 6) (t 30))),12,[]⟩])
(.seq
(.seq
(.ops [fa 31 3 5,
ld 32 1 31,
fa 33 3 5,
ld 34 1 33,
op 35 (.lenSl (t 34)),
op 36 (.bin .sub (t 35) (i 1)),
op 37 (.subSl 4 (t 32) none (some (t 36))),
op 38 (.lenSl (t 37)),
op 39 (.mv (i 0))])
(.block 2 (.loop (.seq
(.ops [op 40 (.bin .lss (t 39) (t 38))])
(.seq
(.cond (t 40)
.skip
(.exit 2))
(.seq
(.block 3 (.seq
(.ops [op 41 (.idxSl 4 (t 37) (t 39)),
la 42 4 41,
oa 8 (.alloc [(.str []),(.str []),(.int .i64 0),.nilsl]),
st 4 8 42])
(.ops [fa 43 1 6,
ld 44 1 43,
fa 45 1 8,
ld 46 1 45,
oa 47 (.mkSl [(.str [])] 1 1 [(0,(1,(t 46)))]),
ok 48 (.h (.app 1 16 (t 44) (t 47))),
fa 49 1 6,
st 1 49 48])))
(.ops [op 50 (.bin .add (t 39) (i 1)),
mv 39 50])))))))
(.seq
(.seq
(.draw [mv 52 0,
dp 53 1 (.nilchk (t 52)),
df 54 2 0 53,
dl 55 3 1 54,
df 56 4 1 5,
dl 57 5 1 56,
dk 58 6 (.r (.lookup (.one .str) (.int .i64 0) true (t 55) (t 57))),
dm 51 7 58,
dp 59 8 (.ext (t 51) 0),
dp 60 9 (.ext (t 51) 1),
dm 9 10 59,
dm 10 11 60])
(.seq
(.ops [mv 61 10,
op 62 (.un .not (t 61))])
(.cond (t 62)
(.draw [mv 63 0,
dp 64 1 (.nilchk (t 63)),
df 65 2 0 64,
dl 66 3 1 65,
df 67 4 1 5,
dl 68 5 1 67,
dm 69 6 0,
dp 70 7 (.nilchk (t 69)),
df 71 8 1 70,
dl 72 9 1 71,
dp 73 10 (.nilchk (t 72)),
df 74 11 0 73,
dl 75 12 1 74,
dp 76 13 (.lenSl (t 75)),
⟨none,none,(.h (.mapUpd (.one .str) (t 66) (t 68) (t 76))),14,[]⟩])
.skip)))
(.draw [mv 77 0,
dp 78 1 (.nilchk (t 77)),
df 79 2 1 78,
dl 80 3 1 79,
dm 81 4 0,
dp 82 5 (.nilchk (t 81)),
df 83 6 1 82,
dl 84 7 1 83,
dp 85 8 (.nilchk (t 84)),
df 86 9 0 85,
dl 87 10 1 86,
dk 88 11 (.r (.load 7 true (t 6))),
dk 89 12 (.a (.mkSl [(.str []),.nilsl,.nilsl,(.str []),(.str []),(.int .i64 0),.nilsl] 7 1 [(0,(7,(t 88)))])),
⟨(some 90),none,(.h (.app 7 128 (t 87) (t 89))),13,[3]⟩,
dp 91 14 (.nilchk (t 80)),
df 92 15 0 91,
⟨none,none,(.h (.store 1 (t 92) (t 90))),16,[]⟩])))))))
(.ops [op 93 (.bin .add (t 13) (i 1)),
mv 13 93])))))))⟩
theorem c30:Mir.compF Tryz.prog Tryz.f30=some g30:=by kernel_rfl
def g31:Mir.Fn:=⟨128,[],
(.seq
(.ops [oa 2 (.box (t 0))])
(.seq
(.ops [oa 4 (.alloc [(.bool false)]),
⟨none,none,(.h (.store 1 (t 4) (.c (.bool true)))),0,[]⟩])
(.block 0 (.loop (.seq
(.seq
(.ops [ld 20 1 4])
(.cond (t 20)
.skip
(.exit 0)))
(.seq
(.block 1 (.seq
(.ops [⟨none,none,(.h (.store 1 (t 4) (.c (.bool false)))),0,[]⟩])
(.seq
(.ops [op 21 (.mkFn 48 [] [(t 2),(t 4)]),
oa 5 (.alloc [.nilfn]),
st 1 5 21])
(.seq
(.ops [mv 22 1,
op 23 (.lenSl (t 22)),
op 24 (.mv (i 0))])
(.block 2 (.loop (.seq
(.ops [op 25 (.bin .lss (t 24) (t 23))])
(.seq
(.cond (t 25)
.skip
(.exit 2))
(.seq
(.block 3 (.seq
(.ops [op 26 (.idxSl 4 (t 22) (t 24)),
la 27 4 26,
oa 7 (.alloc [(.str []),(.str []),(.int .i64 0),.nilsl]),
st 4 7 27])
(.seq
(.ops [ld 28 1 2,
la 29 4 7,
ca 30 49 [(t 28),(t 29)],
oa 8 (.alloc [(.int .i64 0)]),
st 1 8 30])
(.seq
(.ops [la 31 4 7,
ca 32 17 [(t 31)]])
(.block 4 (.rangeFn (t 32) [33,34] (.ops [oa 10 (.alloc [(.str []),(.str []),(.int .i64 0),.nilsl]),
st 4 10 34]) (.block 5 (.seq
(.seq
(.ops [la 36 4 10,
ca 37 50 [(t 36)],
mv 35 37,
xt 38 35 0,
xt 39 35 1,
mv 11 38,
mv 12 39])
(.seq
(.ops [mv 40 12])
(.cond (t 40)
(.draw [ld 41 1 5,
dl 42 1 1 2,
dl 43 2 1 8,
dm 44 3 11,
⟨(some 45),none,(.h (.call (.c (.fn 51 [] [])) [(t 42),(t 43),(t 44)])),4,[0]⟩,
dk 46 5 (.h (.call (t 41) [(t 45)]))])
.skip)))
(.seq
(.draw [ld 48 1 2,
dp 49 1 (.nilchk (t 48)),
df 50 2 0 49,
dl 51 3 1 50,
df 52 4 1 10,
dl 53 5 1 52,
dk 54 6 (.r (.lookup (.one .str) (.int .i64 0) true (t 51) (t 53))),
dm 47 7 54,
dp 55 8 (.ext (t 47) 0),
dp 56 9 (.ext (t 47) 1),
dm 13 10 55,
dm 14 11 56])
(.seq
(.seq
(.ops [fa 57 0 10,
ld 58 1 57,
op 59 (.bin .neq (t 58) (s [99,97,108,108])),
mv 60 59,
gm 61 60 false 14,
og 62 60 false (.p (.un .not (t 61))),
oo 63 60 62])
(.cond (t 63)
(.exit 5)
.skip))
(.seq
(.ops [ld 64 1 2,
nc 65 64,
fa 66 1 65,
ld 67 1 66,
nc 68 67,
fa 69 0 68,
ld 70 1 69,
mv 71 13,
op 72 (.idxSl 7 (t 70) (t 71)),
la 73 7 72,
oa 15 (.alloc [(.str []),.nilsl,.nilsl,(.str []),(.str []),(.int .i64 0),.nilsl]),
st 7 15 73])
(.seq
(.ops [fa 74 3 10,
ld 75 1 74,
fa 76 3 10,
ld 77 1 76,
op 78 (.lenSl (t 77)),
fa 79 1 15,
ld 80 1 79,
op 81 (.lenSl (t 80)),
op 82 (.mnmx false (t 78) [(t 81)]),
op 83 (.subSl 4 (t 75) none (some (t 82))),
op 84 (.lenSl (t 83)),
op 85 (.mv (i 0))])
(.block 6 (.loop (.seq
(.ops [op 86 (.bin .lss (t 85) (t 84))])
(.seq
(.cond (t 86)
.skip
(.exit 6))
(.seq
(.block 7 (.seq
(.ops [mv 87 85,
op 88 (.idxSl 4 (t 83) (t 85)),
la 89 4 88,
oa 17 (.alloc [(.str []),(.str []),(.int .i64 0),.nilsl]),
mv 16 87,
st 4 17 89])
(.seq
(.seq
(.ops [fa 90 0 17,
ld 91 1 90,
op 92 (.bin .neq (t 91) (s [118,97,114]))])
(.cond (t 92)
(.exit 7)
.skip))
(.seq
(.draw [mv 93 13,
df 94 1 1 15,
dl 95 2 1 94,
dm 96 3 16,
dp 97 4 (.idxSl 1 (t 95) (t 96)),
dl 98 5 1 97,
dp 99 6 (.build [(.int .i64 0),(.str [])] [(0,(1,(t 93))),(1,(1,(t 98)))]),
dl 100 7 1 2,
dl 101 8 1 8,
df 102 9 1 17,
dl 103 10 1 102,
⟨(some 104),none,(.h (.call (.c (.fn 51 [] [])) [(t 100),(t 101),(t 103)])),11,[2,5]⟩,
dk 18 12 (.a (.alloc [(.int .i64 0),(.str [])])),
dk 19 13 (.a (.alloc [(.int .i64 0),(.str [])])),
⟨none,none,(.h (.store 2 (t 18) (t 99))),14,[]⟩,
⟨none,none,(.h (.store 2 (t 19) (t 104))),15,[]⟩])
(.seq
(.draw [ld 105 1 2,
dp 106 1 (.nilchk (t 105)),
df 107 2 2 106,
dl 108 3 1 107,
dk 109 4 (.r (.load 2 true (t 18))),
dk 110 5 (.r (.lookup (.agg [.int,.str]) (.bool false) false (t 108) (t 109))),
dm 111 6 110,
⟨(some 112),(some (111,false)),(.r (.load 1 false (t 2))),7,[]⟩,
⟨(some 113),(some (111,false)),(.p (.nilchk (t 112))),8,[]⟩,
⟨(some 114),(some (111,false)),(.p (.fieldAt 2 (t 113))),9,[]⟩,
⟨(some 115),(some (111,false)),(.r (.load 1 false (t 114))),10,[]⟩,
⟨(some 116),(some (111,false)),(.r (.load 2 true (t 19))),11,[]⟩,
⟨(some 117),(some (111,false)),(.r (.lookup (.agg [.int,.str]) (.bool false) false (t 115) (t 116))),12,[]⟩,
dp 118 13 (.pick (t 111) (.c (.bool true)) (t 117))])
(.cond (t 118)
(.seq
(.ops [ld 119 1 5,
la 120 2 18,
ok 121 (.h (.call (t 119) [(t 120)]))])
(.ops [ld 122 1 5,
la 123 2 19,
ok 124 (.h (.call (t 122) [(t 123)]))]))
.skip))))))
(.ops [op 125 (.bin .add (t 85) (i 1)),
mv 85 125]))))))))))))))))))
(.ops [op 126 (.bin .add (t 24) (i 1)),
mv 24 126]))))))))))
(.seq
(.ops [ld 127 1 4])
(.ops [oa 4 (.alloc [(.bool false)]),
st 1 4 127]))))))))⟩
theorem c31:Mir.compF Tryz.prog Tryz.f31=some g31:=by kernel_rfl
def g32:Mir.Fn:=⟨94,[],
(.seq
(.ops [oa 4 (.box (t 1))])
(.seq
(.seq
(.ops [fa 11 0 4,
ld 12 1 11,
op 13 (.bin .neq (t 12) (s [102,117,110,99]))])
(.cond (t 13)
(.seq
(.ops [mv 14 0,
la 15 4 4,
fa 16 0 4,
ld 17 1 16,
op 18 (.bin .eql (t 17) (s [114,117,108,101])),
op 19 (.build [(.bool false),(.bool false),(.bool false)] [(2,(1,(t 18)))]),
ca 20 52 [(t 14),(.c (.int .i64 (-1))),(t 15),(t 19)]])
.ret)
.skip))
(.seq
(.seq
(.draw [mv 21 0,
dp 22 1 (.nilchk (t 21)),
df 23 2 0 22,
dl 24 3 1 23,
df 25 4 1 4,
dl 26 5 1 25,
dk 27 6 (.r (.lookup (.one .str) (.int .i64 0) false (t 24) (t 26))),
dm 28 7 2,
dp 29 8 (.bin .neq (t 27) (t 28))])
(.cond (t 29)
(.seq
(.ops [mv 30 0,
fa 31 2 4,
ld 32 1 31,
ca 33 53 [(t 30),(t 32),(i 11)]])
.ret)
.skip))
(.seq
(.ops [mv 34 0,
nc 35 34,
fa 36 1 35,
ld 37 1 36,
nc 38 37,
fa 39 0 38,
ld 40 1 39,
mv 41 2,
op 42 (.idxSl 7 (t 40) (t 41)),
la 43 7 42,
oa 6 (.alloc [(.str []),.nilsl,.nilsl,(.str []),(.str []),(.int .i64 0),.nilsl]),
st 7 6 43])
(.seq
(.seq
(.ops [fa 44 3 4,
ld 45 1 44,
fa 46 3 4,
ld 47 1 46,
op 48 (.lenSl (t 47)),
op 49 (.bin .sub (t 48) (i 1)),
op 50 (.subSl 4 (t 45) none (some (t 49))),
op 51 (.lenSl (t 50)),
op 52 (.mv (i 0))])
(.block 0 (.loop (.seq
(.ops [op 53 (.bin .lss (t 52) (t 51))])
(.seq
(.cond (t 53)
.skip
(.exit 0))
(.seq
(.block 1 (.seq
(.ops [mv 54 52,
op 55 (.idxSl 4 (t 50) (t 52)),
la 56 4 55,
oa 8 (.alloc [(.str []),(.str []),(.int .i64 0),.nilsl]),
mv 7 54,
st 4 8 56])
(.seq
(.draw [mv 58 0,
dp 59 1 (.nilchk (t 58)),
df 60 2 0 59,
dl 61 3 1 60,
df 62 4 1 8,
dl 63 5 1 62,
dk 64 6 (.r (.lookup (.one .str) (.int .i64 0) true (t 61) (t 63))),
dm 57 7 64,
dp 65 8 (.ext (t 57) 0),
dp 66 9 (.ext (t 57) 1),
dm 9 10 65,
dm 10 11 66])
(.seq
(.draw [mv 67 10,
dm 68 1 67,
⟨(some 69),(some (68,false)),(.p (.fieldAt 1 (t 6))),2,[]⟩,
⟨(some 70),(some (68,false)),(.r (.load 1 false (t 69))),3,[]⟩,
⟨(some 71),(some (68,false)),(.p (.mv (t 7))),4,[]⟩,
⟨(some 72),(some (68,false)),(.p (.subSl 1 (t 70) none (some (t 71)))),5,[]⟩,
⟨(some 73),(some (68,false)),(.p (.fieldAt 1 (t 8))),6,[]⟩,
⟨(some 74),(some (68,false)),(.r (.load 1 false (t 73))),7,[]⟩,
⟨(some 75),(some (68,false)),(.h (.call (.c (.fn 39 [] [])) [(t 72),(t 74)])),8,[]⟩,
dp 76 9 (.pick (t 68) (.c (.bool true)) (t 75)),
dm 77 10 76,
⟨(some 78),(some (77,false)),(.r (.load 1 false (.glob 0))),11,[]⟩,
⟨(some 79),(some (77,false)),(.p (.fieldAt 1 (t 8))),12,[]⟩,
⟨(some 80),(some (77,false)),(.r (.load 1 false (t 79))),13,[]⟩,
⟨(some 81),(some (77,false)),(.h (.call (.c (.fn 39 [] [])) [(t 78),(t 80)])),14,[]⟩,
dp 82 15 (.pick (t 77) (.c (.bool true)) (t 81))])
(.cond (t 82)
(.ops [mv 83 0,
fa 84 2 8,
ld 85 1 84,
ca 86 53 [(t 83),(t 85),(i 11)]])
.skip)))))
(.ops [op 87 (.bin .add (t 52) (i 1)),
mv 52 87])))))))
(.ops [mv 88 0,
mv 89 2,
fa 90 3 6,
la 91 4 90,
op 92 (.build [(.bool false),(.bool false),(.bool false)] [(1,(1,(.c (.bool true))))]),
ca 93 52 [(t 88),(t 89),(t 91),(t 92)]]))))))⟩
theorem c32:Mir.compF Tryz.prog Tryz.f32=some g32:=by kernel_rfl
def g33:Mir.Fn:=⟨6,[],
(.ops [la 3 4 1,
mv 4 0,
ca 5 34 [(t 3),(i 0),(t 4)]])⟩
theorem c33:Mir.compF Tryz.prog Tryz.f33=some g33:=by kernel_rfl
def g34:Mir.Fn:=⟨28,[(.tmp 6)],
(.seq
(.ops [oa 3 (.box (t 0)),
op 6 (.mv (.c (.bool false)))])
(.seq
(.seq
(.ops [mv 9 2,
mv 10 1,
la 11 4 3,
ok 12 (.h (.call (t 9) [(t 10),(t 11)])),
op 13 (.un .not (t 12))])
(.cond (t 13)
(.seq
(.ops [op 6 (.mv (.c (.bool false)))])
.ret)
.skip))
(.seq
(.seq
(.ops [fa 14 3 3,
ld 15 1 14,
op 16 (.lenSl (t 15)),
op 17 (.mv (i 0))])
(.block 0 (.loop (.seq
(.ops [op 18 (.bin .lss (t 17) (t 16))])
(.seq
(.cond (t 18)
.skip
(.exit 0))
(.seq
(.block 1 (.seq
(.ops [op 19 (.idxSl 4 (t 15) (t 17)),
la 20 4 19,
oa 8 (.alloc [(.str []),(.str []),(.int .i64 0),.nilsl]),
st 4 8 20])
(.seq
(.ops [la 21 4 8,
mv 22 1,
op 23 (.bin .add (t 22) (i 1)),
mv 24 2,
ca 25 34 [(t 21),(t 23),(t 24)],
op 26 (.un .not (t 25))])
(.cond (t 26)
(.seq
(.ops [op 6 (.mv (.c (.bool false)))])
.ret)
.skip))))
(.ops [op 27 (.bin .add (t 17) (i 1)),
mv 17 27])))))))
(.seq
(.ops [op 6 (.mv (.c (.bool true)))])
.ret))))⟩
theorem c34:Mir.compF Tryz.prog Tryz.f34=some g34:=by kernel_rfl
def g35:Mir.Fn:=⟨7,[(.tmp 2)],
(.seq
(.ops [oa 1 (.box (t 0)),
op 2 (.mv (s []))])
(.seq
(.ops [oa 3 (.allocW [.nilptr,.nilsl])])
(.seq
(.ops [la 4 4 1,
ca 5 54 [(t 3),(t 4)]])
(.seq
(.ops [ca 6 55 [(t 3)],
mv 2 6])
.ret))))⟩
theorem c35:Mir.compF Tryz.prog Tryz.f35=some g35:=by kernel_rfl
def g36:Mir.Fn:=⟨32,[(.tmp 6)],
(.seq
(.ops [op 6 (.mv (.c (.bool false)))])
(.seq
(.seq
(.ops [mv 10 0,
op 11 (.lenSl (t 10)),
mv 12 1,
op 13 (.lenSl (t 12)),
op 14 (.bin .neq (t 11) (t 13))])
(.cond (t 14)
(.seq
(.ops [op 6 (.mv (.c (.bool false)))])
.ret)
.skip))
(.seq
(.seq
(.ops [mv 15 0,
op 16 (.lenSl (t 15)),
op 17 (.mv (i 0))])
(.block 0 (.loop (.seq
(.ops [op 18 (.bin .lss (t 17) (t 16))])
(.seq
(.cond (t 18)
.skip
(.exit 0))
(.seq
(.block 1 (.seq
(.ops [mv 19 17,
op 20 (.idxSl 4 (t 15) (t 17)),
la 21 4 20,
oa 8 (.alloc [(.str []),(.str []),(.int .i64 0),.nilsl]),
mv 7 19,
st 4 8 21])
(.seq
(.ops [mv 22 1,
mv 23 7,
op 24 (.idxSl 4 (t 22) (t 23)),
la 25 4 24,
oa 9 (.alloc [(.str []),(.str []),(.int .i64 0),.nilsl]),
st 4 9 25])
(.seq
(.ops [mv 26 2,
la 27 4 8,
la 28 4 9,
ok 29 (.h (.call (t 26) [(t 27),(t 28)])),
op 30 (.un .not (t 29))])
(.cond (t 30)
(.seq
(.ops [op 6 (.mv (.c (.bool false)))])
.ret)
.skip)))))
(.ops [op 31 (.bin .add (t 17) (i 1)),
mv 17 31])))))))
(.seq
(.ops [op 6 (.mv (.c (.bool true)))])
.ret))))⟩
theorem c36:Mir.compF Tryz.prog Tryz.f36=some g36:=by kernel_rfl
def g37:Mir.Fn:=⟨96,[(.tmp 2)],
(.seq
(.ops [op 2 (.mv (i 0))])
(.seq
(.draw [mv 4 0,
dp 5 1 (.nilchk (t 4)),
df 6 2 0 5,
dl 7 3 1 6,
dm 8 4 0,
dp 9 5 (.nilchk (t 8)),
df 10 6 1 9,
dl 11 7 1 10,
dp 12 8 (.idxStr (t 7) (t 11)),
dm 3 9 12])
(.seq
(.block 0 (.seq
(.seq
(.ops [mv 16 3,
op 17 (.bin .eql (t 16) (u 32)),
mv 15 17])
(.cond (t 15)
.skip
(.seq
(.ops [mv 18 3,
op 19 (.bin .eql (t 18) (u 9)),
mv 15 19])
(.cond (t 15)
.skip
(.ops [mv 20 3,
op 21 (.bin .eql (t 20) (u 13)),
mv 15 21])))))
(.cond (t 15)
(.ops [mv 22 0,
nc 23 22,
fa 24 1 23,
ld 25 1 24,
op 26 (.bin .add (t 25) (i 1)),
nc 27 22,
fa 28 1 27,
st 1 28 26])
(.seq
(.ops [mv 30 3,
op 31 (.bin .eql (t 30) (u 35)),
mv 29 31])
(.cond (t 29)
(.ops [mv 32 0,
ca 33 56 [(t 32),(.c (.fn 57 [] []))]])
(.seq
(.ops [mv 35 3,
op 36 (.bin .eql (t 35) (u 92)),
mv 37 36,
gm 38 37 true 0,
og 39 37 true (.h (.call (.c (.fn 58 [] [])) [(t 38),(i 1)])),
og 40 37 true (.p (.bin .eql (t 39) (u 10))),
an 41 37 40,
mv 34 41])
(.cond (t 34)
(.ops [mv 42 0,
nc 43 42,
fa 44 1 43,
ld 45 1 44,
op 46 (.bin .add (t 45) (i 2)),
nc 47 42,
fa 48 1 47,
st 1 48 46])
(.seq
(.ops [mv 50 3,
op 51 (.bin .eql (t 50) (u 10)),
mv 49 51])
(.cond (t 49)
(.seq
(.ops [mv 52 0,
mv 53 0,
nc 54 53,
fa 55 1 54,
ld 56 1 55,
ca 57 38 [(t 52),(i 1),(s []),(t 56)]])
(.ops [mv 58 0,
nc 59 58,
fa 60 1 59,
ld 61 1 60,
op 62 (.bin .add (t 61) (i 1)),
nc 63 58,
fa 64 1 63,
st 1 64 62]))
(.seq
(.seq
(.ops [mv 66 3,
ca 67 59 [(t 66)],
mv 65 67])
(.cond (t 65)
.skip
(.ops [mv 68 3,
op 69 (.bin .eql (t 68) (u 46)),
mv 70 69,
gm 71 70 true 0,
og 72 70 true (.h (.call (.c (.fn 58 [] [])) [(t 71),(i 1)])),
og 73 70 true (.h (.call (.c (.fn 59 [] [])) [(t 72)])),
an 74 70 73,
mv 65 74])))
(.cond (t 65)
(.ops [mv 75 0,
ca 76 60 [(t 75)]])
(.seq
(.ops [mv 78 3,
ca 79 61 [(t 78)],
mv 77 79])
(.cond (t 77)
(.ops [mv 80 0,
ca 81 62 [(t 80)]])
(.seq
(.ops [mv 83 3,
op 84 (.bin .eql (t 83) (u 34)),
mv 82 84])
(.cond (t 82)
(.seq
(.ops [mv 85 0,
ca 86 63 [(t 85),(i 3),(u 34),(.c (.fn 64 [] []))],
mv 2 86])
.ret)
(.seq
(.ops [mv 88 3,
op 89 (.bin .eql (t 88) (u 47)),
mv 90 89,
gm 91 90 true 0,
og 92 90 true (.h (.call (.c (.fn 65 [] [])) [(t 91)])),
an 93 90 92,
mv 87 93])
(.cond (t 87)
(.seq
(.ops [mv 94 0,
ca 95 63 [(t 94),(i 4),(u 47),(.c (.fn 66 [] []))],
mv 2 95])
.ret)
(.seq
(.ops [mv 13 0,
ca 14 67 [(t 13)],
mv 2 14])
.ret))))))))))))))))))
(.seq
(.ops [op 2 (.mv (i 0))])
.ret))))⟩
theorem c37:Mir.compF Tryz.prog Tryz.f37=some g37:=by kernel_rfl
def g38:Mir.Fn:=⟨21,[],
(.ops [mv 8 0,
mv 9 0,
nc 10 9,
fa 11 2 10,
ld 12 1 11,
mv 13 1,
mv 14 2,
mv 15 3,
op 16 (.build [(.int .i64 0),(.str []),(.int .i64 0)] [(0,(1,(t 13))),(1,(1,(t 14))),(2,(1,(t 15)))]),
oa 17 (.mkSl [(.int .i64 0),(.str []),(.int .i64 0)] 3 1 [(0,(3,(t 16)))]),
ok 18 (.h (.app 3 32 (t 12) (t 17))),
nc 19 8,
fa 20 2 19,
st 1 20 18])⟩
theorem c38:Mir.compF Tryz.prog Tryz.f38=some g38:=by kernel_rfl
def g39:Mir.Fn:=⟨9,[(.tmp 4)],
(.seq
(.ops [op 4 (.mv (.c (.bool false)))])
(.seq
(.ops [mv 5 0,
mv 6 1,
ca 7 68 [(t 5),(t 6)],
op 8 (.bin .geq (t 7) (i 0)),
mv 4 8])
.ret))⟩
theorem c39:Mir.compF Tryz.prog Tryz.f39=some g39:=by kernel_rfl
def g40:Mir.Fn:=⟨12,[(.tmp 4)],
(.seq
(.ops [op 4 (.mv (.c (.bool false)))])
(.seq
(.seq
(.ops [mv 5 0,
mv 6 1,
oa 7 (.mkSl [(.str [])] 1 1 [(0,(1,(t 6)))]),
ca 8 26 [(t 5),(t 7)],
op 9 (.un .not (t 8))])
(.cond (t 9)
(.seq
(.ops [op 4 (.mv (.c (.bool false)))])
.ret)
.skip))
(.seq
(.ops [mv 10 0,
ca 11 28 [(t 10)]])
(.seq
(.ops [op 4 (.mv (.c (.bool true)))])
.ret))))⟩
theorem c40:Mir.compF Tryz.prog Tryz.f40=some g40:=by kernel_rfl
def g41:Mir.Fn:=⟨33,[(.cell 2 4 true)],
(.seq
(.ops [oa 2 (.alloc [(.str []),(.str []),(.int .i64 0),.nilsl])])
(.seq
(.ops [ca 4 25 [(s [98,108,111,99,107]),(.c .nilsl)],
oa 3 (.alloc [(.str []),(.str []),(.int .i64 0),.nilsl]),
st 4 3 4])
(.seq
(.ops [mv 5 0,
ca 6 44 [(t 5),(s [123])]])
(.seq
(.block 0 (.loop (.seq
(.seq
(.ops [mv 7 0,
nc 8 7,
fa 9 4 8,
ld 10 1 9,
op 11 (.bin .eql (t 10) (i 0))])
(.cond (t 11)
.skip
(.exit 0)))
(.block 1 (.seq
(.block 2 (.loop (.seq
(.seq
(.ops [mv 12 0,
oa 13 (.mkSl [(.str [])] 1 1 [(0,(1,(s [59])))]),
ca 14 26 [(t 12),(t 13)],
mv 15 14,
gm 16 15 false 0,
og 17 15 false (.h (.call (.c (.fn 27 [] [])) [(t 16)])),
og 18 15 false (.p (.field 0 1 false (t 17))),
og 19 15 false (.p (.bin .eql (t 18) (i 1))),
oo 20 15 19])
(.cond (t 20)
.skip
(.exit 2)))
(.block 3 (.ops [mv 21 0,
ca 22 28 [(t 21)]])))))
(.seq
(.seq
(.ops [mv 23 0,
ca 24 40 [(t 23),(s [125])]])
(.cond (t 24)
(.exit 0)
.skip))
(.draw [fa 25 3 3,
dl 26 1 1 25,
dm 27 2 0,
⟨(some 28),none,(.h (.call (.c (.fn 69 [] [])) [(t 27)])),3,[1]⟩,
dk 29 4 (.a (.mkSl [(.str []),(.str []),(.int .i64 0),.nilsl] 4 1 [(0,(4,(t 28)))])),
dk 30 5 (.h (.app 4 64 (t 26) (t 29))),
df 31 6 3 3,
⟨none,none,(.h (.store 1 (t 31) (t 30))),7,[]⟩])))))))
(.seq
(.ops [la 32 4 3,
st 4 2 32])
.ret)))))⟩
theorem c41:Mir.compF Tryz.prog Tryz.f41=some g41:=by kernel_rfl
def g42:Mir.Fn:=⟨14,[(.cell 6 4 true)],
(.seq
(.ops [oa 4 (.box (t 1)),
oa 6 (.alloc [(.str []),(.str []),(.int .i64 0),.nilsl])])
(.seq
(.ops [mv 7 0,
fa 8 1 4,
ld 9 1 8,
fa 10 2 4,
ld 11 1 10,
mv 12 2,
op 13 (.build [(.str []),(.str []),(.int .i64 0),.nilsl] [(0,(1,(t 7))),(1,(1,(t 9))),(2,(1,(t 11))),(3,(1,(t 12)))]),
st 4 6 13])
.ret))⟩
theorem c42:Mir.compF Tryz.prog Tryz.f42=some g42:=by kernel_rfl
def g43:Mir.Fn:=⟨19,[(.cell 4 3 true)],
(.seq
(.ops [oa 4 (.alloc [(.int .i64 0),(.str []),(.int .i64 0)])])
(.seq
(.ops [mv 6 0,
ca 7 27 [(t 6)],
oa 5 (.alloc [(.int .i64 0),(.str []),(.int .i64 0)]),
st 3 5 7])
(.seq
(.seq
(.ops [mv 8 1,
fa 9 0 5,
ld 10 1 9,
ca 11 70 [(t 8),(t 10)],
op 12 (.un .not (t 11))])
(.cond (t 12)
(.seq
(.ops [mv 13 0,
ca 14 47 [(t 13)]])
(.seq
(.ops [op 15 (.build [(.int .i64 0),(.str []),(.int .i64 0)] []),
st 3 4 15])
.ret))
.skip))
(.seq
(.ops [mv 16 0,
ca 17 28 [(t 16)]])
(.seq
(.ops [la 18 3 5,
st 3 4 18])
.ret)))))⟩
theorem c43:Mir.compF Tryz.prog Tryz.f43=some g43:=by kernel_rfl
def g44:Mir.Fn:=⟨10,[],
(.seq
(.ops [mv 4 0,
mv 5 1,
ca 6 40 [(t 4),(t 5)],
op 7 (.un .not (t 6))])
(.cond (t 7)
(.ops [mv 8 0,
ca 9 47 [(t 8)]])
.skip))⟩
theorem c44:Mir.compF Tryz.prog Tryz.f44=some g44:=by kernel_rfl
def g45:Mir.Fn:=⟨8,[],
(.block 0 (.loop (.seq
(.seq
(.ops [mv 2 0,
ca 3 27 [(t 2)],
op 4 (.field 0 1 false (t 3)),
op 5 (.bin .eql (t 4) (i 1))])
(.cond (t 5)
.skip
(.exit 0)))
(.block 1 (.ops [mv 6 0,
ca 7 28 [(t 6)]])))))⟩
theorem c45:Mir.compF Tryz.prog Tryz.f45=some g45:=by kernel_rfl
def g46:Mir.Fn:=⟨56,[(.cell 2 4 true)],
(.seq
(.ops [oa 2 (.alloc [(.str []),(.str []),(.int .i64 0),.nilsl])])
(.seq
(.ops [mv 6 0,
ca 7 71 [(t 6)]])
(.seq
(.ops [mv 8 0,
⟨none,none,(.h (.dfr (.c (.fn 72 [] [])) [(t 8)])),0,[]⟩])
(.seq
(.ops [mv 9 0,
ca 10 73 [(t 9)],
oa 3 (.alloc [(.str []),(.str []),(.int .i64 0),.nilsl]),
st 4 3 10])
(.seq
(.seq
(.ops [mv 11 0,
ca 12 40 [(t 11),(s [63])]])
(.cond (t 12)
(.seq
(.ops [mv 13 0,
ca 14 45 [(t 13)]])
(.seq
(.ops [mv 15 0,
ca 16 46 [(t 15)],
oa 4 (.alloc [(.str []),(.str []),(.int .i64 0),.nilsl]),
st 4 4 16])
(.seq
(.ops [mv 17 0,
ca 18 45 [(t 17)]])
(.seq
(.ops [mv 19 0,
ca 20 44 [(t 19),(s [58])]])
(.seq
(.ops [mv 21 0,
ca 22 45 [(t 21)]])
(.seq
(.draw [la 23 4 3,
dk 24 1 (.r (.load 4 true (t 4))),
dm 25 2 0,
⟨(some 26),none,(.h (.call (.c (.fn 46 [] [])) [(t 25)])),3,[0,1]⟩,
dk 27 4 (.a (.mkSl [(.str []),(.str []),(.int .i64 0),.nilsl] 4 3 [(0,(4,(t 23))),(4,(4,(t 24))),(8,(4,(t 26)))])),
dk 28 5 (.h (.call (.c (.fn 25 [] [])) [(s [99,111,110,100]),(t 27)])),
⟨none,none,(.h (.store 4 (t 2) (t 28))),6,[]⟩])
.ret))))))
.skip))
(.seq
(.seq
(.ops [mv 29 0,
ca 30 27 [(t 29)],
oa 5 (.alloc [(.int .i64 0),(.str []),(.int .i64 0)]),
st 3 5 30])
(.seq
(.ops [la 31 4 3,
ca 32 74 [(t 31)],
mv 33 32,
og 34 33 true (.p (.fieldAt 0 (t 5))),
og 35 33 true (.r (.load 1 false (t 34))),
og 36 33 true (.p (.bin .eql (t 35) (i 8))),
an 37 33 36,
mv 38 37,
og 39 38 true (.a (.mkSl [(.str [])] 1 6 [(0,(1,(s [61]))),(1,(1,(s [43,61]))),(2,(1,(s [45,61]))),(3,(1,(s [42,61]))),(4,(1,(s [47,61]))),(5,(1,(s [37,61])))])),
og 40 38 true (.p (.fieldAt 1 (t 5))),
og 41 38 true (.r (.load 1 false (t 40))),
og 42 38 true (.h (.call (.c (.fn 39 [] [])) [(t 39),(t 41)])),
an 43 38 42])
(.cond (t 43)
(.seq
(.ops [mv 44 0,
ca 45 28 [(t 44)]])
(.seq
(.ops [mv 46 0,
ca 47 45 [(t 46)]])
(.seq
(.draw [fa 48 1 5,
dl 49 1 1 48,
dk 50 2 (.r (.load 4 true (t 3))),
dm 51 3 0,
⟨(some 52),none,(.h (.call (.c (.fn 46 [] [])) [(t 51)])),4,[1,2]⟩,
dk 53 5 (.a (.mkSl [(.str []),(.str []),(.int .i64 0),.nilsl] 4 2 [(0,(4,(t 50))),(4,(4,(t 52)))])),
dp 54 6 (.build [(.str []),(.str []),(.int .i64 0),.nilsl] [(0,(1,(s [97,115,115,105,103,110]))),(1,(1,(t 49))),(3,(1,(t 53)))]),
⟨none,none,(.h (.store 4 (t 2) (t 54))),7,[]⟩])
.ret)))
.skip)))
(.seq
(.ops [la 55 4 3,
st 4 2 55])
.ret)))))))⟩
theorem c46:Mir.compF Tryz.prog Tryz.f46=some g46:=by kernel_rfl
def g47:Mir.Fn:=⟨39,[],
(.seq
(.ops [mv 3 0,
ca 4 27 [(t 3)],
oa 2 (.alloc [(.int .i64 0),(.str []),(.int .i64 0)]),
st 3 2 4])
(.block 0 (.seq
(.ops [mv 14 0,
nc 15 14,
fa 16 4 15,
ld 17 1 16,
op 18 (.bin .neq (t 17) (i 0)),
mv 13 18])
(.cond (t 13)
.skip
(.seq
(.seq
(.ops [fa 20 0 2,
ld 21 1 20,
op 22 (.bin .eql (t 21) (i 10)),
mv 19 22])
(.cond (t 19)
.skip
(.ops [fa 23 0 2,
ld 24 1 23,
op 25 (.bin .eql (t 24) (i 8)),
mv 26 25,
og 27 26 true (.p (.fieldAt 1 (t 2))),
og 28 26 true (.r (.load 1 false (t 27))),
og 29 26 true (.p (.bin .eql (t 28) (s [124]))),
an 30 26 29,
mv 19 30])))
(.cond (t 19)
(.draw [mv 31 0,
dm 32 1 0,
df 33 2 2 2,
dl 34 3 1 33,
dp 35 4 (.nilchk (t 31)),
df 36 5 4 35,
⟨none,none,(.h (.store 1 (t 36) (i 10))),6,[3]⟩,
dp 37 7 (.nilchk (t 32)),
df 38 8 5 37,
⟨none,none,(.h (.store 1 (t 38) (t 34))),9,[]⟩])
(.draw [mv 5 0,
dm 6 1 0,
df 7 2 2 2,
dl 8 3 1 7,
dp 9 4 (.nilchk (t 5)),
df 10 5 4 9,
⟨none,none,(.h (.store 1 (t 10) (i 9))),6,[3]⟩,
dp 11 7 (.nilchk (t 6)),
df 12 8 5 11,
⟨none,none,(.h (.store 1 (t 12) (t 8))),9,[]⟩])))))))⟩
theorem c47:Mir.compF Tryz.prog Tryz.f47=some g47:=by kernel_rfl
def g48:Mir.Fn:=⟨18,[],
(.seq
(.ops [oa 3 (.box (t 0))])
(.seq
(.draw [ld 4 1 1,
dp 5 1 (.nilchk (t 4)),
df 6 2 2 5,
dl 7 3 1 6,
dk 8 4 (.r (.load 2 true (t 3))),
dk 9 5 (.r (.lookup (.agg [.int,.str]) (.bool false) false (t 7) (t 8))),
dp 10 6 (.un .not (t 9))])
(.cond (t 10)
(.draw [ld 11 1 1,
dp 12 1 (.nilchk (t 11)),
df 13 2 2 12,
dl 14 3 1 13,
dk 15 4 (.r (.load 2 true (t 3))),
dk 16 5 (.h (.mapEntry (.agg [.int,.str]) (.bool false) (t 14) (t 15))),
dp 17 6 (.ext (t 16) 1),
⟨none,none,(.h (.entryStore (t 14) (t 17) (.c (.bool true)))),7,[]⟩,
⟨none,none,(.h (.store 1 (t 2) (.c (.bool true)))),8,[]⟩])
.skip)))⟩
theorem c48:Mir.compF Tryz.prog Tryz.f48=some g48:=by kernel_rfl
def g49:Mir.Fn:=⟨15,[(.tmp 4)],
(.seq
(.ops [oa 3 (.box (t 1)),
op 4 (.mv (i 0))])
(.seq
(.seq
(.ops [fa 5 0 3,
ld 6 1 5,
op 7 (.bin .eql (t 6) (s [102,117,110,99]))])
(.cond (t 7)
(.seq
(.draw [mv 8 0,
dp 9 1 (.nilchk (t 8)),
df 10 2 0 9,
dl 11 3 1 10,
df 12 4 1 3,
dl 13 5 1 12,
dk 14 6 (.r (.lookup (.one .str) (.int .i64 0) false (t 11) (t 13))),
dm 4 7 14])
.ret)
.skip))
(.seq
(.ops [op 4 (.mv (.c (.int .i64 (-1))))])
.ret)))⟩
theorem c49:Mir.compF Tryz.prog Tryz.f49=some g49:=by kernel_rfl
def g50:Mir.Fn:=⟨12,[(.tmp 2),(.tmp 3)],
(.seq
(.ops [oa 1 (.box (t 0)),
op 2 (.mv (s [])),
op 3 (.mv (.c (.bool false)))])
(.seq
(.seq
(.ops [fa 4 0 1,
ld 5 1 4])
(.block 0 (.seq
(.seq
(.ops [op 7 (.bin .eql (t 5) (s [105,110,100,101,120])),
mv 6 7])
(.cond (t 6)
.skip
(.seq
(.ops [op 8 (.bin .eql (t 5) (s [105,110])),
mv 6 8])
(.cond (t 6)
.skip
(.ops [op 9 (.bin .eql (t 5) (s [110,97,109,101])),
mv 6 9])))))
(.cond (t 6)
(.seq
(.ops [fa 10 1 1,
ld 11 1 10,
mv 2 11,
op 3 (.mv (.c (.bool true)))])
.ret)
.skip))))
(.seq
(.ops [op 2 (.mv (s [])),
op 3 (.mv (.c (.bool false)))])
.ret)))⟩
theorem c50:Mir.compF Tryz.prog Tryz.f50=some g50:=by kernel_rfl
def g51:Mir.Fn:=⟨29,[(.cell 6 2 true)],
(.seq
(.ops [oa 6 (.alloc [(.int .i64 0),(.str [])])])
(.seq
(.seq
(.ops [mv 7 1,
op 8 (.bin .geq (t 7) (i 0)),
mv 9 8,
gm 10 9 true 0,
og 11 9 true (.p (.nilchk (t 10))),
og 12 9 true (.p (.fieldAt 1 (t 11))),
og 13 9 true (.r (.load 1 false (t 12))),
og 14 9 true (.p (.nilchk (t 13))),
og 15 9 true (.p (.fieldAt 0 (t 14))),
og 16 9 true (.r (.load 1 false (t 15))),
gm 17 9 true 1,
og 18 9 true (.p (.idxSl 7 (t 16) (t 17))),
og 19 9 true (.p (.fieldAt 1 (t 18))),
og 20 9 true (.r (.load 1 false (t 19))),
gm 21 9 true 2,
og 22 9 true (.h (.call (.c (.fn 39 [] [])) [(t 20),(t 21)])),
an 23 9 22])
(.cond (t 23)
(.seq
(.ops [mv 24 1,
mv 25 2,
op 26 (.build [(.int .i64 0),(.str [])] [(0,(1,(t 24))),(1,(1,(t 25)))]),
st 2 6 26])
.ret)
.skip))
(.seq
(.ops [mv 27 2,
op 28 (.build [(.int .i64 0),(.str [])] [(0,(1,(.c (.int .i64 (-1))))),(1,(1,(t 27)))]),
st 2 6 28])
.ret)))⟩
theorem c51:Mir.compF Tryz.prog Tryz.f51=some g51:=by kernel_rfl
def g52:Mir.Fn:=⟨94,[],
(.seq
(.ops [oa 6 (.box (t 2)),
oa 7 (.box (t 3))])
(.seq
(.seq
(.ops [mv 10 0,
nc 11 10,
fa 12 5 11,
ld 13 1 12,
op 14 (.bin .neq (t 13) (i 0))])
(.cond (t 14)
.ret
.skip))
(.seq
(.seq
(.ops [fa 15 0 6,
ld 16 1 15])
(.block 0 (.seq
(.ops [op 18 (.bin .eql (t 16) (s [118,97,114])),
mv 17 18])
(.cond (t 17)
(.ops [mv 19 0,
mv 20 1,
la 21 4 6,
ca 22 75 [(t 19),(t 20),(t 21),(.c (.bool false))]])
(.seq
(.seq
(.ops [op 24 (.bin .eql (t 16) (s [105,110,100,101,120])),
mv 23 24])
(.cond (t 23)
.skip
(.seq
(.ops [op 25 (.bin .eql (t 16) (s [105,110])),
mv 23 25])
(.cond (t 23)
.skip
(.ops [op 26 (.bin .eql (t 16) (s [110,97,109,101])),
mv 23 26])))))
(.cond (t 23)
(.ops [mv 27 0,
mv 28 1,
la 29 4 6,
ca 30 75 [(t 27),(t 28),(t 29),(.c (.bool true))]])
(.seq
(.ops [op 32 (.bin .eql (t 16) (s [102,111,114,105,110])),
mv 31 32])
(.cond (t 31)
(.seq
(.ops [mv 33 0,
mv 34 1,
fa 35 1 6,
ld 36 1 35,
fa 37 2 6,
ld 38 1 37,
op 39 (.build [(.str []),(.str []),(.int .i64 0),.nilsl] [(0,(1,(s [118,97,114]))),(1,(1,(t 36))),(2,(1,(t 38)))]),
ca 40 75 [(t 33),(t 34),(t 39),(.c (.bool false))]])
(.ops [fa 41 0 7,
⟨none,none,(.h (.store 1 (t 41) (.c (.bool true)))),0,[]⟩]))
(.seq
(.seq
(.ops [op 43 (.bin .eql (t 16) (s [119,104,105,108,101])),
mv 42 43])
(.cond (t 42)
.skip
(.ops [op 44 (.bin .eql (t 16) (s [102,111,114])),
mv 42 44])))
(.cond (t 42)
(.ops [fa 45 0 7,
⟨none,none,(.h (.store 1 (t 45) (.c (.bool true)))),0,[]⟩])
(.seq
(.ops [op 47 (.bin .eql (t 16) (s [99,97,108,108])),
mv 46 47])
(.cond (t 46)
(.seq
(.ops [mv 48 0,
mv 49 1,
la 50 4 6,
la 51 3 7,
ca 52 76 [(t 48),(t 49),(t 50),(t 51)]])
.ret)
(.seq
(.seq
(.ops [op 54 (.bin .eql (t 16) (s [98,114,101,97,107])),
mv 53 54])
(.cond (t 53)
.skip
(.ops [op 55 (.bin .eql (t 16) (s [99,111,110,116,105,110,117,101])),
mv 53 55])))
(.cond (t 53)
(.seq
(.ops [fa 56 0 7,
ld 57 1 56,
op 58 (.un .not (t 57))])
(.cond (t 58)
(.ops [mv 59 0,
fa 60 2 6,
ld 61 1 60,
ca 62 53 [(t 59),(t 61),(i 9)]])
.skip))
(.seq
(.ops [op 64 (.bin .eql (t 16) (s [114,101,116,117,114,110])),
mv 63 64])
(.cond (t 63)
(.seq
(.ops [fa 65 1 7,
ld 66 1 65,
op 67 (.un .not (t 66))])
(.cond (t 67)
(.ops [mv 68 0,
fa 69 2 6,
ld 70 1 69,
ca 71 53 [(t 68),(t 70),(i 9)]])
.skip))
(.seq
(.ops [op 73 (.bin .eql (t 16) (s [110,101,120,116])),
mv 72 73])
(.cond (t 72)
(.seq
(.ops [fa 74 2 7,
ld 75 1 74,
op 76 (.un .not (t 75))])
(.cond (t 76)
(.ops [mv 77 0,
fa 78 2 6,
ld 79 1 78,
ca 80 53 [(t 77),(t 79),(i 9)]])
.skip))
.skip))))))))))))))))))
(.seq
(.ops [fa 81 3 6,
ld 82 1 81,
op 83 (.lenSl (t 82)),
op 84 (.mv (i 0))])
(.block 1 (.loop (.seq
(.ops [op 85 (.bin .lss (t 84) (t 83))])
(.seq
(.cond (t 85)
.skip
(.exit 1))
(.seq
(.block 2 (.seq
(.ops [op 86 (.idxSl 4 (t 82) (t 84)),
la 87 4 86,
oa 9 (.alloc [(.str []),(.str []),(.int .i64 0),.nilsl]),
st 4 9 87])
(.ops [mv 88 0,
mv 89 1,
la 90 4 9,
la 91 3 7,
ca 92 52 [(t 88),(t 89),(t 90),(t 91)]])))
(.ops [op 93 (.bin .add (t 84) (i 1)),
mv 84 93]))))))))))⟩
theorem c52:Mir.compF Tryz.prog Tryz.f52=some g52:=by kernel_rfl
def g53:Mir.Fn:=⟨19,[],
(.seq
(.ops [mv 6 0,
nc 7 6,
fa 8 5 7,
ld 9 1 8,
op 10 (.bin .eql (t 9) (i 0))])
(.cond (t 10)
(.ops [mv 11 0,
mv 12 0,
mv 13 2,
mv 14 1,
nc 15 11,
fa 16 5 15,
st 1 16 13,
nc 17 12,
fa 18 4 17,
st 1 18 14])
.skip))⟩
theorem c53:Mir.compF Tryz.prog Tryz.f53=some g53:=by kernel_rfl
def g54:Mir.Fn:=⟨44,[],
(.seq
(.ops [oa 3 (.box (t 1))])
(.seq
(.ops [mv 6 0,
ca 7 77 [(t 6),(u 40)]])
(.seq
(.ops [mv 8 0,
fa 9 0 3,
ld 10 1 9,
ca 11 78 [(t 8),(t 10)]])
(.seq
(.seq
(.ops [fa 12 1 3,
ld 13 1 12,
op 14 (.bin .neq (t 13) (s []))])
(.cond (t 14)
(.seq
(.ops [mv 15 0,
ca 16 77 [(t 15),(u 32)]])
(.seq
(.ops [mv 17 0,
fa 18 1 3,
ld 19 1 18,
op 20 (.lenStr (t 19)),
ca 21 79 [(t 20)],
ca 22 78 [(t 17),(t 21)]])
(.seq
(.ops [mv 23 0,
ca 24 77 [(t 23),(u 58)]])
(.ops [mv 25 0,
fa 26 1 3,
ld 27 1 26,
ca 28 78 [(t 25),(t 27)]]))))
.skip))
(.seq
(.seq
(.ops [fa 29 3 3,
ld 30 1 29,
op 31 (.lenSl (t 30)),
op 32 (.mv (i 0))])
(.block 0 (.loop (.seq
(.ops [op 33 (.bin .lss (t 32) (t 31))])
(.seq
(.cond (t 33)
.skip
(.exit 0))
(.seq
(.block 1 (.seq
(.ops [op 34 (.idxSl 4 (t 30) (t 32)),
la 35 4 34,
oa 5 (.alloc [(.str []),(.str []),(.int .i64 0),.nilsl]),
st 4 5 35])
(.seq
(.ops [mv 36 0,
ca 37 77 [(t 36),(u 32)]])
(.ops [mv 38 0,
la 39 4 5,
ca 40 54 [(t 38),(t 39)]]))))
(.ops [op 41 (.bin .add (t 32) (i 1)),
mv 32 41])))))))
(.ops [mv 42 0,
ca 43 77 [(t 42),(u 41)]]))))))⟩
theorem c54:Mir.compF Tryz.prog Tryz.f54=some g54:=by kernel_rfl
def g55:Mir.Fn:=⟨14,[(.tmp 2)],
(.seq
(.ops [op 2 (.mv (s []))])
(.seq
(.draw [mv 3 0,
dp 4 1 (.nilchk (t 3)),
df 5 2 1 4,
dl 6 3 1 5,
dp 7 4 (.dataSl (t 6)),
dm 8 5 0,
dp 9 6 (.nilchk (t 8)),
df 10 7 1 9,
dl 11 8 1 10,
dp 12 9 (.lenSl (t 11)),
dk 13 10 (.h (.ustr (t 7) (t 12))),
dm 2 11 13])
.ret))⟩
theorem c55:Mir.compF Tryz.prog Tryz.f55=some g55:=by kernel_rfl
def g56:Mir.Fn:=⟨34,[],
(.block 0 (.loop (.seq
(.seq
(.draw [mv 4 0,
dp 5 1 (.nilchk (t 4)),
df 6 2 1 5,
dl 7 3 1 6,
dm 8 4 0,
dp 9 5 (.nilchk (t 8)),
df 10 6 0 9,
dl 11 7 1 10,
dp 12 8 (.lenStr (t 11)),
dp 13 9 (.bin .lss (t 7) (t 12)),
dm 14 10 13,
⟨(some 15),(some (14,true)),(.p (.mv (t 1))),11,[]⟩,
⟨(some 16),(some (14,true)),(.p (.mv (t 0))),12,[]⟩,
⟨(some 17),(some (14,true)),(.p (.nilchk (t 16))),13,[]⟩,
⟨(some 18),(some (14,true)),(.p (.fieldAt 0 (t 17))),14,[]⟩,
⟨(some 19),(some (14,true)),(.r (.load 1 false (t 18))),15,[]⟩,
⟨(some 20),(some (14,true)),(.p (.mv (t 0))),16,[]⟩,
⟨(some 21),(some (14,true)),(.p (.nilchk (t 20))),17,[]⟩,
⟨(some 22),(some (14,true)),(.p (.fieldAt 1 (t 21))),18,[]⟩,
⟨(some 23),(some (14,true)),(.r (.load 1 false (t 22))),19,[]⟩,
⟨(some 24),(some (14,true)),(.p (.idxStr (t 19) (t 23))),20,[]⟩,
⟨(some 25),(some (14,true)),(.h (.call (t 15) [(t 24)])),21,[]⟩,
dp 26 22 (.pick (t 14) (t 25) (.c (.bool false)))])
(.cond (t 26)
.skip
(.exit 0)))
(.block 1 (.ops [mv 27 0,
nc 28 27,
fa 29 1 28,
ld 30 1 29,
op 31 (.bin .add (t 30) (i 1)),
nc 32 27,
fa 33 1 32,
st 1 33 31])))))⟩
theorem c56:Mir.compF Tryz.prog Tryz.f56=some g56:=by kernel_rfl
def g57:Mir.Fn:=⟨5,[(.tmp 2)],
(.seq
(.ops [op 2 (.mv (.c (.bool false)))])
(.seq
(.ops [mv 3 0,
op 4 (.bin .neq (t 3) (u 10)),
mv 2 4])
.ret))⟩
theorem c57:Mir.compF Tryz.prog Tryz.f57=some g57:=by kernel_rfl
def g58:Mir.Fn:=⟨28,[(.tmp 4)],
(.seq
(.ops [op 4 (.mv (u 0))])
(.seq
(.seq
(.draw [mv 5 0,
dp 6 1 (.nilchk (t 5)),
df 7 2 1 6,
dl 8 3 1 7,
dm 9 4 1,
dp 10 5 (.bin .add (t 8) (t 9)),
dm 11 6 0,
dp 12 7 (.nilchk (t 11)),
df 13 8 0 12,
dl 14 9 1 13,
dp 15 10 (.lenStr (t 14)),
dp 16 11 (.bin .geq (t 10) (t 15))])
(.cond (t 16)
(.seq
(.ops [op 4 (.mv (u 0))])
.ret)
.skip))
(.seq
(.draw [mv 17 0,
dp 18 1 (.nilchk (t 17)),
df 19 2 0 18,
dl 20 3 1 19,
dm 21 4 0,
dp 22 5 (.nilchk (t 21)),
df 23 6 1 22,
dl 24 7 1 23,
dm 25 8 1,
dp 26 9 (.bin .add (t 24) (t 25)),
dp 27 10 (.idxStr (t 20) (t 26)),
dm 4 11 27])
.ret)))⟩
theorem c58:Mir.compF Tryz.prog Tryz.f58=some g58:=by kernel_rfl
def g59:Mir.Fn:=⟨9,[(.tmp 2)],
(.seq
(.ops [op 2 (.mv (.c (.bool false)))])
(.seq
(.ops [mv 3 0,
op 4 (.bin .geq (t 3) (u 48)),
mv 5 4,
gm 6 5 true 0,
og 7 5 true (.p (.bin .leq (t 6) (u 57))),
an 8 5 7,
mv 2 8])
.ret))⟩
theorem c59:Mir.compF Tryz.prog Tryz.f59=some g59:=by kernel_rfl
end
section
open Mir.Ab
def g60:Mir.Fn:=⟨34,[],
(.seq
(.ops [mv 3 0,
nc 4 3,
fa 5 1 4,
ld 6 1 5,
mv 2 6])
(.seq
(.ops [mv 7 0,
ca 8 56 [(t 7),(.c (.fn 59 [] []))]])
(.seq
(.seq
(.ops [mv 9 0,
ca 10 58 [(t 9),(i 0)],
op 11 (.bin .eql (t 10) (u 46))])
(.cond (t 11)
(.seq
(.ops [mv 12 0,
nc 13 12,
fa 14 1 13,
ld 15 1 14,
op 16 (.bin .add (t 15) (i 1)),
nc 17 12,
fa 18 1 17,
st 1 18 16])
(.ops [mv 19 0,
ca 20 56 [(t 19),(.c (.fn 59 [] []))]]))
.skip))
(.draw [mv 21 0,
dm 22 1 0,
dp 23 2 (.nilchk (t 22)),
df 24 3 0 23,
dl 25 4 1 24,
dm 26 5 2,
dm 27 6 0,
dp 28 7 (.nilchk (t 27)),
df 29 8 1 28,
dl 30 9 1 29,
dp 31 10 (.subStr (t 25) (some (t 26)) (some (t 30))),
dm 32 11 2,
dk 33 12 (.h (.call (.c (.fn 38 [] [])) [(t 21),(i 2),(t 31),(t 32)]))]))))⟩
theorem c60:Mir.compF Tryz.prog Tryz.f60=some g60:=by kernel_rfl
def g61:Mir.Fn:=⟨21,[(.tmp 2)],
(.seq
(.ops [op 2 (.mv (.c (.bool false)))])
(.seq
(.ops [mv 3 0,
op 4 (.bin .geq (t 3) (u 97)),
mv 5 4,
gm 6 5 true 0,
og 7 5 true (.p (.bin .leq (t 6) (u 122))),
an 8 5 7,
mv 9 8,
gm 10 9 false 0,
og 11 9 false (.p (.bin .geq (t 10) (u 65))),
gm 12 9 false 11,
gm 13 12 true 0,
og 14 12 true (.p (.bin .leq (t 13) (u 90))),
og 15 9 false (.p (.pick (t 12) (t 14) (.c (.bool false)))),
oo 16 9 15,
mv 17 16,
gm 18 17 false 0,
og 19 17 false (.p (.bin .eql (t 18) (u 95))),
oo 20 17 19,
mv 2 20])
.ret))⟩
theorem c61:Mir.compF Tryz.prog Tryz.f61=some g61:=by kernel_rfl
def g62:Mir.Fn:=⟨56,[],
(.seq
(.ops [mv 4 0,
nc 5 4,
fa 6 1 5,
ld 7 1 6,
mv 2 7])
(.seq
(.ops [mv 8 0,
ca 9 56 [(t 8),(.c (.fn 80 [] []))]])
(.seq
(.draw [mv 10 0,
dp 11 1 (.nilchk (t 10)),
df 12 2 0 11,
dl 13 3 1 12,
dm 14 4 2,
dm 15 5 0,
dp 16 6 (.nilchk (t 15)),
df 17 7 1 16,
dl 18 8 1 17,
dp 19 9 (.subStr (t 13) (some (t 14)) (some (t 18))),
dm 3 10 19])
(.block 0 (.seq
(.ops [ok 25 (.r (.load 1 false (.glob 1))),
mv 26 3,
ca 27 39 [(t 25),(t 26)],
mv 24 27])
(.cond (t 24)
(.ops [mv 28 0,
mv 29 3,
mv 30 2,
ca 31 38 [(t 28),(i 7),(t 29),(t 30)]])
(.seq
(.ops [ok 33 (.r (.load 1 false (.glob 2))),
mv 34 3,
ca 35 39 [(t 33),(t 34)],
mv 32 35])
(.cond (t 32)
(.ops [mv 36 0,
mv 37 3,
mv 38 2,
ca 39 38 [(t 36),(i 9),(t 37),(t 38)]])
(.seq
(.ops [ok 41 (.r (.load 1 false (.glob 3))),
mv 42 3,
ca 43 39 [(t 41),(t 42)],
mv 40 43])
(.cond (t 40)
(.ops [mv 44 0,
mv 45 3,
mv 46 2,
ca 47 38 [(t 44),(i 10),(t 45),(t 46)]])
(.seq
(.ops [mv 49 0,
ca 50 58 [(t 49),(i 0)],
op 51 (.bin .eql (t 50) (u 40)),
mv 48 51])
(.cond (t 48)
(.ops [mv 52 0,
mv 53 3,
mv 54 2,
ca 55 38 [(t 52),(i 6),(t 53),(t 54)]])
(.ops [mv 20 0,
mv 21 3,
mv 22 2,
ca 23 38 [(t 20),(i 5),(t 21),(t 22)]])))))))))))))⟩
theorem c62:Mir.compF Tryz.prog Tryz.f62=some g62:=by kernel_rfl
def g63:Mir.Fn:=⟨103,[(.tmp 8)],
(.seq
(.ops [op 8 (.mv (i 0))])
(.seq
(.ops [mv 14 0,
nc 15 14,
fa 16 1 15,
ld 17 1 16,
mv 9 17])
(.seq
(.ops [oa 10 (.allocW [.nilptr,.nilsl])])
(.seq
(.ops [mv 18 0,
nc 19 18,
fa 20 1 19,
ld 21 1 20,
op 22 (.bin .add (t 21) (i 1)),
nc 23 18,
fa 24 1 23,
st 1 24 22])
(.block 0 (.loop (.seq
(.block 1 (.seq
(.ops [mv 32 0,
ca 33 58 [(t 32),(i 0)],
mv 11 33])
(.block 2 (.seq
(.seq
(.draw [mv 37 0,
dp 38 1 (.nilchk (t 37)),
df 39 2 1 38,
dl 40 3 1 39,
dm 41 4 0,
dp 42 5 (.nilchk (t 41)),
df 43 6 0 42,
dl 44 7 1 43,
dp 45 8 (.lenStr (t 44)),
dp 46 9 (.bin .geq (t 40) (t 45)),
dm 36 10 46])
(.cond (t 36)
.skip
(.ops [mv 47 11,
op 48 (.bin .eql (t 47) (u 10)),
mv 36 48])))
(.cond (t 36)
(.seq
(.ops [mv 49 0,
mv 50 9,
nc 51 49,
fa 52 1 51,
st 1 52 50])
(.seq
(.ops [op 8 (.mv (i 9))])
.ret))
(.seq
(.ops [mv 54 11,
mv 55 2,
op 56 (.bin .eql (t 54) (t 55)),
mv 53 56])
(.cond (t 53)
(.seq
(.ops [mv 57 0,
nc 58 57,
fa 59 1 58,
ld 60 1 59,
op 61 (.bin .add (t 60) (i 1)),
nc 62 57,
fa 63 1 62,
st 1 63 61])
(.seq
(.ops [mv 64 0,
mv 65 1,
ca 66 55 [(t 10)],
mv 67 9,
ca 68 38 [(t 64),(t 65),(t 66),(t 67)]])
(.seq
(.ops [op 8 (.mv (i 0))])
.ret)))
(.seq
(.ops [mv 70 11,
op 71 (.bin .eql (t 70) (u 92)),
mv 69 71])
(.cond (t 69)
(.seq
(.ops [mv 73 3,
mv 74 0,
ca 75 58 [(t 74),(i 1)],
ok 76 (.h (.call (t 73) [(t 75)])),
mv 72 76,
xt 77 72 0,
xt 78 72 1,
mv 12 77,
mv 13 78])
(.seq
(.seq
(.draw [mv 79 13,
dp 80 1 (.un .not (t 79)),
dm 81 2 80,
⟨(some 82),(some (81,false)),(.p (.mv (t 0))),3,[]⟩,
⟨(some 83),(some (81,false)),(.p (.nilchk (t 82))),4,[]⟩,
⟨(some 84),(some (81,false)),(.p (.fieldAt 1 (t 83))),5,[]⟩,
⟨(some 85),(some (81,false)),(.r (.load 1 false (t 84))),6,[]⟩,
⟨(some 86),(some (81,false)),(.p (.bin .add (t 85) (i 1))),7,[]⟩,
⟨(some 87),(some (81,false)),(.p (.mv (t 0))),8,[]⟩,
⟨(some 88),(some (81,false)),(.p (.nilchk (t 87))),9,[]⟩,
⟨(some 89),(some (81,false)),(.p (.fieldAt 0 (t 88))),10,[]⟩,
⟨(some 90),(some (81,false)),(.r (.load 1 false (t 89))),11,[]⟩,
⟨(some 91),(some (81,false)),(.p (.lenStr (t 90))),12,[]⟩,
⟨(some 92),(some (81,false)),(.p (.bin .geq (t 86) (t 91))),13,[]⟩,
dp 93 14 (.pick (t 81) (.c (.bool true)) (t 92))])
(.cond (t 93)
(.seq
(.ops [op 8 (.mv (i 9))])
.ret)
.skip))
(.seq
(.ops [mv 94 0,
nc 95 94,
fa 96 1 95,
ld 97 1 96,
op 98 (.bin .add (t 97) (i 1)),
nc 99 94,
fa 100 1 99,
st 1 100 98])
(.ops [mv 101 12,
ca 102 78 [(t 10),(t 101)]]))))
(.ops [mv 34 11,
ca 35 77 [(t 10),(t 34)]]))))))))))
(.ops [mv 25 0,
nc 26 25,
fa 27 1 26,
ld 28 1 27,
op 29 (.bin .add (t 28) (i 1)),
nc 30 25,
fa 31 1 30,
st 1 31 29]))))))))⟩
theorem c63:Mir.compF Tryz.prog Tryz.f63=some g63:=by kernel_rfl
def g64:Mir.Fn:=⟨16,[(.tmp 2),(.tmp 3)],
(.seq
(.ops [op 2 (.mv (s [])),
op 3 (.mv (.c (.bool false)))])
(.seq
(.seq
(.ops [mv 4 0])
(.block 0 (.seq
(.ops [op 6 (.bin .eql (t 4) (u 110)),
mv 5 6])
(.cond (t 5)
(.seq
(.ops [op 2 (.mv (s [10])),
op 3 (.mv (.c (.bool true)))])
.ret)
(.seq
(.ops [op 8 (.bin .eql (t 4) (u 116)),
mv 7 8])
(.cond (t 7)
(.seq
(.ops [op 2 (.mv (s [9])),
op 3 (.mv (.c (.bool true)))])
.ret)
(.seq
(.seq
(.ops [op 10 (.bin .eql (t 4) (u 34)),
mv 9 10])
(.cond (t 9)
.skip
(.seq
(.ops [op 11 (.bin .eql (t 4) (u 92)),
mv 9 11])
(.cond (t 9)
.skip
(.ops [op 12 (.bin .eql (t 4) (u 47)),
mv 9 12])))))
(.cond (t 9)
(.seq
(.ops [mv 13 0,
oa 14 (.mkSl [(.int .u8 0)] 1 1 [(0,(1,(t 13)))]),
ok 15 (.r (.toStr (t 14))),
mv 2 15,
op 3 (.mv (.c (.bool true)))])
.ret)
.skip))))))))
(.seq
(.ops [op 2 (.mv (s [])),
op 3 (.mv (.c (.bool false)))])
.ret)))⟩
theorem c64:Mir.compF Tryz.prog Tryz.f64=some g64:=by kernel_rfl
def g65:Mir.Fn:=⟨41,[(.tmp 2)],
(.seq
(.ops [op 2 (.mv (.c (.bool false)))])
(.seq
(.seq
(.ops [mv 4 0,
nc 5 4,
fa 6 2 5,
ld 7 1 6,
op 8 (.lenSl (t 7)),
op 9 (.bin .eql (t 8) (i 0))])
(.cond (t 9)
(.seq
(.ops [op 2 (.mv (.c (.bool true)))])
.ret)
.skip))
(.seq
(.draw [mv 10 0,
dp 11 1 (.nilchk (t 10)),
df 12 2 2 11,
dl 13 3 1 12,
dm 14 4 0,
dp 15 5 (.nilchk (t 14)),
df 16 6 2 15,
dl 17 7 1 16,
dp 18 8 (.lenSl (t 17)),
dp 19 9 (.bin .sub (t 18) (i 1)),
dp 20 10 (.idxSl 3 (t 13) (t 19)),
dk 21 11 (.r (.load 3 true (t 20))),
dk 3 12 (.a (.alloc [(.int .i64 0),(.str []),(.int .i64 0)])),
⟨none,none,(.h (.store 3 (t 3) (t 21))),13,[]⟩])
(.seq
(.seq
(.ops [fa 22 0 3,
ld 23 1 22])
(.block 0 (.seq
(.seq
(.ops [op 25 (.bin .eql (t 23) (i 2)),
mv 24 25])
(.cond (t 24)
.skip
(.seq
(.ops [op 26 (.bin .eql (t 23) (i 3)),
mv 24 26])
(.cond (t 24)
.skip
(.seq
(.ops [op 27 (.bin .eql (t 23) (i 4)),
mv 24 27])
(.cond (t 24)
.skip
(.ops [op 28 (.bin .eql (t 23) (i 5)),
mv 24 28])))))))
(.cond (t 24)
(.seq
(.ops [op 2 (.mv (.c (.bool false)))])
.ret)
(.seq
(.ops [op 30 (.bin .eql (t 23) (i 9)),
mv 29 30])
(.cond (t 29)
(.seq
(.ops [fa 31 1 3,
ld 32 1 31,
op 33 (.bin .neq (t 32) (s [108,101,110,103,116,104])),
mv 2 33])
.ret)
(.seq
(.ops [op 35 (.bin .eql (t 23) (i 8)),
mv 34 35])
(.cond (t 34)
(.seq
(.ops [oa 36 (.mkSl [(.str [])] 1 4 [(0,(1,(s [41]))),(1,(1,(s [93]))),(2,(1,(s [43,43]))),(3,(1,(s [45,45])))]),
fa 37 1 3,
ld 38 1 37,
ca 39 39 [(t 36),(t 38)],
op 40 (.un .not (t 39)),
mv 2 40])
.ret)
.skip))))))))
(.seq
(.ops [op 2 (.mv (.c (.bool true)))])
.ret)))))⟩
theorem c65:Mir.compF Tryz.prog Tryz.f65=some g65:=by kernel_rfl
def g66:Mir.Fn:=⟨11,[(.tmp 2),(.tmp 3)],
(.seq
(.ops [op 2 (.mv (s [])),
op 3 (.mv (.c (.bool false)))])
(.seq
(.seq
(.ops [mv 4 0,
op 5 (.bin .eql (t 4) (u 47))])
(.cond (t 5)
(.seq
(.ops [op 2 (.mv (s [47])),
op 3 (.mv (.c (.bool true)))])
.ret)
.skip))
(.seq
(.ops [mv 6 0,
oa 7 (.mkSl [(.int .u8 0)] 1 2 [(0,(1,(u 92))),(1,(1,(t 6)))]),
ok 8 (.r (.toStr (t 7))),
mv 9 0,
op 10 (.bin .neq (t 9) (u 10)),
mv 2 8,
mv 3 10])
.ret)))⟩
theorem c66:Mir.compF Tryz.prog Tryz.f66=some g66:=by kernel_rfl
def g67:Mir.Fn:=⟨73,[(.tmp 2)],
(.seq
(.ops [op 2 (.mv (i 0))])
(.seq
(.draw [mv 4 0,
dp 5 1 (.nilchk (t 4)),
df 6 2 0 5,
dl 7 3 1 6,
dm 8 4 0,
dp 9 5 (.nilchk (t 8)),
df 10 6 1 9,
dl 11 7 1 10,
dm 12 8 0,
dp 13 9 (.nilchk (t 12)),
df 14 10 1 13,
dl 15 11 1 14,
dp 16 12 (.bin .add (t 15) (i 2)),
dm 17 13 0,
dp 18 14 (.nilchk (t 17)),
df 19 15 0 18,
dl 20 16 1 19,
dp 21 17 (.lenStr (t 20)),
dp 22 18 (.mnmx false (t 16) [(t 21)]),
dp 23 19 (.subStr (t 7) (some (t 11)) (some (t 22))),
dm 3 20 23])
(.seq
(.seq
(.ops [mv 24 3,
op 25 (.lenStr (t 24)),
op 26 (.bin .eql (t 25) (i 2)),
mv 27 26,
gm 28 27 true 3,
og 29 27 true (.p (.bin .add (s [32]) (t 28))),
og 30 27 true (.p (.bin .add (t 29) (s [32]))),
og 31 27 true (.h (.call (.c (.fn 81 [] [])) [(s [32,43,61,32,45,61,32,42,61,32,47,61,32,37,61,32,61,61,32,60,61,32,62,61,32,33,61,32,43,43,32,45,45,32,38,38,32,124,124,32,62,62,32,33,126,32]),(t 30)])),
an 32 27 31])
(.cond (t 32)
(.seq
(.ops [mv 33 0,
mv 34 3,
mv 35 0,
nc 36 35,
fa 37 1 36,
ld 38 1 37,
ca 39 38 [(t 33),(i 8),(t 34),(t 38)]])
(.seq
(.ops [mv 40 0,
nc 41 40,
fa 42 1 41,
ld 43 1 42,
op 44 (.bin .add (t 43) (i 2)),
nc 45 40,
fa 46 1 45,
st 1 46 44])
(.seq
(.ops [op 2 (.mv (i 0))])
.ret)))
.skip))
(.seq
(.seq
(.draw [mv 47 0,
dp 48 1 (.nilchk (t 47)),
df 49 2 0 48,
dl 50 3 1 49,
dm 51 4 0,
dp 52 5 (.nilchk (t 51)),
df 53 6 1 52,
dl 54 7 1 53,
dp 55 8 (.idxStr (t 50) (t 54)),
dk 56 9 (.h (.call (.c (.fn 82 [] [])) [(s [123,125,40,41,91,93,59,44,43,45,42,47,37,33,62,60,124,63,58,126,36,61]),(t 55)])),
dp 57 10 (.bin .lss (t 56) (i 0))])
(.cond (t 57)
(.seq
(.ops [op 2 (.mv (i 9))])
.ret)
.skip))
(.seq
(.draw [mv 58 0,
dm 59 1 3,
dp 60 2 (.subStr (t 59) none (some (i 1))),
dm 61 3 0,
dp 62 4 (.nilchk (t 61)),
df 63 5 1 62,
dl 64 6 1 63,
dk 65 7 (.h (.call (.c (.fn 38 [] [])) [(t 58),(i 8),(t 60),(t 64)]))])
(.seq
(.ops [mv 66 0,
nc 67 66,
fa 68 1 67,
ld 69 1 68,
op 70 (.bin .add (t 69) (i 1)),
nc 71 66,
fa 72 1 71,
st 1 72 70])
(.seq
(.ops [op 2 (.mv (i 0))])
.ret)))))))⟩
theorem c67:Mir.compF Tryz.prog Tryz.f67=some g67:=by kernel_rfl
def g68:Mir.Fn:=⟨19,[(.tmp 4)],
(.seq
(.ops [op 4 (.mv (i 0))])
(.seq
(.seq
(.ops [mv 6 0,
op 7 (.lenSl (t 6)),
op 8 (.mv (i 0))])
(.block 0 (.loop (.seq
(.ops [op 9 (.bin .lss (t 8) (t 7))])
(.seq
(.cond (t 9)
.skip
(.exit 0))
(.seq
(.block 1 (.seq
(.ops [mv 10 8,
mv 5 10])
(.seq
(.ops [mv 11 1,
mv 12 0,
mv 13 5,
op 14 (.idxSl 1 (t 12) (t 13)),
ld 15 1 14,
op 16 (.bin .eql (t 11) (t 15))])
(.cond (t 16)
(.seq
(.ops [mv 17 5,
mv 4 17])
.ret)
.skip))))
(.ops [op 18 (.bin .add (t 8) (i 1)),
mv 8 18])))))))
(.seq
(.ops [op 4 (.mv (.c (.int .i64 (-1))))])
.ret)))⟩
theorem c68:Mir.compF Tryz.prog Tryz.f68=some g68:=by kernel_rfl
def g69:Mir.Fn:=⟨43,[(.cell 2 4 true)],
(.seq
(.ops [oa 2 (.alloc [(.str []),(.str []),(.int .i64 0),.nilsl])])
(.seq
(.ops [mv 4 0,
ca 5 71 [(t 4)]])
(.seq
(.ops [mv 6 0,
⟨none,none,(.h (.dfr (.c (.fn 72 [] [])) [(t 6)])),0,[]⟩])
(.seq
(.block 0 (.seq
(.ops [mv 8 0,
oa 9 (.mkSl [(.str [])] 1 1 [(0,(1,(s [123])))]),
ca 10 26 [(t 8),(t 9)],
mv 7 10])
(.cond (t 7)
(.seq
(.ops [mv 11 0,
ca 12 41 [(t 11)],
st 4 2 12])
.ret)
(.seq
(.ops [mv 14 0,
ca 15 40 [(t 14),(s [59])],
mv 13 15])
(.cond (t 13)
(.seq
(.ops [ca 16 25 [(s [101,109,112,116,121]),(.c .nilsl)],
st 4 2 16])
.ret)
(.seq
(.ops [mv 18 0,
ca 19 40 [(t 18),(s [105,102])],
mv 17 19])
(.cond (t 17)
(.seq
(.ops [mv 20 0,
ca 21 83 [(t 20)],
st 4 2 21])
.ret)
(.seq
(.ops [mv 23 0,
ca 24 40 [(t 23),(s [119,104,105,108,101])],
mv 22 24])
(.cond (t 22)
(.seq
(.ops [mv 25 0,
ca 26 44 [(t 25),(s [40])]])
(.seq
(.ops [mv 27 0,
ca 28 84 [(t 27),(s [41])],
mv 29 0,
ca 30 85 [(t 29)],
oa 31 (.mkSl [(.str []),(.str []),(.int .i64 0),.nilsl] 4 2 [(0,(4,(t 28))),(4,(4,(t 30)))]),
ca 32 25 [(s [119,104,105,108,101]),(t 31)],
st 4 2 32])
.ret))
(.seq
(.ops [mv 34 0,
ca 35 40 [(t 34),(s [102,111,114])],
mv 33 35])
(.cond (t 33)
(.seq
(.ops [mv 36 0,
ca 37 86 [(t 36)],
st 4 2 37])
.ret)
.skip)))))))))))
(.seq
(.ops [mv 38 0,
ca 39 87 [(t 38)],
oa 3 (.alloc [(.str []),(.str []),(.int .i64 0),.nilsl]),
st 4 3 39])
(.seq
(.ops [mv 40 0,
ca 41 88 [(t 40)]])
(.seq
(.ops [la 42 4 3,
st 4 2 42])
.ret)))))))⟩
theorem c69:Mir.compF Tryz.prog Tryz.f69=some g69:=by kernel_rfl
def g70:Mir.Fn:=⟨9,[(.tmp 4)],
(.seq
(.ops [op 4 (.mv (.c (.bool false)))])
(.seq
(.ops [mv 5 0,
mv 6 1,
ca 7 89 [(t 5),(t 6)],
op 8 (.bin .geq (t 7) (i 0)),
mv 4 8])
.ret))⟩
theorem c70:Mir.compF Tryz.prog Tryz.f70=some g70:=by kernel_rfl
def g71:Mir.Fn:=⟨30,[],
(.seq
(.ops [mv 2 0,
nc 3 2,
fa 4 2 3,
ld 5 1 4,
op 6 (.bin .add (t 5) (i 1)),
nc 7 2,
fa 8 2 7,
st 1 8 6])
(.seq
(.ops [mv 9 0,
nc 10 9,
fa 11 2 10,
ld 12 1 11,
op 13 (.bin .gtr (t 12) (i 50)),
mv 14 13,
gm 15 14 true 0,
og 16 14 true (.p (.nilchk (t 15))),
og 17 14 true (.p (.fieldAt 4 (t 16))),
og 18 14 true (.r (.load 1 false (t 17))),
og 19 14 true (.p (.bin .eql (t 18) (i 0))),
an 20 14 19])
(.cond (t 20)
(.ops [mv 21 0,
mv 22 0,
mv 23 0,
ca 24 27 [(t 23)],
op 25 (.field 2 1 false (t 24)),
nc 26 21,
fa 27 4 26,
⟨none,none,(.h (.store 1 (t 27) (i 14))),0,[]⟩,
nc 28 22,
fa 29 5 28,
st 1 29 25])
.skip)))⟩
theorem c71:Mir.compF Tryz.prog Tryz.f71=some g71:=by kernel_rfl
def g72:Mir.Fn:=⟨9,[],
(.ops [mv 2 0,
nc 3 2,
fa 4 2 3,
ld 5 1 4,
op 6 (.bin .sub (t 5) (i 1)),
nc 7 2,
fa 8 2 7,
st 1 8 6])⟩
theorem c72:Mir.compF Tryz.prog Tryz.f72=some g72:=by kernel_rfl
def g73:Mir.Fn:=⟨9,[(.cell 2 4 true)],
(.seq
(.ops [oa 2 (.alloc [(.str []),(.str []),(.int .i64 0),.nilsl])])
(.seq
(.ops [mv 3 0,
mv 4 0,
op 5 (.mkFn 91 [(t 4)] []),
oa 6 .mkMap,
⟨none,none,(.h (.mapUpd (.one .str) (t 6) (s [124,124]) (s [111,114]))),0,[]⟩,
mv 7 6,
ca 8 90 [(t 3),(t 5),(.c (.bool true)),(t 7)],
st 4 2 8])
.ret))⟩
theorem c73:Mir.compF Tryz.prog Tryz.f73=some g73:=by kernel_rfl
def g74:Mir.Fn:=⟨7,[(.tmp 2)],
(.seq
(.ops [oa 1 (.box (t 0)),
op 2 (.mv (.c (.bool false)))])
(.seq
(.ops [oa 3 (.mkSl [(.str [])] 1 3 [(0,(1,(s [118,97,114]))),(1,(1,(s [105,110,100,101,120]))),(2,(1,(s [102,105,101,108,100])))]),
fa 4 0 1,
ld 5 1 4,
ca 6 39 [(t 3),(t 5)],
mv 2 6])
.ret))⟩
theorem c74:Mir.compF Tryz.prog Tryz.f74=some g74:=by kernel_rfl
def g75:Mir.Fn:=⟨81,[],
(.seq
(.ops [oa 6 (.box (t 2))])
(.seq
(.seq
(.draw [mv 12 0,
dp 13 1 (.nilchk (t 12)),
df 14 2 0 13,
dl 15 3 1 14,
df 16 4 1 6,
dl 17 5 1 16,
dk 18 6 (.r (.lookup (.one .str) (.int .i64 0) true (t 15) (t 17))),
dm 11 7 18,
dp 19 8 (.ext (t 11) 0),
dp 20 9 (.ext (t 11) 1),
dm 8 10 19,
dm 9 11 20])
(.seq
(.ops [mv 21 9])
(.cond (t 21)
(.seq
(.ops [mv 22 0,
fa 23 2 6,
ld 24 1 23,
ca 25 53 [(t 22),(t 24),(i 11)]])
.ret)
.skip)))
(.seq
(.ops [mv 26 0,
mv 27 1,
fa 28 1 6,
ld 29 1 28,
ca 30 51 [(t 26),(t 27),(t 29)],
oa 10 (.alloc [(.int .i64 0),(.str [])]),
st 2 10 30])
(.seq
(.seq
(.draw [mv 31 0,
dp 32 1 (.nilchk (t 31)),
df 33 2 2 32,
dl 34 3 1 33,
dk 35 4 (.r (.load 2 true (t 10))),
dk 36 5 (.r (.lookup (.agg [.int,.str]) (.bool false) false (t 34) (t 35))),
dm 37 6 3,
dp 38 7 (.eq .bool true (t 36) (t 37)),
dm 39 8 38,
⟨(some 40),(some (39,false)),(.p (.mv (t 3))),9,[]⟩,
⟨(some 41),(some (39,false)),(.p (.mv (t 40))),10,[]⟩,
⟨(some 42),(some (41,true)),(.p (.fieldAt 0 (t 10))),11,[]⟩,
⟨(some 43),(some (41,true)),(.r (.load 1 false (t 42))),12,[]⟩,
⟨(some 44),(some (41,true)),(.p (.bin .lss (t 43) (i 0))),13,[]⟩,
⟨(some 45),(some (39,false)),(.p (.pick (t 41) (t 44) (.c (.bool false)))),14,[]⟩,
⟨(some 46),(some (39,false)),(.p (.mv (t 45))),15,[]⟩,
⟨(some 47),(some (46,true)),(.r (.load 1 false (.glob 0))),16,[]⟩,
⟨(some 48),(some (46,true)),(.p (.fieldAt 1 (t 6))),17,[]⟩,
⟨(some 49),(some (46,true)),(.r (.load 1 false (t 48))),18,[]⟩,
⟨(some 50),(some (46,true)),(.h (.call (.c (.fn 39 [] [])) [(t 47),(t 49)])),19,[]⟩,
⟨(some 51),(some (39,false)),(.p (.pick (t 46) (t 50) (.c (.bool false)))),20,[]⟩,
dp 52 21 (.pick (t 39) (.c (.bool true)) (t 51))])
(.cond (t 52)
(.ops [mv 53 0,
fa 54 2 6,
ld 55 1 54,
ca 56 53 [(t 53),(t 55),(i 11)]])
.skip))
(.seq
(.draw [fa 57 0 10,
dl 58 1 1 57,
dp 59 2 (.bin .lss (t 58) (i 0)),
dm 60 3 59,
⟨(some 61),(some (60,true)),(.p (.mv (t 0))),4,[]⟩,
⟨(some 62),(some (60,true)),(.p (.nilchk (t 61))),5,[]⟩,
⟨(some 63),(some (60,true)),(.p (.fieldAt 3 (t 62))),6,[]⟩,
⟨(some 64),(some (60,true)),(.r (.load 1 false (t 63))),7,[]⟩,
⟨(some 65),(some (60,true)),(.p (.fieldAt 1 (t 6))),8,[]⟩,
⟨(some 66),(some (60,true)),(.r (.load 1 false (t 65))),9,[]⟩,
⟨(some 67),(some (60,true)),(.h (.call (.c (.fn 39 [] [])) [(t 64),(t 66)])),10,[]⟩,
⟨(some 68),(some (60,true)),(.p (.un .not (t 67))),11,[]⟩,
dp 69 12 (.pick (t 60) (t 68) (.c (.bool false)))])
(.cond (t 69)
(.draw [mv 70 0,
dm 71 1 0,
dp 72 2 (.nilchk (t 71)),
df 73 3 3 72,
dl 74 4 1 73,
df 75 5 1 6,
dl 76 6 1 75,
dk 77 7 (.a (.mkSl [(.str [])] 1 1 [(0,(1,(t 76)))])),
dk 78 8 (.h (.app 1 16 (t 74) (t 77))),
dp 79 9 (.nilchk (t 70)),
df 80 10 3 79,
⟨none,none,(.h (.store 1 (t 80) (t 78))),11,[]⟩])
.skip))))))⟩
theorem c75:Mir.compF Tryz.prog Tryz.f75=some g75:=by kernel_rfl
def g76:Mir.Fn:=⟨93,[],
(.seq
(.ops [oa 6 (.box (t 2)),
oa 7 (.box (t 3))])
(.seq
(.draw [mv 13 0,
dp 14 1 (.nilchk (t 13)),
df 15 2 0 14,
dl 16 3 1 15,
df 17 4 1 6,
dl 18 5 1 17,
dk 19 6 (.r (.lookup (.one .str) (.int .i64 0) true (t 16) (t 18))),
dm 12 7 19,
dp 20 8 (.ext (t 12) 0),
dp 21 9 (.ext (t 12) 1),
dm 8 10 20,
dm 9 11 21])
(.seq
(.seq
(.draw [mv 22 9,
dp 23 1 (.un .not (t 22)),
dm 24 2 23,
⟨(some 25),(some (24,false)),(.p (.fieldAt 3 (t 6))),3,[]⟩,
⟨(some 26),(some (24,false)),(.r (.load 1 false (t 25))),4,[]⟩,
⟨(some 27),(some (24,false)),(.p (.lenSl (t 26))),5,[]⟩,
⟨(some 28),(some (24,false)),(.p (.mv (t 0))),6,[]⟩,
⟨(some 29),(some (24,false)),(.p (.nilchk (t 28))),7,[]⟩,
⟨(some 30),(some (24,false)),(.p (.fieldAt 1 (t 29))),8,[]⟩,
⟨(some 31),(some (24,false)),(.r (.load 1 false (t 30))),9,[]⟩,
⟨(some 32),(some (24,false)),(.p (.nilchk (t 31))),10,[]⟩,
⟨(some 33),(some (24,false)),(.p (.fieldAt 0 (t 32))),11,[]⟩,
⟨(some 34),(some (24,false)),(.r (.load 1 false (t 33))),12,[]⟩,
⟨(some 35),(some (24,false)),(.p (.mv (t 8))),13,[]⟩,
⟨(some 36),(some (24,false)),(.p (.idxSl 7 (t 34) (t 35))),14,[]⟩,
⟨(some 37),(some (24,false)),(.p (.fieldAt 1 (t 36))),15,[]⟩,
⟨(some 38),(some (24,false)),(.r (.load 1 false (t 37))),16,[]⟩,
⟨(some 39),(some (24,false)),(.p (.lenSl (t 38))),17,[]⟩,
⟨(some 40),(some (24,false)),(.p (.bin .gtr (t 27) (t 39))),18,[]⟩,
dp 41 19 (.pick (t 24) (.c (.bool true)) (t 40))])
(.cond (t 41)
(.seq
(.ops [mv 42 0,
fa 43 2 6,
ld 44 1 43,
ca 45 53 [(t 42),(t 44),(i 11)]])
.ret)
.skip))
(.seq
(.ops [fa 46 3 6,
ld 47 1 46,
op 48 (.lenSl (t 47)),
op 49 (.mv (i 0))])
(.block 0 (.loop (.seq
(.ops [op 50 (.bin .lss (t 49) (t 48))])
(.seq
(.cond (t 50)
.skip
(.exit 0))
(.seq
(.block 1 (.seq
(.ops [mv 51 49,
op 52 (.idxSl 4 (t 47) (t 49)),
la 53 4 52,
oa 11 (.alloc [(.str []),(.str []),(.int .i64 0),.nilsl]),
mv 10 51,
st 4 11 53])
(.seq
(.seq
(.draw [mv 54 0,
dp 55 1 (.nilchk (t 54)),
df 56 2 2 55,
dl 57 3 1 56,
dm 58 4 8,
dm 59 5 0,
dp 60 6 (.nilchk (t 59)),
df 61 7 1 60,
dl 62 8 1 61,
dp 63 9 (.nilchk (t 62)),
df 64 10 0 63,
dl 65 11 1 64,
dm 66 12 8,
dp 67 13 (.idxSl 7 (t 65) (t 66)),
df 68 14 1 67,
dl 69 15 1 68,
dm 70 16 10,
dp 71 17 (.idxSl 1 (t 69) (t 70)),
dl 72 18 1 71,
dp 73 19 (.build [(.int .i64 0),(.str [])] [(0,(1,(t 58))),(1,(1,(t 72)))]),
dk 74 20 (.r (.lookup (.agg [.int,.str]) (.bool false) false (t 57) (t 73))),
dp 75 21 (.un .not (t 74))])
(.cond (t 75)
(.seq
(.ops [mv 76 0,
mv 77 1,
la 78 4 11,
la 79 3 7,
ca 80 52 [(t 76),(t 77),(t 78),(t 79)]])
(.exit 1))
.skip))
(.seq
(.seq
(.ops [fa 81 0 11,
ld 82 1 81,
op 83 (.bin .neq (t 82) (s [118,97,114]))])
(.cond (t 83)
(.seq
(.ops [mv 84 0,
fa 85 2 6,
ld 86 1 85,
ca 87 53 [(t 84),(t 86),(i 11)]])
.ret)
.skip))
(.ops [mv 88 0,
mv 89 1,
la 90 4 11,
ca 91 75 [(t 88),(t 89),(t 90),(.c (.bool true))]])))))
(.ops [op 92 (.bin .add (t 49) (i 1)),
mv 49 92]))))))))))⟩
theorem c76:Mir.compF Tryz.prog Tryz.f76=some g76:=by kernel_rfl
def g77:Mir.Fn:=⟨17,[(.tmp 4)],
(.seq
(.ops [op 4 (.mv (.c .nilif))])
(.seq
(.ops [mv 5 0,
ca 6 92 [(t 5)]])
(.seq
(.ops [mv 7 0,
mv 8 0,
nc 9 8,
fa 10 1 9,
ld 11 1 10,
mv 12 1,
oa 13 (.mkSl [(.int .u8 0)] 1 1 [(0,(1,(t 12)))]),
ok 14 (.h (.app 1 1 (t 11) (t 13))),
nc 15 7,
fa 16 1 15,
st 1 16 14])
(.seq
(.ops [op 4 (.mv (.c .nilif))])
.ret))))⟩
theorem c77:Mir.compF Tryz.prog Tryz.f77=some g77:=by kernel_rfl
def g78:Mir.Fn:=⟨19,[(.tmp 4),(.tmp 5)],
(.seq
(.ops [op 4 (.mv (i 0)),
op 5 (.mv (.c .nilif))])
(.seq
(.ops [mv 6 0,
ca 7 92 [(t 6)]])
(.seq
(.ops [mv 8 0,
mv 9 0,
nc 10 9,
fa 11 1 10,
ld 12 1 11,
mv 13 1,
ok 14 (.h (.app 1 1 (t 12) (t 13))),
nc 15 8,
fa 16 1 15,
st 1 16 14])
(.seq
(.ops [mv 17 1,
op 18 (.lenStr (t 17)),
mv 4 18,
op 5 (.mv (.c .nilif))])
.ret))))⟩
theorem c78:Mir.compF Tryz.prog Tryz.f78=some g78:=by kernel_rfl
def g79:Mir.Fn:=⟨5,[(.tmp 2)],
(.seq
(.ops [op 2 (.mv (s []))])
(.seq
(.ops [mv 3 0,
ca 4 93 [(t 3)],
mv 2 4])
.ret))⟩
theorem c79:Mir.compF Tryz.prog Tryz.f79=some g79:=by kernel_rfl
def g80:Mir.Fn:=⟨9,[(.tmp 2)],
(.seq
(.ops [op 2 (.mv (.c (.bool false)))])
(.seq
(.ops [mv 3 0,
ca 4 61 [(t 3)],
mv 5 4,
gm 6 5 false 0,
og 7 5 false (.h (.call (.c (.fn 59 [] [])) [(t 6)])),
oo 8 5 7,
mv 2 8])
.ret))⟩
theorem c80:Mir.compF Tryz.prog Tryz.f80=some g80:=by kernel_rfl
def g81:Mir.Fn:=⟨9,[(.tmp 4)],
(.seq
(.ops [op 4 (.mv (.c (.bool false)))])
(.seq
(.ops [mv 5 0,
mv 6 1,
ca 7 94 [(t 5),(t 6)],
op 8 (.bin .geq (t 7) (i 0)),
mv 4 8])
.ret))⟩
theorem c81:Mir.compF Tryz.prog Tryz.f81=some g81:=by kernel_rfl
def g82:Mir.Fn:=⟨8,[(.tmp 4)],
(.seq
(.ops [op 4 (.mv (i 0))])
(.seq
(.ops [mv 5 0,
mv 6 1,
ca 7 95 [(t 5),(t 6)],
mv 4 7])
.ret))⟩
theorem c82:Mir.compF Tryz.prog Tryz.f82=some g82:=by kernel_rfl
def g83:Mir.Fn:=⟨42,[(.cell 2 4 true)],
(.seq
(.ops [oa 2 (.alloc [(.str []),(.str []),(.int .i64 0),.nilsl])])
(.seq
(.ops [mv 5 0,
ca 6 44 [(t 5),(s [40])]])
(.seq
(.ops [mv 7 0,
ca 8 84 [(t 7),(s [41])],
mv 9 0,
ca 10 85 [(t 9)],
oa 11 (.mkSl [(.str []),(.str []),(.int .i64 0),.nilsl] 4 2 [(0,(4,(t 8))),(4,(4,(t 10)))]),
ca 12 25 [(s [105,102]),(t 11)],
oa 3 (.alloc [(.str []),(.str []),(.int .i64 0),.nilsl]),
st 4 3 12])
(.seq
(.ops [mv 13 0,
nc 14 13,
fa 15 1 14,
ld 16 1 15,
mv 4 16])
(.seq
(.ops [mv 17 0,
ca 18 45 [(t 17)]])
(.seq
(.seq
(.ops [mv 19 0,
ca 20 40 [(t 19),(s [59])]])
(.cond (t 20)
(.ops [mv 21 0,
ca 22 45 [(t 21)]])
.skip))
(.seq
(.seq
(.ops [mv 23 0,
ca 24 40 [(t 23),(s [101,108,115,101])]])
(.cond (t 24)
(.draw [fa 25 3 3,
dl 26 1 1 25,
dm 27 2 0,
⟨(some 28),none,(.h (.call (.c (.fn 85 [] [])) [(t 27)])),3,[1]⟩,
dk 29 4 (.a (.mkSl [(.str []),(.str []),(.int .i64 0),.nilsl] 4 1 [(0,(4,(t 28)))])),
dk 30 5 (.h (.app 4 64 (t 26) (t 29))),
df 31 6 3 3,
⟨none,none,(.h (.store 1 (t 31) (t 30))),7,[]⟩])
(.seq
(.ops [mv 32 0,
nc 33 32,
fa 34 4 33,
ld 35 1 34,
op 36 (.bin .eql (t 35) (i 0))])
(.cond (t 36)
(.ops [mv 37 0,
mv 38 4,
nc 39 37,
fa 40 1 39,
st 1 40 38])
.skip))))
(.seq
(.ops [la 41 4 3,
st 4 2 41])
.ret))))))))⟩
theorem c83:Mir.compF Tryz.prog Tryz.f83=some g83:=by kernel_rfl
def g84:Mir.Fn:=⟨28,[(.cell 4 4 true)],
(.seq
(.ops [oa 4 (.alloc [(.str []),(.str []),(.int .i64 0),.nilsl])])
(.seq
(.ops [mv 7 0,
nc 8 7,
fa 9 3 8,
ld 10 1 9,
mv 5 10])
(.seq
(.ops [mv 11 0,
nc 12 11,
fa 13 3 12,
⟨none,none,(.h (.store 1 (t 13) (.c (.bool false)))),0,[]⟩])
(.seq
(.ops [mv 14 0,
ca 15 45 [(t 14)]])
(.seq
(.ops [mv 16 0,
ca 17 46 [(t 16)],
oa 6 (.alloc [(.str []),(.str []),(.int .i64 0),.nilsl]),
st 4 6 17])
(.seq
(.ops [mv 18 0,
ca 19 45 [(t 18)]])
(.seq
(.ops [mv 20 0,
mv 21 1,
ca 22 44 [(t 20),(t 21)]])
(.seq
(.ops [mv 23 0,
mv 24 5,
nc 25 23,
fa 26 3 25,
st 1 26 24])
(.seq
(.ops [la 27 4 6,
st 4 4 27])
.ret)))))))))⟩
theorem c84:Mir.compF Tryz.prog Tryz.f84=some g84:=by kernel_rfl
def g85:Mir.Fn:=⟨7,[(.cell 2 4 true)],
(.seq
(.ops [oa 2 (.alloc [(.str []),(.str []),(.int .i64 0),.nilsl])])
(.seq
(.ops [mv 3 0,
ca 4 45 [(t 3)]])
(.seq
(.ops [mv 5 0,
ca 6 69 [(t 5)],
st 4 2 6])
.ret)))⟩
theorem c85:Mir.compF Tryz.prog Tryz.f85=some g85:=by kernel_rfl
def g86:Mir.Fn:=⟨105,[(.cell 2 4 true)],
(.seq
(.ops [oa 2 (.alloc [(.str []),(.str []),(.int .i64 0),.nilsl])])
(.seq
(.ops [mv 7 0,
ca 8 44 [(t 7),(s [40])]])
(.seq
(.seq
(.ops [mv 9 0,
ca 10 96 [(t 9),(i 3)],
oa 3 (.alloc [(.int .i64 0),(.str []),(.int .i64 0)]),
st 3 3 10])
(.seq
(.ops [mv 11 0,
ca 12 27 [(t 11)],
op 13 (.field 0 1 false (t 12)),
op 14 (.bin .eql (t 13) (i 5)),
mv 15 14,
gm 16 15 true 0,
og 17 15 true (.h (.call (.c (.fn 96 [] [])) [(t 16),(i 1)])),
og 18 15 true (.p (.field 0 1 false (t 17))),
og 19 15 true (.p (.bin .eql (t 18) (i 7))),
an 20 15 19,
mv 21 20,
gm 22 21 true 0,
og 23 21 true (.h (.call (.c (.fn 96 [] [])) [(t 22),(i 1)])),
og 24 21 true (.p (.field 1 1 false (t 23))),
og 25 21 true (.p (.bin .eql (t 24) (s [105,110]))),
an 26 21 25,
mv 27 26,
gm 28 27 true 0,
og 29 27 true (.h (.call (.c (.fn 96 [] [])) [(t 28),(i 2)])),
og 30 27 true (.p (.field 0 1 false (t 29))),
og 31 27 true (.p (.bin .eql (t 30) (i 5))),
an 32 27 31,
mv 33 32,
og 34 33 true (.p (.fieldAt 0 (t 3))),
og 35 33 true (.r (.load 1 false (t 34))),
og 36 33 true (.p (.bin .eql (t 35) (i 8))),
an 37 33 36,
mv 38 37,
og 39 38 true (.p (.fieldAt 1 (t 3))),
og 40 38 true (.r (.load 1 false (t 39))),
og 41 38 true (.p (.bin .eql (t 40) (s [41]))),
an 42 38 41])
(.cond (t 42)
(.seq
(.ops [mv 43 0,
oa 44 (.mkSl [(.int .i64 0)] 1 1 [(0,(1,(i 5)))]),
ca 45 43 [(t 43),(t 44)],
oa 4 (.alloc [(.int .i64 0),(.str []),(.int .i64 0)]),
st 3 4 45])
(.seq
(.ops [mv 46 0,
ca 47 28 [(t 46)]])
(.seq
(.ops [mv 48 0,
oa 49 (.mkSl [(.int .i64 0)] 1 1 [(0,(1,(i 5)))]),
ca 50 43 [(t 48),(t 49)],
ca 51 42 [(s [110,97,109,101]),(t 50),(.c .nilsl)],
oa 5 (.alloc [(.str []),(.str []),(.int .i64 0),.nilsl]),
st 4 5 51])
(.seq
(.ops [mv 52 0,
ca 53 28 [(t 52)]])
(.seq
(.draw [la 54 3 4,
dk 55 1 (.r (.load 4 true (t 5))),
dm 56 2 0,
⟨(some 57),none,(.h (.call (.c (.fn 85 [] [])) [(t 56)])),3,[0,1]⟩,
dk 58 4 (.a (.mkSl [(.str []),(.str []),(.int .i64 0),.nilsl] 4 2 [(0,(4,(t 55))),(4,(4,(t 57)))])),
dk 59 5 (.h (.call (.c (.fn 42 [] [])) [(s [102,111,114,105,110]),(t 54),(t 58)])),
⟨none,none,(.h (.store 4 (t 2) (t 59))),6,[]⟩])
.ret)))))
.skip)))
(.seq
(.ops [ca 60 25 [(s [110,111,110,101]),(.c .nilsl)],
ca 61 25 [(s [110,111,110,101]),(.c .nilsl)],
ca 62 25 [(s [110,111,110,101]),(.c .nilsl)],
op 63 (.build [(.str []),(.str []),(.int .i64 0),.nilsl,(.str []),(.str []),(.int .i64 0),.nilsl,(.str []),(.str []),(.int .i64 0),.nilsl] [(0,(4,(t 60))),(4,(4,(t 61))),(8,(4,(t 62)))]),
oa 6 (.alloc [(.str []),(.str []),(.int .i64 0),.nilsl,(.str []),(.str []),(.int .i64 0),.nilsl,(.str []),(.str []),(.int .i64 0),.nilsl]),
st 12 6 63])
(.seq
(.seq
(.ops [mv 64 0,
oa 65 (.mkSl [(.str [])] 1 1 [(0,(1,(s [59])))]),
ca 66 26 [(t 64),(t 65)],
op 67 (.un .not (t 66))])
(.cond (t 67)
(.ops [mv 68 0,
ca 69 87 [(t 68)],
op 70 (.idxArr 3 4 (t 6) (i 0)),
st 4 70 69])
.skip))
(.seq
(.ops [mv 71 0,
ca 72 44 [(t 71),(s [59])]])
(.seq
(.ops [mv 73 0,
ca 74 45 [(t 73)]])
(.seq
(.seq
(.ops [mv 75 0,
oa 76 (.mkSl [(.str [])] 1 1 [(0,(1,(s [59])))]),
ca 77 26 [(t 75),(t 76)],
op 78 (.un .not (t 77))])
(.cond (t 78)
(.ops [mv 79 0,
ca 80 46 [(t 79)],
op 81 (.idxArr 3 4 (t 6) (i 1)),
st 4 81 80])
.skip))
(.seq
(.ops [mv 82 0,
ca 83 44 [(t 82),(s [59])]])
(.seq
(.ops [mv 84 0,
ca 85 45 [(t 84)]])
(.seq
(.seq
(.ops [mv 86 0,
oa 87 (.mkSl [(.str [])] 1 1 [(0,(1,(s [41])))]),
ca 88 26 [(t 86),(t 87)],
op 89 (.un .not (t 88))])
(.cond (t 89)
(.ops [mv 90 0,
ca 91 87 [(t 90)],
op 92 (.idxArr 3 4 (t 6) (i 2)),
st 4 92 91])
.skip))
(.seq
(.ops [mv 93 0,
ca 94 44 [(t 93),(s [41])]])
(.seq
(.draw [op 95 (.idxArr 3 4 (t 6) (i 0)),
dk 96 1 (.r (.load 4 true (t 95))),
dp 97 2 (.idxArr 3 4 (t 6) (i 1)),
dk 98 3 (.r (.load 4 true (t 97))),
dp 99 4 (.idxArr 3 4 (t 6) (i 2)),
dk 100 5 (.r (.load 4 true (t 99))),
dm 101 6 0,
⟨(some 102),none,(.h (.call (.c (.fn 85 [] [])) [(t 101)])),7,[1,3,5]⟩,
dk 103 8 (.a (.mkSl [(.str []),(.str []),(.int .i64 0),.nilsl] 4 4 [(0,(4,(t 96))),(4,(4,(t 98))),(8,(4,(t 100))),(12,(4,(t 102)))])),
dk 104 9 (.h (.call (.c (.fn 25 [] [])) [(s [102,111,114]),(t 103)])),
⟨none,none,(.h (.store 4 (t 2) (t 104))),10,[]⟩])
.ret)))))))))))))⟩
theorem c86:Mir.compF Tryz.prog Tryz.f86=some g86:=by kernel_rfl
def g87:Mir.Fn:=⟨78,[(.cell 2 4 true)],
(.seq
(.ops [oa 2 (.alloc [(.str []),(.str []),(.int .i64 0),.nilsl])])
(.seq
(.ops [mv 6 0,
ca 7 27 [(t 6)],
oa 3 (.alloc [(.int .i64 0),(.str []),(.int .i64 0)]),
st 3 3 7])
(.seq
(.seq
(.ops [fa 8 0 3,
ld 9 1 8,
op 10 (.bin .neq (t 9) (i 7))])
(.cond (t 10)
(.seq
(.ops [mv 11 0,
ca 12 46 [(t 11)],
oa 13 (.mkSl [(.str []),(.str []),(.int .i64 0),.nilsl] 4 1 [(0,(4,(t 12)))]),
ca 14 25 [(s [101,120,112,114]),(t 13)],
st 4 2 14])
.ret)
.skip))
(.seq
(.seq
(.ops [fa 15 1 3,
ld 16 1 15])
(.block 0 (.seq
(.seq
(.ops [op 18 (.bin .eql (t 16) (s [98,114,101,97,107])),
mv 17 18])
(.cond (t 17)
.skip
(.seq
(.ops [op 19 (.bin .eql (t 16) (s [99,111,110,116,105,110,117,101])),
mv 17 19])
(.cond (t 17)
.skip
(.ops [op 20 (.bin .eql (t 16) (s [110,101,120,116])),
mv 17 20])))))
(.cond (t 17)
(.seq
(.ops [mv 21 0,
ca 22 28 [(t 21)]])
(.seq
(.ops [fa 23 1 3,
ld 24 1 23,
fa 25 2 3,
ld 26 1 25,
op 27 (.build [(.str []),(.str []),(.int .i64 0),.nilsl] [(0,(1,(t 24))),(2,(1,(t 26)))]),
st 4 2 27])
.ret))
(.seq
(.seq
(.ops [op 29 (.bin .eql (t 16) (s [101,120,105,116])),
mv 28 29])
(.cond (t 28)
.skip
(.ops [op 30 (.bin .eql (t 16) (s [114,101,116,117,114,110])),
mv 28 30])))
(.cond (t 28)
(.seq
(.ops [mv 31 0,
ca 32 28 [(t 31)]])
(.seq
(.ops [fa 33 1 3,
ld 34 1 33,
fa 35 2 3,
ld 36 1 35,
op 37 (.build [(.str []),(.str []),(.int .i64 0),.nilsl] [(0,(1,(t 34))),(2,(1,(t 36)))]),
oa 4 (.alloc [(.str []),(.str []),(.int .i64 0),.nilsl]),
st 4 4 37])
(.seq
(.seq
(.ops [mv 38 0,
ca 39 97 [(t 38)],
op 40 (.un .not (t 39))])
(.cond (t 40)
(.ops [mv 41 0,
ca 42 46 [(t 41)],
oa 43 (.mkSl [(.str []),(.str []),(.int .i64 0),.nilsl] 4 1 [(0,(4,(t 42)))]),
fa 44 3 4,
st 1 44 43])
.skip))
(.seq
(.ops [la 45 4 4,
st 4 2 45])
.ret))))
(.seq
(.ops [op 47 (.bin .eql (t 16) (s [100,101,108,101,116,101])),
mv 46 47])
(.cond (t 46)
(.seq
(.ops [mv 48 0,
ca 49 28 [(t 48)]])
(.seq
(.ops [mv 50 0,
oa 51 (.mkSl [(.int .i64 0)] 1 1 [(0,(1,(i 5)))]),
ca 52 43 [(t 50),(t 51)],
oa 5 (.alloc [(.int .i64 0),(.str []),(.int .i64 0)]),
st 3 5 52])
(.seq
(.seq
(.ops [mv 53 0,
ca 54 40 [(t 53),(s [91])]])
(.cond (t 54)
(.seq
(.draw [la 55 3 5,
dm 56 1 0,
⟨(some 57),none,(.h (.call (.c (.fn 84 [] [])) [(t 56),(s [93])])),2,[0]⟩,
dk 58 3 (.a (.mkSl [(.str []),(.str []),(.int .i64 0),.nilsl] 4 1 [(0,(4,(t 57)))])),
dk 59 4 (.h (.call (.c (.fn 42 [] [])) [(s [105,110,100,101,120]),(t 55),(t 58)])),
dk 60 5 (.a (.mkSl [(.str []),(.str []),(.int .i64 0),.nilsl] 4 1 [(0,(4,(t 59)))])),
dk 61 6 (.h (.call (.c (.fn 25 [] [])) [(s [100,101,108,101,116,101]),(t 60)])),
⟨none,none,(.h (.store 4 (t 2) (t 61))),7,[]⟩])
.ret)
.skip))
(.seq
(.ops [la 62 3 5,
ca 63 42 [(s [110,97,109,101]),(t 62),(.c .nilsl)],
oa 64 (.mkSl [(.str []),(.str []),(.int .i64 0),.nilsl] 4 1 [(0,(4,(t 63)))]),
ca 65 25 [(s [100,101,108,101,116,101]),(t 64)],
st 4 2 65])
.ret))))
(.seq
(.seq
(.ops [op 67 (.bin .eql (t 16) (s [112,114,105,110,116])),
mv 66 67])
(.cond (t 66)
.skip
(.ops [op 68 (.bin .eql (t 16) (s [112,114,105,110,116,102])),
mv 66 68])))
(.cond (t 66)
(.seq
(.ops [mv 69 0,
ca 70 28 [(t 69)]])
(.seq
(.ops [mv 71 0,
fa 72 1 3,
ld 73 1 72,
ca 74 98 [(t 71),(t 73)],
st 4 2 74])
.ret))
.skip))))))))))
(.seq
(.ops [mv 75 0,
ca 76 47 [(t 75)]])
(.seq
(.ops [op 77 (.build [(.str []),(.str []),(.int .i64 0),.nilsl] []),
st 4 2 77])
.ret))))))⟩
theorem c87:Mir.compF Tryz.prog Tryz.f87=some g87:=by kernel_rfl
def g88:Mir.Fn:=⟨17,[],
(.block 0 (.seq
(.seq
(.ops [mv 5 0,
ca 6 40 [(t 5),(s [59])],
mv 4 6])
(.cond (t 4)
.skip
(.ops [mv 7 0,
oa 8 (.mkSl [(.str [])] 1 1 [(0,(1,(s [125])))]),
ca 9 26 [(t 7),(t 8)],
mv 4 9])))
(.cond (t 4)
.skip
(.seq
(.ops [mv 11 0,
ca 12 27 [(t 11)],
op 13 (.field 0 1 false (t 12)),
op 14 (.bin .eql (t 13) (i 1)),
mv 10 14])
(.cond (t 10)
(.ops [mv 15 0,
ca 16 28 [(t 15)]])
(.ops [mv 2 0,
ca 3 47 [(t 2)]]))))))⟩
theorem c88:Mir.compF Tryz.prog Tryz.f88=some g88:=by kernel_rfl
def g89:Mir.Fn:=⟨19,[(.tmp 4)],
(.seq
(.ops [op 4 (.mv (i 0))])
(.seq
(.seq
(.ops [mv 6 0,
op 7 (.lenSl (t 6)),
op 8 (.mv (i 0))])
(.block 0 (.loop (.seq
(.ops [op 9 (.bin .lss (t 8) (t 7))])
(.seq
(.cond (t 9)
.skip
(.exit 0))
(.seq
(.block 1 (.seq
(.ops [mv 10 8,
mv 5 10])
(.seq
(.ops [mv 11 1,
mv 12 0,
mv 13 5,
op 14 (.idxSl 1 (t 12) (t 13)),
ld 15 1 14,
op 16 (.bin .eql (t 11) (t 15))])
(.cond (t 16)
(.seq
(.ops [mv 17 5,
mv 4 17])
.ret)
.skip))))
(.ops [op 18 (.bin .add (t 8) (i 1)),
mv 8 18])))))))
(.seq
(.ops [op 4 (.mv (.c (.int .i64 (-1))))])
.ret)))⟩
theorem c89:Mir.compF Tryz.prog Tryz.f89=some g89:=by kernel_rfl
def g90:Mir.Fn:=⟨39,[(.cell 8 4 true)],
(.seq
(.ops [oa 8 (.alloc [(.str []),(.str []),(.int .i64 0),.nilsl])])
(.seq
(.ops [mv 12 1,
ok 13 (.h (.call (t 12) [])),
oa 9 (.alloc [(.str []),(.str []),(.int .i64 0),.nilsl]),
st 4 9 13])
(.block 0 (.loop (.block 1 (.seq
(.ops [mv 14 0,
ca 15 27 [(t 14)],
oa 10 (.alloc [(.int .i64 0),(.str []),(.int .i64 0)]),
st 3 10 15])
(.seq
(.ops [mv 16 3,
fa 17 1 10,
ld 18 1 17,
ok 19 (.r (.lookup (.one .str) (.str []) false (t 16) (t 18))),
mv 11 19])
(.seq
(.seq
(.ops [fa 20 0 10,
ld 21 1 20,
op 22 (.bin .neq (t 21) (i 8)),
mv 23 22,
gm 24 23 false 11,
og 25 23 false (.p (.bin .eql (t 24) (s []))),
oo 26 23 25])
(.cond (t 26)
(.seq
(.ops [la 27 4 9,
st 4 8 27])
.ret)
.skip))
(.seq
(.ops [mv 28 0,
ca 29 28 [(t 28)]])
(.seq
(.seq
(.ops [mv 30 2])
(.cond (t 30)
(.ops [mv 31 0,
ca 32 45 [(t 31)]])
.skip))
(.draw [mv 33 11,
dk 34 1 (.r (.load 4 true (t 9))),
dm 35 2 1,
⟨(some 36),none,(.h (.call (t 35) [])),3,[1]⟩,
dk 37 4 (.a (.mkSl [(.str []),(.str []),(.int .i64 0),.nilsl] 4 2 [(0,(4,(t 34))),(4,(4,(t 36)))])),
dk 38 5 (.h (.call (.c (.fn 25 [] [])) [(t 33),(t 37)])),
⟨none,none,(.h (.store 4 (t 9) (t 38))),6,[]⟩])))))))))))⟩
theorem c90:Mir.compF Tryz.prog Tryz.f90=some g90:=by kernel_rfl
def g91:Mir.Fn:=⟨9,[(.cell 2 4 true)],
(.seq
(.ops [oa 2 (.alloc [(.str []),(.str []),(.int .i64 0),.nilsl])])
(.seq
(.ops [mv 3 0,
mv 4 0,
op 5 (.mkFn 99 [(t 4)] []),
oa 6 .mkMap,
⟨none,none,(.h (.mapUpd (.one .str) (t 6) (s [38,38]) (s [97,110,100]))),0,[]⟩,
mv 7 6,
ca 8 90 [(t 3),(t 5),(.c (.bool true)),(t 7)],
st 4 2 8])
.ret))⟩
theorem c91:Mir.compF Tryz.prog Tryz.f91=some g91:=by kernel_rfl
def g92:Mir.Fn:=⟨20,[],
(.seq
(.ops [mv 2 0,
nc 3 2,
fa 4 0 3,
ld 5 1 4,
op 6 (.eq .ptr false (t 5) (.c .nilptr))])
(.cond (t 6)
(.ops [mv 7 0,
mv 8 0,
ok 9 (.r (.uns (t 8))),
mv 10 9,
ok 11 (.r (.uns (t 10))),
nc 12 7,
fa 13 0 12,
st 1 13 11])
(.seq
(.ops [mv 14 0,
nc 15 14,
fa 16 0 15,
ld 17 1 16,
mv 18 0,
op 19 (.eq .ptr true (t 17) (t 18))])
(.cond (t 19)
(.cond (.c .undef)
.skip
.skip)
.skip))))⟩
theorem c92:Mir.compF Tryz.prog Tryz.f92=some g92:=by kernel_rfl
def g93:Mir.Fn:=⟨5,[(.tmp 2)],
(.seq
(.ops [op 2 (.mv (s []))])
(.seq
(.ops [mv 3 0,
ca 4 101 [(t 3),(i 10)],
mv 2 4])
.ret))⟩
theorem c93:Mir.compF Tryz.prog Tryz.f93=some g93:=by kernel_rfl
def g94:Mir.Fn:=⟨8,[(.tmp 4)],
(.seq
(.ops [op 4 (.mv (i 0))])
(.seq
(.ops [mv 5 0,
mv 6 1,
ca 7 102 [(t 5),(t 6)],
mv 4 7])
.ret))⟩
theorem c94:Mir.compF Tryz.prog Tryz.f94=some g94:=by kernel_rfl
def g95:Mir.Fn:=⟨8,[(.tmp 4)],
(.seq
(.ops [op 4 (.mv (i 0))])
(.seq
(.ops [mv 5 0,
mv 6 1,
op 7 (.idxByte (t 5) (t 6)),
mv 4 7])
.ret))⟩
theorem c95:Mir.compF Tryz.prog Tryz.f95=some g95:=by kernel_rfl
def g96:Mir.Fn:=⟨37,[(.cell 4 3 true)],
(.seq
(.ops [oa 4 (.alloc [(.int .i64 0),(.str []),(.int .i64 0)])])
(.seq
(.seq
(.draw [mv 5 0,
dp 6 1 (.nilchk (t 5)),
df 7 2 4 6,
dl 8 3 1 7,
dp 9 4 (.bin .neq (t 8) (i 0)),
dm 10 5 9,
⟨(some 11),(some (10,false)),(.p (.mv (t 0))),6,[]⟩,
⟨(some 12),(some (10,false)),(.p (.nilchk (t 11))),7,[]⟩,
⟨(some 13),(some (10,false)),(.p (.fieldAt 1 (t 12))),8,[]⟩,
⟨(some 14),(some (10,false)),(.r (.load 1 false (t 13))),9,[]⟩,
⟨(some 15),(some (10,false)),(.p (.mv (t 1))),10,[]⟩,
⟨(some 16),(some (10,false)),(.p (.bin .add (t 14) (t 15))),11,[]⟩,
⟨(some 17),(some (10,false)),(.p (.mv (t 0))),12,[]⟩,
⟨(some 18),(some (10,false)),(.p (.nilchk (t 17))),13,[]⟩,
⟨(some 19),(some (10,false)),(.p (.fieldAt 0 (t 18))),14,[]⟩,
⟨(some 20),(some (10,false)),(.r (.load 1 false (t 19))),15,[]⟩,
⟨(some 21),(some (10,false)),(.p (.lenSl (t 20))),16,[]⟩,
⟨(some 22),(some (10,false)),(.p (.bin .geq (t 16) (t 21))),17,[]⟩,
dp 23 18 (.pick (t 10) (.c (.bool true)) (t 22))])
(.cond (t 23)
(.seq
(.ops [op 24 (.build [(.int .i64 0),(.str []),(.int .i64 0)] []),
st 3 4 24])
.ret)
.skip))
(.seq
(.draw [mv 25 0,
dp 26 1 (.nilchk (t 25)),
df 27 2 0 26,
dl 28 3 1 27,
dm 29 4 0,
dp 30 5 (.nilchk (t 29)),
df 31 6 1 30,
dl 32 7 1 31,
dm 33 8 1,
dp 34 9 (.bin .add (t 32) (t 33)),
dp 35 10 (.idxSl 3 (t 28) (t 34)),
dk 36 11 (.r (.load 3 true (t 35))),
⟨none,none,(.h (.store 3 (t 4) (t 36))),12,[]⟩])
.ret)))⟩
theorem c96:Mir.compF Tryz.prog Tryz.f96=some g96:=by kernel_rfl
def g97:Mir.Fn:=⟨18,[(.tmp 2)],
(.seq
(.ops [op 2 (.mv (.c (.bool false)))])
(.seq
(.ops [mv 3 0,
oa 4 (.mkSl [(.str [])] 1 3 [(0,(1,(s [59]))),(1,(1,(s [125]))),(2,(1,(s [41])))]),
ca 5 26 [(t 3),(t 4)],
mv 6 5,
gm 7 6 false 0,
og 8 6 false (.h (.call (.c (.fn 27 [] [])) [(t 7)])),
og 9 6 false (.p (.field 0 1 false (t 8))),
og 10 6 false (.p (.bin .eql (t 9) (i 1))),
oo 11 6 10,
mv 12 11,
gm 13 12 false 0,
og 14 12 false (.h (.call (.c (.fn 27 [] [])) [(t 13)])),
og 15 12 false (.p (.field 0 1 false (t 14))),
og 16 12 false (.p (.bin .eql (t 15) (i 0))),
oo 17 12 16,
mv 2 17])
.ret))⟩
theorem c97:Mir.compF Tryz.prog Tryz.f97=some g97:=by kernel_rfl
def g98:Mir.Fn:=⟨81,[(.cell 4 4 true)],
(.seq
(.ops [oa 4 (.alloc [(.str []),(.str []),(.int .i64 0),.nilsl])])
(.seq
(.ops [mv 9 0,
nc 10 9,
fa 11 3 10,
⟨none,none,(.h (.store 1 (t 11) (.c (.bool true)))),0,[]⟩])
(.seq
(.ops [op 5 (.mv (.c .nilsl))])
(.seq
(.seq
(.ops [mv 12 0,
ca 13 104 [(t 12)]])
(.cond (t 13)
(.seq
(.ops [mv 14 0,
ca 15 28 [(t 14)]])
(.ops [mv 16 0,
ca 17 105 [(t 16),(s [41])],
mv 5 17]))
(.block 0 (.loop (.seq
(.seq
(.ops [mv 18 0,
nc 19 18,
fa 20 4 19,
ld 21 1 20,
op 22 (.bin .eql (t 21) (i 0)),
mv 23 22,
gm 24 23 true 0,
og 25 23 true (.h (.call (.c (.fn 97 [] [])) [(t 24)])),
og 26 23 true (.p (.un .not (t 25))),
an 27 23 26,
mv 28 27,
gm 29 28 true 0,
og 30 28 true (.a (.mkSl [(.str [])] 1 2 [(0,(1,(s [62]))),(1,(1,(s [62,62])))])),
og 31 28 true (.h (.call (.c (.fn 26 [] [])) [(t 29),(t 30)])),
og 32 28 true (.p (.un .not (t 31))),
an 33 28 32])
(.cond (t 33)
.skip
(.exit 0)))
(.block 1 (.seq
(.seq
(.ops [mv 34 5,
op 35 (.lenSl (t 34)),
op 36 (.bin .gtr (t 35) (i 0))])
(.cond (t 36)
(.seq
(.ops [mv 37 0,
ca 38 44 [(t 37),(s [44])]])
(.ops [mv 39 0,
ca 40 45 [(t 39)]]))
.skip))
(.ops [mv 41 5,
mv 42 0,
ca 43 46 [(t 42)],
oa 44 (.mkSl [(.str []),(.str []),(.int .i64 0),.nilsl] 4 1 [(0,(4,(t 43)))]),
ok 45 (.h (.app 4 64 (t 41) (t 44))),
mv 5 45]))))))))
(.seq
(.ops [ca 46 25 [(s [110,111,110,101]),(.c .nilsl)],
oa 6 (.alloc [(.str []),(.str []),(.int .i64 0),.nilsl]),
st 4 6 46])
(.seq
(.seq
(.ops [oa 47 .mkMap,
⟨none,none,(.h (.mapUpd (.one .str) (t 47) (s [62]) (s [116,111]))),0,[]⟩,
⟨none,none,(.h (.mapUpd (.one .str) (t 47) (s [62,62]) (s [97,112,112,101,110,100]))),0,[]⟩,
mv 48 47,
ok 49 (.h (.range (t 48)))])
(.block 2 (.loop (.seq
(.ops [ok 50 (.h (.next (t 49))),
xt 51 50 0])
(.seq
(.cond (t 51)
.skip
(.exit 2))
(.block 3 (.seq
(.ops [ok 52 (.r (.entry (t 49))),
xt 53 52 0,
xt 54 52 1,
mv 7 53,
mv 8 54])
(.seq
(.ops [mv 55 0,
mv 56 7,
ca 57 40 [(t 55),(t 56)]])
(.cond (t 57)
(.seq
(.ops [mv 58 8,
mv 59 0,
ca 60 106 [(t 59)],
oa 61 (.mkSl [(.str []),(.str []),(.int .i64 0),.nilsl] 4 1 [(0,(4,(t 60)))]),
ca 62 25 [(t 58),(t 61)],
st 4 6 62])
(.exit 2))
.skip)))))))))
(.seq
(.ops [mv 63 0,
nc 64 63,
fa 65 3 64,
⟨none,none,(.h (.store 1 (t 65) (.c (.bool false)))),0,[]⟩])
(.seq
(.seq
(.ops [mv 66 1,
op 67 (.bin .eql (t 66) (s [112,114,105,110,116,102])),
mv 68 67,
gm 69 68 true 5,
og 70 68 true (.p (.lenSl (t 69))),
og 71 68 true (.p (.bin .eql (t 70) (i 0))),
an 72 68 71])
(.cond (t 72)
(.ops [mv 73 0,
ca 74 47 [(t 73)]])
.skip))
(.seq
(.ops [mv 75 1,
la 76 4 6,
oa 77 (.mkSl [(.str []),(.str []),(.int .i64 0),.nilsl] 4 1 [(0,(4,(t 76)))]),
mv 78 5,
ok 79 (.h (.app 4 64 (t 77) (t 78))),
ca 80 25 [(t 75),(t 79)],
st 4 4 80])
.ret)))))))))⟩
theorem c98:Mir.compF Tryz.prog Tryz.f98=some g98:=by kernel_rfl
def g99:Mir.Fn:=⟨15,[(.cell 2 4 true)],
(.seq
(.ops [oa 2 (.alloc [(.str []),(.str []),(.int .i64 0),.nilsl])])
(.seq
(.ops [mv 4 0,
ca 5 107 [(t 4)],
oa 3 (.alloc [(.str []),(.str []),(.int .i64 0),.nilsl]),
st 4 3 5])
(.seq
(.block 0 (.loop (.seq
(.seq
(.ops [mv 6 0,
ca 7 40 [(t 6),(s [105,110])]])
(.cond (t 7)
.skip
(.exit 0)))
(.block 1 (.draw [mv 8 0,
dk 9 1 (.a (.mkSl [(.int .i64 0)] 1 1 [(0,(1,(i 5)))])),
dk 11 3 (.r (.load 4 true (t 3))),
⟨(some 10),none,(.h (.call (.c (.fn 43 [] [])) [(t 8),(t 9)])),2,[3]⟩,
dk 12 4 (.a (.mkSl [(.str []),(.str []),(.int .i64 0),.nilsl] 4 1 [(0,(4,(t 11)))])),
dk 13 5 (.h (.call (.c (.fn 42 [] [])) [(s [105,110]),(t 10),(t 12)])),
⟨none,none,(.h (.store 4 (t 3) (t 13))),6,[]⟩])))))
(.seq
(.ops [la 14 4 3,
st 4 2 14])
.ret))))⟩
theorem c99:Mir.compF Tryz.prog Tryz.f99=some g99:=by kernel_rfl
def Um:Mir.Fn:=⟨54,[(.tmp 4)],
(.seq
(.ops [op 4 (.mv (s []))])
(.seq
(.seq
(.ops [mv 10 1,
op 11 (.bin .eql (t 10) (i 10))])
(.cond (t 11)
(.seq
(.seq
(.ops [mv 12 0,
op 13 (.bin .leq (i 0) (t 12)),
mv 14 13,
gm 15 14 true 0,
og 16 14 true (.p (.bin .lss (t 15) (i 100))),
an 17 14 16])
(.cond (t 17)
(.seq
(.ops [mv 18 0,
ca 19 108 [(t 18)],
mv 4 19])
.ret)
.skip))
(.seq
(.ops [oa 5 (.alloc [(.int .u8 0),(.int .u8 0),(.int .u8 0),(.int .u8 0),(.int .u8 0),(.int .u8 0),(.int .u8 0),(.int .u8 0),(.int .u8 0),(.int .u8 0),(.int .u8 0),(.int .u8 0),(.int .u8 0),(.int .u8 0),(.int .u8 0),(.int .u8 0),(.int .u8 0),(.int .u8 0),(.int .u8 0),(.int .u8 0),(.int .u8 0),(.int .u8 0),(.int .u8 0),(.int .u8 0)])])
(.seq
(.ops [mv 20 0,
op 21 (.convInt .u64 (t 20)),
mv 6 21])
(.seq
(.seq
(.ops [mv 22 0,
op 23 (.bin .lss (t 22) (i 0))])
(.cond (t 23)
(.ops [mv 24 6,
op 25 (.un .neg (t 24)),
mv 6 25])
.skip))
(.seq
(.ops [mv 26 6,
ca 27 109 [(t 26)],
mv 7 27])
(.seq
(.ops [mv 28 7,
op 29 (.bin .add (i 1) (t 28)),
ok 30 (.r (.slArr 24 1 (t 5) (some (i 1)) (some (t 29)))),
mv 31 6,
ca 32 110 [(t 30),(t 31)]])
(.seq
(.seq
(.ops [mv 33 0,
op 34 (.bin .lss (t 33) (i 0))])
(.cond (t 34)
(.seq
(.ops [op 35 (.idxArr 24 1 (t 5) (i 0)),
⟨none,none,(.h (.store 1 (t 35) (u 45))),0,[]⟩])
(.seq
(.ops [mv 36 7,
op 37 (.bin .add (i 1) (t 36)),
ok 38 (.r (.slArr 24 1 (t 5) none (some (t 37)))),
ok 39 (.r (.toStr (t 38))),
mv 4 39])
.ret))
.skip))
(.seq
(.ops [mv 40 7,
op 41 (.bin .add (i 1) (t 40)),
ok 42 (.r (.slArr 24 1 (t 5) (some (i 1)) (some (t 41)))),
ok 43 (.r (.toStr (t 42))),
mv 4 43])
.ret))))))))
.skip))
(.seq
(.ops [mv 45 0,
op 46 (.convInt .u64 (t 45)),
mv 47 1,
mv 48 0,
op 49 (.bin .lss (t 48) (i 0)),
ca 50 111 [(.c .nilsl),(t 46),(t 47),(t 49),(.c (.bool false))],
mv 44 50,
xt 51 44 0,
xt 52 44 1,
mv 8 51,
mv 9 52])
(.seq
(.ops [mv 53 9,
mv 4 53])
.ret))))⟩
theorem UU:Mir.compF Tryz.prog Tryz.f101=some Um:=by kernel_rfl
def KJ:Mir.Fn:=⟨143,[(.tmp 4)],
(.seq
(.ops [op 4 (.mv (i 0))])
(.seq
(.ops [mv 14 1,
op 15 (.lenStr (t 14)),
mv 5 15])
(.seq
(.block 0 (.seq
(.ops [mv 17 5,
op 18 (.bin .eql (t 17) (i 0)),
mv 19 18,
gm 20 19 false 1,
gm 21 19 false 0,
og 22 19 false (.p (.bin .eql (t 20) (t 21))),
oo 23 19 22,
mv 16 23])
(.cond (t 16)
(.seq
(.ops [op 4 (.mv (i 0))])
.ret)
(.seq
(.ops [mv 25 5,
op 26 (.bin .eql (t 25) (i 1)),
mv 24 26])
(.cond (t 24)
(.seq
(.ops [mv 27 0,
mv 28 1,
op 29 (.idxStr (t 28) (i 0)),
ca 30 95 [(t 27),(t 29)],
mv 4 30])
.ret)
(.seq
(.ops [mv 32 5,
mv 33 0,
op 34 (.lenStr (t 33)),
op 35 (.bin .geq (t 32) (t 34)),
mv 31 35])
(.cond (t 31)
(.seq
(.ops [op 4 (.mv (.c (.int .i64 (-1))))])
.ret)
(.seq
(.ops [mv 37 5,
ok 38 (.r (.load 1 false (.glob 4))),
op 39 (.bin .leq (t 37) (t 38)),
mv 40 39,
gm 41 40 true 0,
og 42 40 true (.p (.lenStr (t 41))),
og 43 40 true (.p (.bin .leq (t 42) (i 64))),
an 44 40 43,
mv 36 44])
(.cond (t 36)
(.seq
(.ops [mv 45 0,
mv 46 1,
ok 47 (.r (.idxSub 4 (t 45) (t 46))),
mv 4 47])
.ret)
.skip)))))))))
(.seq
(.ops [mv 48 1,
op 49 (.idxStr (t 48) (i 0)),
mv 6 49])
(.seq
(.ops [mv 50 1,
op 51 (.idxStr (t 50) (i 1)),
mv 7 51])
(.seq
(.ops [op 8 (.mv (i 0))])
(.seq
(.ops [mv 52 0,
op 53 (.lenStr (t 52)),
mv 54 5,
op 55 (.bin .sub (t 53) (t 54)),
op 56 (.bin .add (t 55) (i 1)),
mv 9 56])
(.seq
(.ops [op 10 (.mv (i 0))])
(.seq
(.block 1 (.loop (.seq
(.seq
(.ops [mv 57 8,
mv 58 9,
op 59 (.bin .lss (t 57) (t 58))])
(.cond (t 59)
.skip
(.exit 1)))
(.block 2 (.seq
(.seq
(.ops [mv 60 0,
mv 61 8,
op 62 (.idxStr (t 60) (t 61)),
mv 63 6,
op 64 (.bin .neq (t 62) (t 63))])
(.cond (t 64)
(.seq
(.ops [mv 65 0,
mv 66 8,
op 67 (.bin .add (t 66) (i 1)),
mv 68 9,
op 69 (.subStr (t 65) (some (t 67)) (some (t 68))),
mv 70 6,
ca 71 95 [(t 69),(t 70)],
mv 11 71])
(.seq
(.seq
(.ops [mv 72 11,
op 73 (.bin .lss (t 72) (i 0))])
(.cond (t 73)
(.seq
(.ops [op 4 (.mv (.c (.int .i64 (-1))))])
.ret)
.skip))
(.ops [mv 74 8,
mv 75 11,
op 76 (.bin .add (t 75) (i 1)),
op 77 (.bin .add (t 74) (t 76)),
mv 8 77])))
.skip))
(.seq
(.seq
(.ops [mv 78 0,
mv 79 8,
op 80 (.bin .add (t 79) (i 1)),
op 81 (.idxStr (t 78) (t 80)),
mv 82 7,
op 83 (.bin .eql (t 81) (t 82)),
mv 84 83,
gm 85 84 true 0,
gm 86 84 true 8,
gm 87 84 true 8,
gm 88 84 true 5,
og 89 84 true (.p (.bin .add (t 87) (t 88))),
og 90 84 true (.p (.subStr (t 85) (some (t 86)) (some (t 89)))),
gm 91 84 true 1,
og 92 84 true (.p (.bin .eql (t 90) (t 91))),
an 93 84 92])
(.cond (t 93)
(.seq
(.ops [mv 94 8,
mv 4 94])
.ret)
.skip))
(.seq
(.ops [mv 95 8,
op 96 (.bin .add (t 95) (i 1)),
mv 8 96])
(.seq
(.ops [mv 97 10,
op 98 (.bin .add (t 97) (i 1)),
mv 10 98])
(.seq
(.ops [mv 99 5,
ok 100 (.r (.load 1 false (.glob 4))),
op 101 (.bin .leq (t 99) (t 100)),
mv 102 101,
gm 103 102 true 10,
gm 104 102 true 8,
og 105 102 true (.h (.call (.c (.fn 113 [] [])) [(t 104)])),
og 106 102 true (.p (.bin .gtr (t 103) (t 105))),
an 107 102 106])
(.cond (t 107)
(.seq
(.ops [mv 108 0,
mv 109 8,
op 110 (.subStr (t 108) (some (t 109)) none),
mv 111 1,
ok 112 (.r (.idxSub 4 (t 110) (t 111))),
mv 12 112])
(.seq
(.seq
(.ops [mv 113 12,
op 114 (.bin .geq (t 113) (i 0))])
(.cond (t 114)
(.seq
(.ops [mv 115 12,
mv 116 8,
op 117 (.bin .add (t 115) (t 116)),
mv 4 117])
.ret)
.skip))
(.seq
(.ops [op 4 (.mv (.c (.int .i64 (-1))))])
.ret)))
(.seq
(.ops [mv 118 5,
ok 119 (.r (.load 1 false (.glob 4))),
op 120 (.bin .gtr (t 118) (t 119)),
mv 121 120,
gm 122 121 true 10,
gm 123 121 true 8,
og 124 121 true (.p (.bin .shr (t 123) (.c (.int .u64 4)))),
og 125 121 true (.p (.bin .add (i 4) (t 124))),
og 126 121 true (.p (.bin .geq (t 122) (t 125))),
an 127 121 126,
mv 128 127,
gm 129 128 true 8,
gm 130 128 true 9,
og 131 128 true (.p (.bin .lss (t 129) (t 130))),
an 132 128 131])
(.cond (t 132)
(.seq
(.ops [mv 133 0,
mv 134 8,
op 135 (.subStr (t 133) (some (t 134)) none),
mv 136 1,
ca 137 114 [(t 135),(t 136)],
mv 13 137])
(.seq
(.seq
(.ops [mv 138 13,
op 139 (.bin .lss (t 138) (i 0))])
(.cond (t 139)
(.seq
(.ops [op 4 (.mv (.c (.int .i64 (-1))))])
.ret)
.skip))
(.seq
(.ops [mv 140 8,
mv 141 13,
op 142 (.bin .add (t 140) (t 141)),
mv 4 142])
.ret)))
.skip))))))))))))
(.seq
(.ops [op 4 (.mv (.c (.int .i64 (-1))))])
.ret))))))))))⟩
theorem UV:Mir.compF Tryz.prog Tryz.f102=some KJ:=by kernel_rfl
def KL:Mir.Fn:=⟨90,[(.tmp 2)],
(.seq
(.ops [op 2 (.mv (.c (.bool false)))])
(.seq
(.seq
(.ops [mv 7 0,
oa 8 (.mkSl [(.str [])] 1 1 [(0,(1,(s [40])))]),
ca 9 26 [(t 7),(t 8)],
op 10 (.un .not (t 9))])
(.cond (t 10)
(.seq
(.ops [op 2 (.mv (.c (.bool false)))])
.ret)
.skip))
(.seq
(.ops [op 3 (.mv (i 0))])
(.seq
(.seq
(.ops [mv 11 0,
nc 12 11,
fa 13 1 12,
ld 14 1 13,
mv 4 14])
(.block 0 (.loop (.seq
(.seq
(.ops [mv 15 4,
mv 16 0,
nc 17 16,
fa 18 0 17,
ld 19 1 18,
op 20 (.lenSl (t 19)),
op 21 (.bin .lss (t 15) (t 20))])
(.cond (t 21)
.skip
(.exit 0)))
(.seq
(.block 1 (.seq
(.ops [mv 24 0,
nc 25 24,
fa 26 0 25,
ld 27 1 26,
mv 28 4,
op 29 (.idxSl 3 (t 27) (t 28)),
la 30 3 29,
oa 5 (.alloc [(.int .i64 0),(.str []),(.int .i64 0)]),
st 3 5 30])
(.seq
(.block 2 (.seq
(.ops [fa 32 0 5,
ld 33 1 32,
op 34 (.bin .eql (t 33) (i 8)),
mv 35 34,
og 36 35 true (.p (.fieldAt 1 (t 5))),
og 37 35 true (.r (.load 1 false (t 36))),
og 38 35 true (.p (.bin .eql (t 37) (s [40]))),
an 39 35 38,
mv 31 39])
(.cond (t 31)
(.ops [mv 40 3,
op 41 (.bin .add (t 40) (i 1)),
mv 3 41])
(.seq
(.ops [fa 43 0 5,
ld 44 1 43,
op 45 (.bin .eql (t 44) (i 8)),
mv 46 45,
og 47 46 true (.p (.fieldAt 1 (t 5))),
og 48 46 true (.r (.load 1 false (t 47))),
og 49 46 true (.p (.bin .eql (t 48) (s [41]))),
an 50 46 49,
mv 42 50])
(.cond (t 42)
(.ops [mv 51 3,
op 52 (.bin .sub (t 51) (i 1)),
mv 3 52])
.skip)))))
(.seq
(.ops [mv 53 3,
op 54 (.bin .eql (t 53) (i 0))])
(.cond (t 54)
(.seq
(.draw [mv 55 0,
dp 56 1 (.nilchk (t 55)),
df 57 2 0 56,
dl 58 3 1 57,
dm 59 4 4,
dp 60 5 (.bin .add (t 59) (i 1)),
dm 61 6 0,
dp 62 7 (.nilchk (t 61)),
df 63 8 0 62,
dl 64 9 1 63,
dp 65 10 (.lenSl (t 64)),
dp 66 11 (.bin .sub (t 65) (i 1)),
dp 67 12 (.mnmx false (t 60) [(t 66)]),
dp 68 13 (.idxSl 3 (t 58) (t 67)),
dk 69 14 (.r (.load 3 true (t 68))),
dk 6 15 (.a (.alloc [(.int .i64 0),(.str []),(.int .i64 0)])),
⟨none,none,(.h (.store 3 (t 6) (t 69))),16,[]⟩])
(.seq
(.ops [fa 70 0 6,
ld 71 1 70,
op 72 (.bin .eql (t 71) (i 0)),
mv 73 72,
og 74 73 false (.p (.fieldAt 0 (t 6))),
og 75 73 false (.r (.load 1 false (t 74))),
og 76 73 false (.p (.bin .eql (t 75) (i 1))),
oo 77 73 76,
mv 78 77,
og 79 78 false (.p (.fieldAt 0 (t 6))),
og 80 78 false (.r (.load 1 false (t 79))),
og 81 78 false (.p (.bin .eql (t 80) (i 8))),
gm 82 78 false 81,
og 83 82 true (.p (.fieldAt 1 (t 6))),
og 84 82 true (.r (.load 1 false (t 83))),
og 85 82 true (.p (.bin .add (s [32]) (t 84))),
og 86 82 true (.p (.bin .add (t 85) (s [32]))),
og 87 82 true (.h (.call (.c (.fn 81 [] [])) [(s [32,59,32,125,32,62,32,62,62,32]),(t 86)])),
og 88 78 false (.p (.pick (t 82) (t 87) (.c (.bool false)))),
oo 89 78 88,
mv 2 89])
.ret))
.skip)))))
(.ops [mv 22 4,
op 23 (.bin .add (t 22) (i 1)),
mv 4 23]))))))
(.seq
(.ops [op 2 (.mv (.c (.bool false)))])
.ret)))))⟩
theorem UW:Mir.compF Tryz.prog Tryz.f104=some KL:=by kernel_rfl
def KN:Mir.Fn:=⟨50,[(.tmp 4)],
(.seq
(.ops [op 4 (.mv (.c .nilsl))])
(.seq
(.ops [op 5 (.mv (.c .nilsl))])
(.seq
(.ops [mv 7 0,
nc 8 7,
fa 9 3 8,
ld 10 1 9,
mv 6 10])
(.seq
(.ops [mv 11 0,
nc 12 11,
fa 13 3 12,
⟨none,none,(.h (.store 1 (t 13) (.c (.bool false)))),0,[]⟩])
(.seq
(.ops [mv 14 0,
ca 15 45 [(t 14)]])
(.seq
(.block 0 (.loop (.seq
(.seq
(.ops [mv 16 0,
nc 17 16,
fa 18 4 17,
ld 19 1 18,
op 20 (.bin .eql (t 19) (i 0)),
mv 21 20,
gm 22 21 true 0,
gm 23 21 true 1,
og 24 21 true (.a (.mkSl [(.str [])] 1 1 [(0,(1,(t 23)))])),
og 25 21 true (.h (.call (.c (.fn 26 [] [])) [(t 22),(t 24)])),
og 26 21 true (.p (.un .not (t 25))),
an 27 21 26])
(.cond (t 27)
.skip
(.exit 0)))
(.block 1 (.seq
(.seq
(.ops [mv 28 5,
op 29 (.lenSl (t 28)),
op 30 (.bin .gtr (t 29) (i 0))])
(.cond (t 30)
(.seq
(.ops [mv 31 0,
ca 32 44 [(t 31),(s [44])]])
(.ops [mv 33 0,
ca 34 45 [(t 33)]]))
.skip))
(.seq
(.ops [mv 35 5,
mv 36 0,
ca 37 46 [(t 36)],
oa 38 (.mkSl [(.str []),(.str []),(.int .i64 0),.nilsl] 4 1 [(0,(4,(t 37)))]),
ok 39 (.h (.app 4 64 (t 35) (t 38))),
mv 5 39])
(.ops [mv 40 0,
ca 41 45 [(t 40)]])))))))
(.seq
(.ops [mv 42 0,
mv 43 1,
ca 44 44 [(t 42),(t 43)]])
(.seq
(.ops [mv 45 0,
mv 46 6,
nc 47 45,
fa 48 3 47,
st 1 48 46])
(.seq
(.ops [mv 49 5,
mv 4 49])
.ret)))))))))⟩
theorem c105:Mir.compF Tryz.prog Tryz.f105=some KN:=by kernel_rfl
def KO:Mir.Fn:=⟨26,[(.cell 2 4 true)],
(.seq
(.ops [oa 2 (.alloc [(.str []),(.str []),(.int .i64 0),.nilsl])])
(.seq
(.ops [mv 5 0,
ca 6 115 [(t 5)],
oa 3 (.alloc [(.str []),(.str []),(.int .i64 0),.nilsl]),
st 4 3 6])
(.block 0 (.loop (.block 1 (.seq
(.ops [mv 7 0,
ca 8 27 [(t 7)],
oa 4 (.alloc [(.int .i64 0),(.str []),(.int .i64 0)]),
st 3 4 8])
(.seq
(.seq
(.ops [oa 9 (.mkSl [(.int .i64 0)] 1 5 [(0,(1,(i 2))),(1,(1,(i 3))),(2,(1,(i 5))),(3,(1,(i 6))),(4,(1,(i 9)))]),
fa 10 0 4,
ld 11 1 10,
ca 12 70 [(t 9),(t 11)],
op 13 (.un .not (t 12)),
mv 14 13,
gm 15 14 true 0,
og 16 14 true (.a (.mkSl [(.str [])] 1 2 [(0,(1,(s [36]))),(1,(1,(s [40])))])),
og 17 14 true (.h (.call (.c (.fn 26 [] [])) [(t 15),(t 16)])),
og 18 14 true (.p (.un .not (t 17))),
an 19 14 18])
(.cond (t 19)
(.seq
(.ops [la 20 4 3,
st 4 2 20])
.ret)
.skip))
(.draw [la 21 4 3,
dm 22 1 0,
⟨(some 23),none,(.h (.call (.c (.fn 115 [] [])) [(t 22)])),2,[0]⟩,
dk 24 3 (.a (.mkSl [(.str []),(.str []),(.int .i64 0),.nilsl] 4 2 [(0,(4,(t 21))),(4,(4,(t 23)))])),
dk 25 4 (.h (.call (.c (.fn 25 [] [])) [(s [99,97,116]),(t 24)])),
⟨none,none,(.h (.store 4 (t 3) (t 25))),5,[]⟩]))))))))⟩
theorem UX:Mir.compF Tryz.prog Tryz.f106=some KO:=by kernel_rfl
def KP:Mir.Fn:=⟨9,[(.cell 2 4 true)],
(.seq
(.ops [oa 2 (.alloc [(.str []),(.str []),(.int .i64 0),.nilsl])])
(.seq
(.ops [mv 3 0,
mv 4 0,
op 5 (.mkFn 116 [(t 4)] []),
oa 6 .mkMap,
⟨none,none,(.h (.mapUpd (.one .str) (t 6) (s [126]) (s [109,97,116,99,104]))),0,[]⟩,
⟨none,none,(.h (.mapUpd (.one .str) (t 6) (s [33,126]) (s [110,111,109,97,116,99,104]))),0,[]⟩,
mv 7 6,
ca 8 90 [(t 3),(t 5),(.c (.bool false)),(t 7)],
st 4 2 8])
.ret))⟩
theorem c107:Mir.compF Tryz.prog Tryz.f107=some KP:=by kernel_rfl
def Un:Mir.Fn:=⟨15,[(.tmp 2)],
(.seq
(.ops [op 2 (.mv (s []))])
(.seq
(.seq
(.ops [mv 3 0,
op 4 (.bin .lss (t 3) (i 10))])
(.cond (t 4)
(.seq
(.ops [mv 5 0,
mv 6 0,
op 7 (.bin .add (t 6) (i 1)),
op 8 (.subStr (s [48,49,50,51,52,53,54,55,56,57,97,98,99,100,101,102,103,104,105,106,107,108,109,110,111,112,113,114,115,116,117,118,119,120,121,122]) (some (t 5)) (some (t 7))),
mv 2 8])
.ret)
.skip))
(.seq
(.ops [mv 9 0,
op 10 (.bin .mul (t 9) (i 2)),
mv 11 0,
op 12 (.bin .mul (t 11) (i 2)),
op 13 (.bin .add (t 12) (i 2)),
op 14 (.subStr (s [48,48,48,49,48,50,48,51,48,52,48,53,48,54,48,55,48,56,48,57,49,48,49,49,49,50,49,51,49,52,49,53,49,54,49,55,49,56,49,57,50,48,50,49,50,50,50,51,50,52,50,53,50,54,50,55,50,56,50,57,51,48,51,49,51,50,51,51,51,52,51,53,51,54,51,55,51,56,51,57,52,48,52,49,52,50,52,51,52,52,52,53,52,54,52,55,52,56,52,57,53,48,53,49,53,50,53,51,53,52,53,53,53,54,53,55,53,56,53,57,54,48,54,49,54,50,54,51,54,52,54,53,54,54,54,55,54,56,54,57,55,48,55,49,55,50,55,51,55,52,55,53,55,54,55,55,55,56,55,57,56,48,56,49,56,50,56,51,56,52,56,53,56,54,56,55,56,56,56,57,57,48,57,49,57,50,57,51,57,52,57,53,57,54,57,55,57,56,57,57]) (some (t 10)) (some (t 13))),
mv 2 14])
.ret)))⟩
theorem UY:Mir.compF Tryz.prog Tryz.f108=some Un:=by kernel_rfl
def KQ:Mir.Fn:=⟨81,[(.tmp 4)],
(.seq
(.ops [op 4 (.mv (i 0))])
(.seq
(.ops [mv 12 1,
ca 13 122 [(t 12)],
mv 11 13,
xt 14 11 0,
xt 15 11 1,
mv 5 14,
mv 6 15])
(.seq
(.ops [mv 16 1,
op 17 (.lenStr (t 16)),
mv 7 17])
(.seq
(.ops [op 8 (.mv (.c (.int .u32 0)))])
(.seq
(.seq
(.ops [op 9 (.mv (i 0))])
(.block 0 (.loop (.seq
(.seq
(.ops [mv 18 9,
mv 19 7,
op 20 (.bin .lss (t 18) (t 19))])
(.cond (t 20)
.skip
(.exit 0)))
(.seq
(.block 1 (.ops [mv 23 8,
op 24 (.bin .mul (t 23) (.c (.int .u32 16777619))),
mv 25 0,
mv 26 9,
op 27 (.idxStr (t 25) (t 26)),
op 28 (.convInt .u32 (t 27)),
op 29 (.bin .add (t 24) (t 28)),
mv 8 29]))
(.ops [mv 21 9,
op 22 (.bin .add (t 21) (i 1)),
mv 9 22]))))))
(.seq
(.seq
(.ops [mv 30 8,
mv 31 5,
op 32 (.bin .eql (t 30) (t 31)),
mv 33 32,
gm 34 33 true 0,
gm 35 33 true 7,
og 36 33 true (.p (.subStr (t 34) none (some (t 35)))),
gm 37 33 true 1,
og 38 33 true (.p (.bin .eql (t 36) (t 37))),
an 39 33 38])
(.cond (t 39)
(.seq
(.ops [op 4 (.mv (i 0))])
.ret)
.skip))
(.seq
(.seq
(.ops [mv 40 7,
mv 10 40])
(.block 2 (.loop (.seq
(.seq
(.ops [mv 41 10,
mv 42 0,
op 43 (.lenStr (t 42)),
op 44 (.bin .lss (t 41) (t 43))])
(.cond (t 44)
.skip
(.exit 2)))
(.block 3 (.seq
(.ops [mv 45 8,
op 46 (.bin .mul (t 45) (.c (.int .u32 16777619))),
mv 8 46])
(.seq
(.ops [mv 47 8,
mv 48 0,
mv 49 10,
op 50 (.idxStr (t 48) (t 49)),
op 51 (.convInt .u32 (t 50)),
op 52 (.bin .add (t 47) (t 51)),
mv 8 52])
(.seq
(.ops [mv 53 8,
mv 54 6,
mv 55 0,
mv 56 10,
mv 57 7,
op 58 (.bin .sub (t 56) (t 57)),
op 59 (.idxStr (t 55) (t 58)),
op 60 (.convInt .u32 (t 59)),
op 61 (.bin .mul (t 54) (t 60)),
op 62 (.bin .sub (t 53) (t 61)),
mv 8 62])
(.seq
(.ops [mv 63 10,
op 64 (.bin .add (t 63) (i 1)),
mv 10 64])
(.seq
(.ops [mv 65 8,
mv 66 5,
op 67 (.bin .eql (t 65) (t 66)),
mv 68 67,
gm 69 68 true 0,
gm 70 68 true 10,
gm 71 68 true 7,
og 72 68 true (.p (.bin .sub (t 70) (t 71))),
gm 73 68 true 10,
og 74 68 true (.p (.subStr (t 69) (some (t 72)) (some (t 73)))),
gm 75 68 true 1,
og 76 68 true (.p (.bin .eql (t 74) (t 75))),
an 77 68 76])
(.cond (t 77)
(.seq
(.ops [mv 78 10,
mv 79 7,
op 80 (.bin .sub (t 78) (t 79)),
mv 4 80])
.ret)
.skip)))))))))))
(.seq
(.ops [op 4 (.mv (.c (.int .i64 (-1))))])
.ret))))))))⟩
theorem UZ:Mir.compF Tryz.prog Tryz.f114=some KQ:=by kernel_rfl
def KR:Mir.Fn:=⟨9,[(.cell 2 4 true)],
(.seq
(.ops [oa 2 (.alloc [(.str []),(.str []),(.int .i64 0),.nilsl])])
(.seq
(.ops [mv 3 0,
mv 4 0,
op 5 (.mkFn 123 [(t 4)] []),
oa 6 .mkMap,
⟨none,none,(.h (.mapUpd (.one .str) (t 6) (s [43]) (s [97,100,100]))),0,[]⟩,
⟨none,none,(.h (.mapUpd (.one .str) (t 6) (s [45]) (s [115,117,98]))),0,[]⟩,
mv 7 6,
ca 8 90 [(t 3),(t 5),(.c (.bool false)),(t 7)],
st 4 2 8])
.ret))⟩
theorem U0:Mir.compF Tryz.prog Tryz.f115=some KR:=by kernel_rfl
def KT:Mir.Fn:=⟨42,[(.cell 2 4 true)],
(.seq
(.ops [oa 2 (.alloc [(.str []),(.str []),(.int .i64 0),.nilsl])])
(.seq
(.ops [mv 6 0,
ca 7 106 [(t 6)],
oa 3 (.alloc [(.str []),(.str []),(.int .i64 0),.nilsl]),
st 4 3 7])
(.seq
(.ops [mv 8 0,
ca 9 27 [(t 8)],
oa 4 (.alloc [(.int .i64 0),(.str []),(.int .i64 0)]),
st 3 4 9])
(.seq
(.ops [oa 10 .mkMap,
⟨none,none,(.h (.mapUpd (.one .str) (t 10) (s [60]) (s [108,101,115,115]))),0,[]⟩,
⟨none,none,(.h (.mapUpd (.one .str) (t 10) (s [60,61]) (s [108,101,115,115,101,113]))),0,[]⟩,
⟨none,none,(.h (.mapUpd (.one .str) (t 10) (s [61,61]) (s [101,113,117,97,108]))),0,[]⟩,
⟨none,none,(.h (.mapUpd (.one .str) (t 10) (s [33,61]) (s [110,111,116,101,113,117,97,108]))),0,[]⟩,
⟨none,none,(.h (.mapUpd (.one .str) (t 10) (s [62]) (s [103,114,101,97,116,101,114]))),0,[]⟩,
⟨none,none,(.h (.mapUpd (.one .str) (t 10) (s [62,61]) (s [103,114,101,97,116,101,114,101,113]))),0,[]⟩,
mv 11 10,
fa 12 1 4,
ld 13 1 12,
ok 14 (.r (.lookup (.one .str) (.str []) false (t 11) (t 13))),
mv 5 14])
(.seq
(.seq
(.ops [fa 15 0 4,
ld 16 1 15,
op 17 (.bin .neq (t 16) (i 8)),
mv 18 17,
gm 19 18 false 5,
og 20 18 false (.p (.bin .eql (t 19) (s []))),
oo 21 18 20,
mv 22 21,
og 23 22 false (.p (.fieldAt 1 (t 4))),
og 24 22 false (.r (.load 1 false (t 23))),
og 25 22 false (.p (.bin .eql (t 24) (s [62]))),
gm 26 22 false 25,
gm 27 26 true 0,
og 28 26 true (.p (.nilchk (t 27))),
og 29 26 true (.p (.fieldAt 3 (t 28))),
og 30 26 true (.r (.load 1 false (t 29))),
og 31 22 false (.p (.pick (t 26) (t 30) (.c (.bool false)))),
oo 32 22 31])
(.cond (t 32)
(.seq
(.ops [la 33 4 3,
st 4 2 33])
.ret)
.skip))
(.seq
(.ops [mv 34 0,
ca 35 28 [(t 34)]])
(.seq
(.draw [mv 36 5,
dk 37 1 (.r (.load 4 true (t 3))),
dm 38 2 0,
⟨(some 39),none,(.h (.call (.c (.fn 106 [] [])) [(t 38)])),3,[1]⟩,
dk 40 4 (.a (.mkSl [(.str []),(.str []),(.int .i64 0),.nilsl] 4 2 [(0,(4,(t 37))),(4,(4,(t 39)))])),
dk 41 5 (.h (.call (.c (.fn 25 [] [])) [(t 36),(t 40)])),
⟨none,none,(.h (.store 4 (t 2) (t 41))),6,[]⟩])
.ret)))))))⟩
theorem c116:Mir.compF Tryz.prog Tryz.f116=some KT:=by kernel_rfl
def KU:Mir.Fn:=⟨39,[(.tmp 2),(.tmp 3)],
(.seq
(.ops [op 2 (.mv (.c (.int .u32 0))),
op 3 (.mv (.c (.int .u32 0)))])
(.seq
(.ops [op 4 (.mv (.c (.int .u32 0)))])
(.seq
(.seq
(.ops [op 5 (.mv (i 0))])
(.block 0 (.loop (.seq
(.seq
(.ops [mv 9 5,
mv 10 0,
op 11 (.lenStr (t 10)),
op 12 (.bin .lss (t 9) (t 11))])
(.cond (t 12)
.skip
(.exit 0)))
(.seq
(.block 1 (.ops [mv 15 4,
op 16 (.bin .mul (t 15) (.c (.int .u32 16777619))),
mv 17 0,
mv 18 5,
op 19 (.idxStr (t 17) (t 18)),
op 20 (.convInt .u32 (t 19)),
op 21 (.bin .add (t 16) (t 20)),
mv 4 21]))
(.ops [mv 13 5,
op 14 (.bin .add (t 13) (i 1)),
mv 5 14]))))))
(.seq
(.ops [op 6 (.mv (.c (.int .u32 1))),
op 7 (.mv (.c (.int .u32 16777619)))])
(.seq
(.seq
(.ops [mv 22 0,
op 23 (.lenStr (t 22)),
mv 8 23])
(.block 2 (.loop (.seq
(.seq
(.ops [mv 24 8,
op 25 (.bin .gtr (t 24) (i 0))])
(.cond (t 25)
.skip
(.exit 2)))
(.seq
(.block 3 (.seq
(.seq
(.ops [mv 28 8,
op 29 (.bin .and (t 28) (i 1)),
op 30 (.bin .neq (t 29) (i 0))])
(.cond (t 30)
(.ops [mv 31 6,
mv 32 7,
op 33 (.bin .mul (t 31) (t 32)),
mv 6 33])
.skip))
(.ops [mv 34 7,
mv 35 7,
op 36 (.bin .mul (t 34) (t 35)),
mv 7 36])))
(.ops [mv 26 8,
op 27 (.bin .shr (t 26) (.c (.int .u64 1))),
mv 8 27]))))))
(.seq
(.ops [mv 37 4,
mv 38 6,
mv 2 37,
mv 3 38])
.ret))))))⟩
theorem U1:Mir.compF Tryz.prog Tryz.f122=some KU:=by kernel_rfl
def KW:Mir.Fn:=⟨9,[(.cell 2 4 true)],
(.seq
(.ops [oa 2 (.alloc [(.str []),(.str []),(.int .i64 0),.nilsl])])
(.seq
(.ops [mv 3 0,
mv 4 0,
op 5 (.mkFn 126 [(t 4)] []),
oa 6 .mkMap,
⟨none,none,(.h (.mapUpd (.one .str) (t 6) (s [42]) (s [109,117,108]))),0,[]⟩,
⟨none,none,(.h (.mapUpd (.one .str) (t 6) (s [47]) (s [100,105,118]))),0,[]⟩,
⟨none,none,(.h (.mapUpd (.one .str) (t 6) (s [37]) (s [109,111,100]))),0,[]⟩,
mv 7 6,
ca 8 90 [(t 3),(t 5),(.c (.bool false)),(t 7)],
st 4 2 8])
.ret))⟩
theorem U2:Mir.compF Tryz.prog Tryz.f123=some KW:=by kernel_rfl
def KX:Mir.Fn:=⟨26,[(.cell 2 4 true)],
(.seq
(.ops [oa 2 (.alloc [(.str []),(.str []),(.int .i64 0),.nilsl])])
(.seq
(.seq
(.ops [oa 5 .mkMap,
⟨none,none,(.h (.mapUpd (.one .str) (t 5) (s [33]) (s [110,111,116]))),0,[]⟩,
⟨none,none,(.h (.mapUpd (.one .str) (t 5) (s [45]) (s [110,101,103]))),0,[]⟩,
⟨none,none,(.h (.mapUpd (.one .str) (t 5) (s [43]) (s [112,108,117,115]))),0,[]⟩,
mv 6 5,
ok 7 (.h (.range (t 6)))])
(.block 0 (.loop (.seq
(.ops [ok 8 (.h (.next (t 7))),
xt 9 8 0])
(.seq
(.cond (t 9)
.skip
(.exit 0))
(.block 1 (.seq
(.ops [ok 10 (.r (.entry (t 7))),
xt 11 10 0,
xt 12 10 1,
mv 3 11,
mv 4 12])
(.seq
(.ops [mv 13 0,
mv 14 3,
ca 15 40 [(t 13),(t 14)]])
(.cond (t 15)
(.seq
(.ops [mv 16 0,
ca 17 71 [(t 16)]])
(.seq
(.ops [mv 18 0,
⟨none,none,(.h (.dfr (.c (.fn 72 [] [])) [(t 18)])),0,[]⟩])
(.seq
(.ops [mv 19 4,
mv 20 0,
ca 21 126 [(t 20)],
oa 22 (.mkSl [(.str []),(.str []),(.int .i64 0),.nilsl] 4 1 [(0,(4,(t 21)))]),
ca 23 25 [(t 19),(t 22)],
st 4 2 23])
.ret)))
.skip)))))))))
(.seq
(.ops [mv 24 0,
ca 25 127 [(t 24)],
st 4 2 25])
.ret)))⟩
theorem U3:Mir.compF Tryz.prog Tryz.f126=some KX:=by kernel_rfl
def KY:Mir.Fn:=⟨49,[(.cell 2 4 true)],
(.seq
(.ops [oa 2 (.alloc [(.str []),(.str []),(.int .i64 0),.nilsl])])
(.seq
(.seq
(.ops [oa 7 (.mkSl [(.str [])] 1 2 [(0,(1,(s [43,43]))),(1,(1,(s [45,45])))]),
op 8 (.lenSl (t 7)),
op 9 (.mv (i 0))])
(.block 0 (.loop (.seq
(.ops [op 10 (.bin .lss (t 9) (t 8))])
(.seq
(.cond (t 10)
.skip
(.exit 0))
(.seq
(.block 1 (.seq
(.ops [op 11 (.idxSl 1 (t 7) (t 9)),
ld 12 1 11,
mv 4 12])
(.seq
(.seq
(.ops [mv 13 0,
mv 14 4,
ca 15 40 [(t 13),(t 14)],
op 16 (.un .not (t 15))])
(.cond (t 16)
(.exit 1)
.skip))
(.seq
(.seq
(.ops [mv 17 0,
ca 18 128 [(t 17)],
oa 5 (.alloc [(.str []),(.str []),(.int .i64 0),.nilsl]),
st 4 5 18])
(.seq
(.ops [la 19 4 5,
ca 20 74 [(t 19)]])
(.cond (t 20)
(.seq
(.ops [oa 21 .mkMap,
⟨none,none,(.h (.mapUpd (.one .str) (t 21) (s [43,43]) (s [112,114,101,105,110,99]))),0,[]⟩,
⟨none,none,(.h (.mapUpd (.one .str) (t 21) (s [45,45]) (s [112,114,101,100,101,99]))),0,[]⟩,
mv 22 21,
mv 23 4,
ok 24 (.r (.lookup (.one .str) (.str []) false (t 22) (t 23))),
la 25 4 5,
oa 26 (.mkSl [(.str []),(.str []),(.int .i64 0),.nilsl] 4 1 [(0,(4,(t 25)))]),
ca 27 25 [(t 24),(t 26)],
st 4 2 27])
.ret)
.skip)))
(.seq
(.ops [mv 28 0,
ca 29 47 [(t 28)]])
(.seq
(.ops [op 30 (.build [(.str []),(.str []),(.int .i64 0),.nilsl] []),
st 4 2 30])
.ret))))))
(.ops [op 31 (.bin .add (t 9) (i 1)),
mv 9 31])))))))
(.seq
(.ops [mv 32 0,
ca 33 128 [(t 32)],
oa 6 (.alloc [(.str []),(.str []),(.int .i64 0),.nilsl]),
st 4 6 33])
(.seq
(.seq
(.ops [la 34 4 6,
ca 35 74 [(t 34)],
op 36 (.un .not (t 35))])
(.cond (t 36)
(.seq
(.ops [la 37 4 6,
st 4 2 37])
.ret)
.skip))
(.seq
(.seq
(.ops [mv 38 0,
ca 39 40 [(t 38),(s [43,43])]])
(.cond (t 39)
(.seq
(.ops [la 40 4 6,
oa 41 (.mkSl [(.str []),(.str []),(.int .i64 0),.nilsl] 4 1 [(0,(4,(t 40)))]),
ca 42 25 [(s [112,111,115,116,105,110,99]),(t 41)],
st 4 2 42])
.ret)
.skip))
(.seq
(.seq
(.ops [mv 43 0,
ca 44 40 [(t 43),(s [45,45])]])
(.cond (t 44)
(.seq
(.ops [la 45 4 6,
oa 46 (.mkSl [(.str []),(.str []),(.int .i64 0),.nilsl] 4 1 [(0,(4,(t 45)))]),
ca 47 25 [(s [112,111,115,116,100,101,99]),(t 46)],
st 4 2 47])
.ret)
.skip))
(.seq
(.ops [la 48 4 6,
st 4 2 48])
.ret)))))))⟩
theorem c127:Mir.compF Tryz.prog Tryz.f127=some KY:=by kernel_rfl
end
section
open Mir.Ab
def Dq:Mir.Fn:=⟨102,[(.cell 2 4 true)],
(.seq
(.ops [oa 2 (.alloc [(.str []),(.str []),(.int .i64 0),.nilsl])])
(.seq
(.ops [mv 7 0,
ca 8 27 [(t 7)],
oa 3 (.alloc [(.int .i64 0),(.str []),(.int .i64 0)]),
st 3 3 8])
(.seq
(.block 0 (.seq
(.ops [fa 10 0 3,
ld 11 1 10,
op 12 (.bin .eql (t 11) (i 2)),
mv 9 12])
(.cond (t 9)
(.seq
(.ops [mv 13 0,
ca 14 28 [(t 13)]])
(.seq
(.ops [la 15 3 3,
ca 16 42 [(s [110,117,109]),(t 15),(.c .nilsl)],
st 4 2 16])
.ret))
(.seq
(.ops [fa 18 0 3,
ld 19 1 18,
op 20 (.bin .eql (t 19) (i 3)),
mv 17 20])
(.cond (t 17)
(.seq
(.ops [mv 21 0,
ca 22 28 [(t 21)]])
(.seq
(.ops [la 23 3 3,
ca 24 42 [(s [115,116,114]),(t 23),(.c .nilsl)],
st 4 2 24])
.ret))
(.seq
(.ops [fa 26 0 3,
ld 27 1 26,
op 28 (.bin .eql (t 27) (i 4)),
mv 25 28])
(.cond (t 25)
(.seq
(.seq
(.ops [fa 30 1 3,
ld 31 1 30,
ca 32 129 [(t 31)],
mv 29 32,
xt 33 29 0,
xt 34 29 1,
xt 35 29 2,
oa 4 (.alloc [(.int .i64 0),(.int .u64 0),(.int .u64 0),(.int .u64 0),(.int .u64 0),.nilsl]),
st 6 4 33,
mv 5 34,
mv 6 35])
(.seq
(.ops [mv 36 6,
op 37 (.bin .neq (t 36) (i 0))])
(.cond (t 37)
(.ops [mv 38 0,
ca 39 47 [(t 38)]])
.skip)))
(.seq
(.ops [mv 40 0,
ca 41 28 [(t 40)]])
(.seq
(.ops [la 42 3 3,
ca 43 42 [(s [114,101]),(t 42),(.c .nilsl)],
st 4 2 43])
.ret)))
(.seq
(.ops [fa 45 0 3,
ld 46 1 45,
op 47 (.bin .eql (t 46) (i 5)),
mv 44 47])
(.cond (t 44)
(.seq
(.ops [mv 48 0,
ca 49 28 [(t 48)]])
(.seq
(.seq
(.ops [mv 50 0,
ca 51 40 [(t 50),(s [91])]])
(.cond (t 51)
(.seq
(.draw [la 52 3 3,
dm 53 1 0,
⟨(some 54),none,(.h (.call (.c (.fn 84 [] [])) [(t 53),(s [93])])),2,[0]⟩,
dk 55 3 (.a (.mkSl [(.str []),(.str []),(.int .i64 0),.nilsl] 4 1 [(0,(4,(t 54)))])),
dk 56 4 (.h (.call (.c (.fn 42 [] [])) [(s [105,110,100,101,120]),(t 52),(t 55)])),
⟨none,none,(.h (.store 4 (t 2) (t 56))),5,[]⟩])
.ret)
.skip))
(.seq
(.ops [la 57 3 3,
ca 58 42 [(s [118,97,114]),(t 57),(.c .nilsl)],
st 4 2 58])
.ret)))
(.seq
(.ops [fa 60 0 3,
ld 61 1 60,
op 62 (.bin .eql (t 61) (i 6)),
mv 59 62])
(.cond (t 59)
(.seq
(.ops [mv 63 0,
ca 64 28 [(t 63)]])
(.seq
(.ops [mv 65 0,
ca 66 44 [(t 65),(s [40])]])
(.seq
(.draw [la 67 3 3,
dm 68 1 0,
⟨(some 69),none,(.h (.call (.c (.fn 105 [] [])) [(t 68),(s [41])])),2,[0]⟩,
dk 70 3 (.h (.call (.c (.fn 42 [] [])) [(s [99,97,108,108]),(t 67),(t 69)])),
⟨none,none,(.h (.store 4 (t 2) (t 70))),4,[]⟩])
.ret)))
(.seq
(.ops [fa 72 0 3,
ld 73 1 72,
op 74 (.bin .eql (t 73) (i 9)),
mv 71 74])
(.cond (t 71)
(.seq
(.ops [mv 75 0,
ca 76 130 [(t 75)],
st 4 2 76])
.ret)
(.seq
(.ops [mv 78 0,
ca 79 40 [(t 78),(s [40])],
mv 77 79])
(.cond (t 77)
(.seq
(.ops [mv 80 0,
ca 81 84 [(t 80),(s [41])],
st 4 2 81])
.ret)
(.seq
(.ops [mv 83 0,
ca 84 40 [(t 83),(s [36])],
mv 82 84])
(.cond (t 82)
(.seq
(.ops [mv 85 0,
ca 86 71 [(t 85)]])
(.seq
(.ops [mv 87 0,
⟨none,none,(.h (.dfr (.c (.fn 72 [] [])) [(t 87)])),0,[]⟩])
(.seq
(.seq
(.ops [mv 88 0,
oa 89 (.mkSl [(.str [])] 1 2 [(0,(1,(s [43,43]))),(1,(1,(s [45,45])))]),
ca 90 26 [(t 88),(t 89)]])
(.cond (t 90)
(.seq
(.ops [mv 91 0,
ca 92 127 [(t 91)],
oa 93 (.mkSl [(.str []),(.str []),(.int .i64 0),.nilsl] 4 1 [(0,(4,(t 92)))]),
ca 94 25 [(s [102,105,101,108,100]),(t 93)],
st 4 2 94])
.ret)
.skip))
(.seq
(.ops [mv 95 0,
ca 96 128 [(t 95)],
oa 97 (.mkSl [(.str []),(.str []),(.int .i64 0),.nilsl] 4 1 [(0,(4,(t 96)))]),
ca 98 25 [(s [102,105,101,108,100]),(t 97)],
st 4 2 98])
.ret))))
.skip)))))))))))))))))
(.seq
(.ops [mv 99 0,
ca 100 47 [(t 99)]])
(.seq
(.ops [op 101 (.build [(.str []),(.str []),(.int .i64 0),.nilsl] []),
st 4 2 101])
.ret)))))⟩
theorem U4:Mir.compF Tryz.prog Tryz.f128=some Dq:=by kernel_rfl
def KZ:Mir.Fn:=⟨31,[(.cell 2 6 true),(.tmp 3),(.tmp 4)],
(.seq
(.ops [oa 2 (.alloc [(.int .i64 0),(.int .u64 0),(.int .u64 0),(.int .u64 0),(.int .u64 0),.nilsl]),
op 3 (.mv (i 0)),
op 4 (.mv (i 0))])
(.seq
(.seq
(.ops [mv 7 0,
op 8 (.lenStr (t 7)),
op 9 (.bin .gtr (t 8) (i 300))])
(.cond (t 9)
(.seq
(.ops [op 10 (.build [(.int .i64 0),(.int .u64 0),(.int .u64 0),(.int .u64 0),(.int .u64 0),.nilsl] []),
st 6 2 10,
op 3 (.mv (i 0)),
op 4 (.mv (i 12))])
.ret)
.skip))
(.seq
(.ops [mv 11 0,
op 12 (.build [(.str []),(.int .i64 0),(.int .i64 0),(.int .i64 0),(.int .i64 0)] [(0,(1,(t 11)))]),
oa 13 (.box (t 12)),
mv 5 13])
(.seq
(.ops [mv 14 5,
ca 15 131 [(t 14)],
oa 6 (.alloc [(.int .i64 0),(.int .u64 0),(.int .u64 0),(.int .u64 0),(.int .u64 0),.nilsl]),
st 6 6 15])
(.seq
(.seq
(.ops [mv 16 5,
nc 17 16,
fa 18 3 17,
ld 19 1 18,
op 20 (.bin .neq (t 19) (i 0))])
(.cond (t 20)
(.seq
(.draw [op 21 (.build [(.int .i64 0),(.int .u64 0),(.int .u64 0),(.int .u64 0),(.int .u64 0),.nilsl] []),
dm 22 1 5,
dp 23 2 (.nilchk (t 22)),
df 24 3 4 23,
dl 25 4 1 24,
dm 26 5 5,
dp 27 6 (.nilchk (t 26)),
df 28 7 3 27,
dl 29 8 1 28,
⟨none,none,(.h (.store 6 (t 2) (t 21))),9,[4,8]⟩,
dm 3 10 25,
dm 4 11 29])
.ret)
.skip))
(.seq
(.ops [la 30 6 6,
st 6 2 30,
op 3 (.mv (i 0)),
op 4 (.mv (i 0))])
.ret))))))⟩
theorem U5:Mir.compF Tryz.prog Tryz.f129=some KZ:=by kernel_rfl
def La:Mir.Fn:=⟨136,[(.cell 2 4 true)],
(.seq
(.ops [oa 1 (.box (t 0)),
oa 2 (.alloc [(.str []),(.str []),(.int .i64 0),.nilsl])])
(.seq
(.ops [ld 7 1 1,
ca 8 27 [(t 7)],
oa 3 (.alloc [(.int .i64 0),(.str []),(.int .i64 0)]),
st 3 3 8])
(.seq
(.ops [ld 9 1 1,
ca 10 28 [(t 9)]])
(.seq
(.seq
(.ops [fa 11 1 3,
ld 12 1 11,
op 13 (.bin .eql (t 12) (s [108,101,110,103,116,104])),
mv 14 13,
og 15 14 true (.r (.load 1 false (t 1))),
og 16 14 true (.a (.mkSl [(.str [])] 1 1 [(0,(1,(s [40])))])),
og 17 14 true (.h (.call (.c (.fn 26 [] [])) [(t 15),(t 16)])),
og 18 14 true (.p (.un .not (t 17))),
an 19 14 18])
(.cond (t 19)
(.seq
(.ops [la 20 3 3,
ca 21 42 [(s [98,117,105,108,116,105,110]),(t 20),(.c .nilsl)],
st 4 2 21])
.ret)
.skip))
(.seq
(.ops [ld 22 1 1,
ca 23 44 [(t 22),(s [40])]])
(.seq
(.ops [ld 24 1 1,
ca 25 105 [(t 24),(s [41])],
mv 4 25])
(.seq
(.ops [op 26 (.mkFn 132 [] [(t 1),(t 3)]),
mv 5 26])
(.seq
(.ops [mv 27 4,
op 28 (.lenSl (t 27)),
mv 6 28])
(.seq
(.seq
(.ops [fa 29 1 3,
ld 30 1 29])
(.block 0 (.seq
(.block 9 (.seq
(.block 8 (.seq
(.block 7 (.seq
(.block 6 (.seq
(.block 5 (.seq
(.block 4 (.seq
(.block 3 (.seq
(.block 2 (.seq
(.block 1 (.seq
(.seq
(.seq
(.ops [op 32 (.bin .eql (t 30) (s [108,101,110,103,116,104])),
mv 31 32])
(.cond (t 31)
(.exit 1)
.skip))
(.seq
(.seq
(.ops [op 34 (.bin .eql (t 30) (s [115,117,98,115,116,114])),
mv 33 34])
(.cond (t 33)
(.exit 2)
.skip))
(.seq
(.seq
(.ops [op 36 (.bin .eql (t 30) (s [115,112,108,105,116])),
mv 35 36])
(.cond (t 35)
(.exit 3)
.skip))
(.seq
(.seq
(.seq
(.ops [op 38 (.bin .eql (t 30) (s [115,117,98])),
mv 37 38])
(.cond (t 37)
.skip
(.ops [op 39 (.bin .eql (t 30) (s [103,115,117,98])),
mv 37 39])))
(.cond (t 37)
(.exit 4)
.skip))
(.seq
(.seq
(.seq
(.ops [op 41 (.bin .eql (t 30) (s [105,110,100,101,120])),
mv 40 41])
(.cond (t 40)
.skip
(.ops [op 42 (.bin .eql (t 30) (s [109,97,116,99,104])),
mv 40 42])))
(.cond (t 40)
(.exit 5)
.skip))
(.seq
(.seq
(.ops [op 44 (.bin .eql (t 30) (s [115,112,114,105,110,116,102])),
mv 43 44])
(.cond (t 43)
(.exit 6)
.skip))
(.seq
(.seq
(.ops [op 46 (.bin .eql (t 30) (s [114,97,110,100])),
mv 45 46])
(.cond (t 45)
(.exit 7)
.skip))
(.seq
(.ops [op 48 (.bin .eql (t 30) (s [115,114,97,110,100])),
mv 47 48])
(.cond (t 47)
(.exit 8)
.skip)))))))))
(.exit 9)))
(.seq
(.ops [mv 49 5,
mv 50 6,
op 51 (.bin .gtr (t 50) (i 1)),
ok 52 (.h (.call (t 49) [(t 51),(i 9)]))])
(.exit 0))))
(.seq
(.ops [mv 53 5,
mv 54 6,
op 55 (.bin .lss (t 54) (i 2)),
mv 56 55,
gm 57 56 false 6,
og 58 56 false (.p (.bin .gtr (t 57) (i 3))),
oo 59 56 58,
ok 60 (.h (.call (t 53) [(t 59),(i 9)]))])
(.exit 0))))
(.seq
(.seq
(.ops [mv 61 5,
mv 62 6,
op 63 (.bin .lss (t 62) (i 2)),
mv 64 63,
gm 65 64 false 6,
og 66 64 false (.p (.bin .gtr (t 65) (i 3))),
oo 67 64 66,
mv 68 67,
gm 69 68 false 4,
og 70 68 false (.p (.idxSl 4 (t 69) (i 1))),
og 71 68 false (.p (.fieldAt 0 (t 70))),
og 72 68 false (.r (.load 1 false (t 71))),
og 73 68 false (.p (.bin .neq (t 72) (s [118,97,114]))),
oo 74 68 73,
ok 75 (.h (.call (t 61) [(t 74),(i 9)]))])
(.seq
(.ops [ld 76 1 1,
nc 77 76,
fa 78 4 77,
ld 79 1 78,
op 80 (.bin .eql (t 79) (i 0))])
(.cond (t 80)
(.ops [mv 81 4,
op 82 (.idxSl 4 (t 81) (i 1)),
fa 83 0 82,
⟨none,none,(.h (.store 1 (t 83) (s [110,97,109,101]))),0,[]⟩])
.skip)))
(.exit 0))))
(.seq
(.seq
(.ops [mv 84 5,
mv 85 6,
op 86 (.bin .lss (t 85) (i 2)),
mv 87 86,
gm 88 87 false 6,
og 89 87 false (.p (.bin .gtr (t 88) (i 3))),
oo 90 87 89,
mv 91 90,
gm 92 91 false 6,
og 93 91 false (.p (.bin .eql (t 92) (i 3))),
gm 94 91 false 93,
gm 95 94 true 4,
og 96 94 true (.p (.idxSl 4 (t 95) (i 2))),
og 97 94 true (.r (.load 4 true (t 96))),
og 98 94 true (.h (.call (.c (.fn 74 [] [])) [(t 97)])),
og 99 94 true (.p (.un .not (t 98))),
og 100 91 false (.p (.pick (t 94) (t 99) (.c (.bool false)))),
oo 101 91 100,
ok 102 (.h (.call (t 84) [(t 101),(i 9)]))])
(.seq
(.ops [mv 103 6,
op 104 (.bin .eql (t 103) (i 2))])
(.cond (t 104)
(.ops [mv 105 4,
fa 106 2 3,
ld 107 1 106,
op 108 (.build [(.str []),(.str []),(.int .i64 0),.nilsl] [(0,(1,(s [110,117,109]))),(1,(1,(s [48]))),(2,(1,(t 107)))]),
oa 109 (.mkSl [(.str []),(.str []),(.int .i64 0),.nilsl] 4 1 [(0,(4,(t 108)))]),
ca 110 25 [(s [102,105,101,108,100]),(t 109)],
oa 111 (.mkSl [(.str []),(.str []),(.int .i64 0),.nilsl] 4 1 [(0,(4,(t 110)))]),
ok 112 (.h (.app 4 64 (t 105) (t 111))),
mv 4 112])
.skip)))
(.exit 0))))
(.seq
(.ops [mv 113 5,
mv 114 6,
op 115 (.bin .neq (t 114) (i 2)),
ok 116 (.h (.call (t 113) [(t 115),(i 9)]))])
(.exit 0))))
(.seq
(.ops [mv 117 5,
mv 118 6,
op 119 (.bin .lss (t 118) (i 1)),
ok 120 (.h (.call (t 117) [(t 119),(i 9)]))])
(.exit 0))))
(.seq
(.ops [mv 121 5,
mv 122 6,
op 123 (.bin .neq (t 122) (i 0)),
ok 124 (.h (.call (t 121) [(t 123),(i 9)]))])
(.exit 0))))
(.ops [mv 125 5,
mv 126 6,
op 127 (.bin .eql (t 126) (i 0)),
ok 128 (.h (.call (t 125) [(t 127),(i 10)]))])))
(.seq
(.ops [mv 129 5,
mv 130 6,
op 131 (.bin .neq (t 130) (i 1)),
ok 132 (.h (.call (t 129) [(t 131),(i 9)]))])
(.exit 0)))))
(.seq
(.ops [la 133 3 3,
mv 134 4,
ca 135 42 [(s [98,117,105,108,116,105,110]),(t 133),(t 134)],
st 4 2 135])
.ret))))))))))⟩
theorem c130:Mir.compF Tryz.prog Tryz.f130=some La:=by kernel_rfl
def Ld:Mir.Fn:=⟨44,[(.cell 2 6 true)],
(.seq
(.ops [oa 2 (.alloc [(.int .i64 0),(.int .u64 0),(.int .u64 0),(.int .u64 0),(.int .u64 0),.nilsl])])
(.seq
(.ops [mv 6 0,
ca 7 133 [(t 6)],
oa 8 (.mkSl [(.int .i64 0),(.int .u64 0),(.int .u64 0),(.int .u64 0),(.int .u64 0),.nilsl] 6 1 [(0,(6,(t 7)))]),
mv 3 8])
(.seq
(.seq
(.ops [mv 10 0,
ca 11 134 [(t 10)],
mv 9 11,
xt 12 9 0,
xt 13 9 1,
mv 4 12,
mv 5 13])
(.block 0 (.loop (.seq
(.seq
(.ops [mv 14 5,
mv 15 14,
gm 16 15 true 4,
og 17 15 true (.p (.bin .eql (t 16) (u 124))),
an 18 15 17])
(.cond (t 18)
.skip
(.exit 0)))
(.seq
(.block 1 (.seq
(.ops [mv 24 0,
nc 25 24,
fa 26 1 25,
ld 27 1 26,
op 28 (.bin .add (t 27) (i 1)),
nc 29 24,
fa 30 1 29,
st 1 30 28])
(.ops [mv 31 3,
mv 32 0,
ca 33 133 [(t 32)],
oa 34 (.mkSl [(.int .i64 0),(.int .u64 0),(.int .u64 0),(.int .u64 0),(.int .u64 0),.nilsl] 6 1 [(0,(6,(t 33)))]),
ok 35 (.h (.app 6 64 (t 31) (t 34))),
mv 3 35])))
(.ops [mv 20 0,
ca 21 134 [(t 20)],
mv 19 21,
xt 22 19 0,
xt 23 19 1,
mv 4 22,
mv 5 23]))))))
(.seq
(.seq
(.ops [mv 36 3,
op 37 (.lenSl (t 36)),
op 38 (.bin .eql (t 37) (i 1))])
(.cond (t 38)
(.seq
(.ops [mv 39 3,
op 40 (.idxSl 6 (t 39) (i 0)),
la 41 6 40,
st 6 2 41])
.ret)
.skip))
(.seq
(.ops [mv 42 3,
op 43 (.build [(.int .i64 0),(.int .u64 0),(.int .u64 0),(.int .u64 0),(.int .u64 0),.nilsl] [(0,(1,(i 3))),(5,(1,(t 42)))]),
st 6 2 43])
.ret)))))⟩
theorem c131:Mir.compF Tryz.prog Tryz.f131=some Ld:=by kernel_rfl
def Le:Mir.Fn:=⟨23,[],
(.seq
(.ops [mv 6 0,
mv 7 6,
og 8 7 true (.r (.load 1 false (t 2))),
og 9 7 true (.p (.nilchk (t 8))),
og 10 7 true (.p (.fieldAt 4 (t 9))),
og 11 7 true (.r (.load 1 false (t 10))),
og 12 7 true (.p (.bin .eql (t 11) (i 0))),
an 13 7 12])
(.cond (t 13)
(.draw [ld 14 1 2,
dl 15 1 1 2,
dm 16 2 1,
df 17 3 2 3,
dl 18 4 1 17,
dp 19 5 (.nilchk (t 14)),
df 20 6 4 19,
⟨none,none,(.h (.store 1 (t 20) (t 16))),7,[1,4]⟩,
dp 21 8 (.nilchk (t 15)),
df 22 9 5 21,
⟨none,none,(.h (.store 1 (t 22) (t 18))),10,[]⟩])
.skip))⟩
theorem U6:Mir.compF Tryz.prog Tryz.f132=some Le:=by kernel_rfl
def Lh:Mir.Fn:=⟨82,[(.cell 2 6 true)],
(.seq
(.ops [oa 2 (.alloc [(.int .i64 0),(.int .u64 0),(.int .u64 0),(.int .u64 0),(.int .u64 0),.nilsl])])
(.seq
(.ops [op 3 (.mv (.c .nilsl))])
(.seq
.skip
(.seq
(.block 0 (.loop (.block 1 (.seq
(.seq
(.ops [mv 11 0,
ca 12 134 [(t 11)],
mv 10 12,
xt 13 10 0,
xt 14 10 1,
mv 4 13,
mv 5 14])
(.block 2 (.seq
(.seq
(.ops [mv 16 5,
op 17 (.un .not (t 16)),
mv 15 17])
(.cond (t 15)
.skip
(.seq
(.ops [mv 18 4,
op 19 (.bin .eql (t 18) (u 124)),
mv 15 19])
(.cond (t 15)
.skip
(.ops [mv 20 4,
op 21 (.bin .eql (t 20) (u 41)),
mv 22 21,
gm 23 22 true 0,
og 24 22 true (.p (.nilchk (t 23))),
og 25 22 true (.p (.fieldAt 2 (t 24))),
og 26 22 true (.r (.load 1 false (t 25))),
og 27 22 true (.p (.bin .gtr (t 26) (i 0))),
an 28 22 27,
mv 15 28])))))
(.cond (t 15)
(.exit 0)
(.seq
(.ops [mv 30 4,
op 31 (.bin .eql (t 30) (u 41)),
mv 29 31])
(.cond (t 29)
(.seq
(.ops [mv 32 0,
mv 33 0,
nc 34 33,
fa 35 1 34,
ld 36 1 35,
ca 37 135 [(t 32),(t 36),(i 9)]])
(.exit 0))
.skip))))))
(.seq
(.ops [mv 38 0,
ca 39 136 [(t 38)],
oa 6 (.alloc [(.int .i64 0),(.int .u64 0),(.int .u64 0),(.int .u64 0),(.int .u64 0),.nilsl]),
st 6 6 39])
(.seq
(.block 3 (.loop (.block 4 (.seq
(.ops [mv 41 0,
ca 42 134 [(t 41)],
mv 40 42,
xt 43 40 0,
xt 44 40 1,
mv 7 43,
mv 8 44])
(.seq
(.ops [oa 45 .mkMap,
⟨none,none,(.h (.mapUpd (.one .int) (t 45) (u 42) (i 4))),0,[]⟩,
⟨none,none,(.h (.mapUpd (.one .int) (t 45) (u 43) (i 5))),0,[]⟩,
⟨none,none,(.h (.mapUpd (.one .int) (t 45) (u 63) (i 6))),0,[]⟩,
mv 46 45,
mv 47 7,
ok 48 (.r (.lookup (.one .int) (.int .i64 0) false (t 46) (t 47))),
mv 9 48])
(.seq
(.seq
(.ops [mv 49 8,
op 50 (.un .not (t 49)),
mv 51 50,
gm 52 51 false 9,
og 53 51 false (.p (.bin .eql (t 52) (i 0))),
oo 54 51 53])
(.cond (t 54)
(.exit 3)
.skip))
(.seq
(.ops [mv 55 0,
nc 56 55,
fa 57 1 56,
ld 58 1 57,
op 59 (.bin .add (t 58) (i 1)),
nc 60 55,
fa 61 1 60,
st 1 61 59])
(.ops [mv 62 9,
la 63 6 6,
oa 64 (.mkSl [(.int .i64 0),(.int .u64 0),(.int .u64 0),(.int .u64 0),(.int .u64 0),.nilsl] 6 1 [(0,(6,(t 63)))]),
op 65 (.build [(.int .i64 0),(.int .u64 0),(.int .u64 0),(.int .u64 0),(.int .u64 0),.nilsl] [(0,(1,(t 62))),(5,(1,(t 64)))]),
st 6 6 65]))))))))
(.ops [mv 66 3,
la 67 6 6,
oa 68 (.mkSl [(.int .i64 0),(.int .u64 0),(.int .u64 0),(.int .u64 0),(.int .u64 0),.nilsl] 6 1 [(0,(6,(t 67)))]),
ok 69 (.h (.app 6 64 (t 66) (t 68))),
mv 3 69])))))))
(.seq
(.seq
(.ops [mv 70 3,
op 71 (.lenSl (t 70))])
(.block 5 (.seq
(.ops [op 73 (.bin .eql (t 71) (i 0)),
mv 72 73])
(.cond (t 72)
(.seq
(.ops [op 74 (.build [(.int .i64 0),(.int .u64 0),(.int .u64 0),(.int .u64 0),(.int .u64 0),.nilsl] []),
st 6 2 74])
.ret)
(.seq
(.ops [op 76 (.bin .eql (t 71) (i 1)),
mv 75 76])
(.cond (t 75)
(.seq
(.ops [mv 77 3,
op 78 (.idxSl 6 (t 77) (i 0)),
la 79 6 78,
st 6 2 79])
.ret)
.skip))))))
(.seq
(.ops [mv 80 3,
op 81 (.build [(.int .i64 0),(.int .u64 0),(.int .u64 0),(.int .u64 0),(.int .u64 0),.nilsl] [(0,(1,(i 2))),(5,(1,(t 80)))]),
st 6 2 81])
.ret))))))⟩
theorem U7:Mir.compF Tryz.prog Tryz.f133=some Lh:=by kernel_rfl
def Lj:Mir.Fn:=⟨30,[(.tmp 2),(.tmp 3)],
(.seq
(.ops [op 2 (.mv (u 0)),
op 3 (.mv (.c (.bool false)))])
(.seq
(.seq
(.draw [mv 4 0,
dp 5 1 (.nilchk (t 4)),
df 6 2 3 5,
dl 7 3 1 6,
dp 8 4 (.bin .neq (t 7) (i 0)),
dm 9 5 8,
⟨(some 10),(some (9,false)),(.p (.mv (t 0))),6,[]⟩,
⟨(some 11),(some (9,false)),(.p (.nilchk (t 10))),7,[]⟩,
⟨(some 12),(some (9,false)),(.p (.fieldAt 1 (t 11))),8,[]⟩,
⟨(some 13),(some (9,false)),(.r (.load 1 false (t 12))),9,[]⟩,
⟨(some 14),(some (9,false)),(.p (.mv (t 0))),10,[]⟩,
⟨(some 15),(some (9,false)),(.p (.nilchk (t 14))),11,[]⟩,
⟨(some 16),(some (9,false)),(.p (.fieldAt 0 (t 15))),12,[]⟩,
⟨(some 17),(some (9,false)),(.r (.load 1 false (t 16))),13,[]⟩,
⟨(some 18),(some (9,false)),(.p (.lenStr (t 17))),14,[]⟩,
⟨(some 19),(some (9,false)),(.p (.bin .geq (t 13) (t 18))),15,[]⟩,
dp 20 16 (.pick (t 9) (.c (.bool true)) (t 19))])
(.cond (t 20)
(.seq
(.ops [op 2 (.mv (u 0)),
op 3 (.mv (.c (.bool false)))])
.ret)
.skip))
(.seq
(.draw [mv 21 0,
dp 22 1 (.nilchk (t 21)),
df 23 2 0 22,
dl 24 3 1 23,
dm 25 4 0,
dp 26 5 (.nilchk (t 25)),
df 27 6 1 26,
dl 28 7 1 27,
dp 29 8 (.idxStr (t 24) (t 28)),
dm 2 9 29,
dp 3 10 (.mv (.c (.bool true)))])
.ret)))⟩
theorem U8:Mir.compF Tryz.prog Tryz.f134=some Lj:=by kernel_rfl
def Ll:Mir.Fn:=⟨19,[],
(.seq
(.ops [mv 6 0,
nc 7 6,
fa 8 3 7,
ld 9 1 8,
op 10 (.bin .eql (t 9) (i 0))])
(.cond (t 10)
(.ops [mv 11 0,
mv 12 0,
mv 13 2,
mv 14 1,
nc 15 11,
fa 16 3 15,
st 1 16 13,
nc 17 12,
fa 18 4 17,
st 1 18 14])
.skip))⟩
theorem U9:Mir.compF Tryz.prog Tryz.f135=some Ll:=by kernel_rfl
def Lm:Mir.Fn:=⟨110,[(.cell 2 6 true)],
(.seq
(.ops [oa 2 (.alloc [(.int .i64 0),(.int .u64 0),(.int .u64 0),(.int .u64 0),(.int .u64 0),.nilsl])])
(.seq
(.ops [mv 10 0,
ca 11 134 [(t 10)],
mv 9 11,
xt 12 9 0,
xt 13 9 1,
mv 3 12,
mv 4 13])
(.seq
(.ops [mv 14 0,
nc 15 14,
fa 16 1 15,
ld 17 1 16,
op 18 (.bin .add (t 17) (i 1)),
nc 19 14,
fa 20 1 19,
st 1 20 18])
(.seq
(.seq
(.ops [mv 21 3])
(.block 0 (.seq
(.ops [op 23 (.bin .eql (t 21) (u 40)),
mv 22 23])
(.cond (t 22)
(.seq
(.ops [mv 24 0,
nc 25 24,
fa 26 1 25,
ld 27 1 26,
op 28 (.bin .sub (t 27) (i 1)),
mv 5 28])
(.seq
(.seq
(.ops [mv 29 0,
nc 30 29,
fa 31 2 30,
ld 32 1 31,
op 33 (.bin .add (t 32) (i 1)),
nc 34 29,
fa 35 2 34,
st 1 35 33])
(.seq
(.ops [mv 36 0,
nc 37 36,
fa 38 2 37,
ld 39 1 38,
op 40 (.bin .gtr (t 39) (i 20))])
(.cond (t 40)
(.ops [mv 41 0,
mv 42 5,
ca 43 135 [(t 41),(t 42),(i 14)]])
.skip)))
(.seq
(.ops [mv 44 0,
ca 45 131 [(t 44)],
oa 6 (.alloc [(.int .i64 0),(.int .u64 0),(.int .u64 0),(.int .u64 0),(.int .u64 0),.nilsl]),
st 6 6 45])
(.seq
(.seq
(.ops [mv 47 0,
ca 48 134 [(t 47)],
mv 46 48,
xt 49 46 0,
xt 50 46 1,
mv 7 49,
mv 8 50])
(.seq
(.ops [mv 51 8,
op 52 (.un .not (t 51)),
mv 53 52,
gm 54 53 false 7,
og 55 53 false (.p (.bin .neq (t 54) (u 41))),
oo 56 53 55])
(.cond (t 56)
(.ops [mv 57 0,
mv 58 5,
ca 59 135 [(t 57),(t 58),(i 9)]])
.skip)))
(.seq
(.ops [mv 60 0,
nc 61 60,
fa 62 1 61,
ld 63 1 62,
op 64 (.bin .add (t 63) (i 1)),
nc 65 60,
fa 66 1 65,
st 1 66 64])
(.seq
(.ops [mv 67 0,
nc 68 67,
fa 69 2 68,
ld 70 1 69,
op 71 (.bin .sub (t 70) (i 1)),
nc 72 67,
fa 73 2 72,
st 1 73 71])
(.seq
(.ops [la 74 6 6,
st 6 2 74])
.ret)))))))
(.seq
(.ops [op 76 (.bin .eql (t 21) (u 91)),
mv 75 76])
(.cond (t 75)
(.seq
(.ops [mv 77 0,
ca 78 137 [(t 77)],
op 79 (.build [(.int .i64 0),(.int .u64 0),(.int .u64 0),(.int .u64 0),(.int .u64 0),.nilsl] [(0,(1,(i 1))),(1,(4,(t 78)))]),
st 6 2 79])
.ret)
(.seq
(.ops [op 81 (.bin .eql (t 21) (u 46)),
mv 80 81])
(.cond (t 80)
(.seq
(.ops [op 82 (.build [(.int .u64 0),(.int .u64 0),(.int .u64 0),(.int .u64 0)] []),
ca 83 138 [(t 82)],
op 84 (.build [(.int .i64 0),(.int .u64 0),(.int .u64 0),(.int .u64 0),(.int .u64 0),.nilsl] [(0,(1,(i 1))),(1,(4,(t 83)))]),
st 6 2 84])
.ret)
(.seq
(.ops [op 86 (.bin .eql (t 21) (u 94)),
mv 85 86])
(.cond (t 85)
(.seq
(.ops [op 87 (.build [(.int .i64 0),(.int .u64 0),(.int .u64 0),(.int .u64 0),(.int .u64 0),.nilsl] [(0,(1,(i 7)))]),
st 6 2 87])
.ret)
(.seq
(.ops [op 89 (.bin .eql (t 21) (u 36)),
mv 88 89])
(.cond (t 88)
(.seq
(.ops [op 90 (.build [(.int .i64 0),(.int .u64 0),(.int .u64 0),(.int .u64 0),(.int .u64 0),.nilsl] [(0,(1,(i 8)))]),
st 6 2 90])
.ret)
(.seq
(.seq
(.ops [op 92 (.bin .eql (t 21) (u 42)),
mv 91 92])
(.cond (t 91)
.skip
(.seq
(.ops [op 93 (.bin .eql (t 21) (u 43)),
mv 91 93])
(.cond (t 91)
.skip
(.ops [op 94 (.bin .eql (t 21) (u 63)),
mv 91 94])))))
(.cond (t 91)
(.ops [mv 95 0,
mv 96 0,
nc 97 96,
fa 98 1 97,
ld 99 1 98,
op 100 (.bin .sub (t 99) (i 1)),
ca 101 135 [(t 95),(t 100),(i 9)]])
(.seq
(.ops [op 103 (.bin .eql (t 21) (u 92)),
mv 102 103])
(.cond (t 102)
(.ops [mv 104 0,
ca 105 139 [(t 104)],
mv 3 105])
.skip))))))))))))))))
(.seq
(.ops [op 106 (.build [(.int .u64 0),(.int .u64 0),(.int .u64 0),(.int .u64 0)] []),
mv 107 3,
ca 108 140 [(t 106),(t 107)],
op 109 (.build [(.int .i64 0),(.int .u64 0),(.int .u64 0),(.int .u64 0),(.int .u64 0),.nilsl] [(0,(1,(i 1))),(1,(4,(t 108)))]),
st 6 2 109])
.ret)))))⟩
theorem Va:Mir.compF Tryz.prog Tryz.f136=some Lm:=by kernel_rfl
def Lp:Mir.Fn:=⟨147,[(.cell 2 4 true)],
(.seq
(.ops [oa 2 (.alloc [(.int .u64 0),(.int .u64 0),(.int .u64 0),(.int .u64 0)])])
(.seq
(.ops [mv 13 0,
nc 14 13,
fa 15 1 14,
ld 16 1 15,
op 17 (.bin .sub (t 16) (i 1)),
mv 3 17])
(.seq
(.ops [oa 4 (.alloc [(.int .u64 0),(.int .u64 0),(.int .u64 0),(.int .u64 0)])])
(.seq
(.ops [mv 19 0,
ca 20 134 [(t 19)],
mv 18 20,
xt 21 18 0,
xt 22 18 1,
mv 5 21,
mv 6 22])
(.seq
(.ops [mv 23 5,
op 24 (.bin .eql (t 23) (u 94)),
mv 7 24])
(.seq
(.seq
(.ops [mv 25 7])
(.cond (t 25)
(.ops [mv 26 0,
nc 27 26,
fa 28 1 27,
ld 29 1 28,
op 30 (.bin .add (t 29) (i 1)),
nc 31 26,
fa 32 1 31,
st 1 32 30])
.skip))
(.seq
(.seq
(.ops [op 8 (.mv (.c (.bool true)))])
(.block 0 (.loop (.seq
(.block 1 (.seq
(.ops [mv 34 0,
ca 35 134 [(t 34)],
mv 33 35,
xt 36 33 0,
xt 37 33 1,
mv 9 36,
mv 10 37])
(.seq
(.seq
(.ops [mv 38 10,
op 39 (.un .not (t 38))])
(.cond (t 39)
(.seq
(.ops [mv 40 0,
mv 41 3,
ca 42 135 [(t 40),(t 41),(i 9)]])
(.exit 0))
.skip))
(.seq
(.ops [mv 43 0,
nc 44 43,
fa 45 1 44,
ld 46 1 45,
op 47 (.bin .add (t 46) (i 1)),
nc 48 43,
fa 49 1 48,
st 1 49 47])
(.seq
(.seq
(.ops [mv 50 9,
op 51 (.bin .eql (t 50) (u 93)),
mv 52 51,
gm 53 52 true 8,
og 54 52 true (.p (.un .not (t 53))),
an 55 52 54])
(.cond (t 55)
(.exit 0)
.skip))
(.seq
(.seq
(.ops [mv 56 9,
op 57 (.bin .eql (t 56) (u 92))])
(.cond (t 57)
(.ops [mv 58 0,
ca 59 139 [(t 58)],
mv 9 59])
.skip))
(.seq
(.ops [mv 60 9,
mv 11 60])
(.seq
(.seq
(.draw [mv 61 0,
dp 62 1 (.nilchk (t 61)),
df 63 2 1 62,
dl 64 3 1 63,
dp 65 4 (.bin .add (t 64) (i 1)),
dm 66 5 0,
dp 67 6 (.nilchk (t 66)),
df 68 7 0 67,
dl 69 8 1 68,
dp 70 9 (.lenStr (t 69)),
dp 71 10 (.bin .lss (t 65) (t 70)),
dm 72 11 71,
⟨(some 73),(some (72,true)),(.p (.mv (t 0))),12,[]⟩,
⟨(some 74),(some (72,true)),(.p (.nilchk (t 73))),13,[]⟩,
⟨(some 75),(some (72,true)),(.p (.fieldAt 0 (t 74))),14,[]⟩,
⟨(some 76),(some (72,true)),(.r (.load 1 false (t 75))),15,[]⟩,
⟨(some 77),(some (72,true)),(.p (.mv (t 0))),16,[]⟩,
⟨(some 78),(some (72,true)),(.p (.nilchk (t 77))),17,[]⟩,
⟨(some 79),(some (72,true)),(.p (.fieldAt 1 (t 78))),18,[]⟩,
⟨(some 80),(some (72,true)),(.r (.load 1 false (t 79))),19,[]⟩,
⟨(some 81),(some (72,true)),(.p (.idxStr (t 76) (t 80))),20,[]⟩,
⟨(some 82),(some (72,true)),(.p (.bin .eql (t 81) (u 45))),21,[]⟩,
dp 83 22 (.pick (t 72) (t 82) (.c (.bool false))),
dm 84 23 83,
⟨(some 85),(some (84,true)),(.p (.mv (t 0))),24,[]⟩,
⟨(some 86),(some (84,true)),(.p (.nilchk (t 85))),25,[]⟩,
⟨(some 87),(some (84,true)),(.p (.fieldAt 0 (t 86))),26,[]⟩,
⟨(some 88),(some (84,true)),(.r (.load 1 false (t 87))),27,[]⟩,
⟨(some 89),(some (84,true)),(.p (.mv (t 0))),28,[]⟩,
⟨(some 90),(some (84,true)),(.p (.nilchk (t 89))),29,[]⟩,
⟨(some 91),(some (84,true)),(.p (.fieldAt 1 (t 90))),30,[]⟩,
⟨(some 92),(some (84,true)),(.r (.load 1 false (t 91))),31,[]⟩,
⟨(some 93),(some (84,true)),(.p (.bin .add (t 92) (i 1))),32,[]⟩,
⟨(some 94),(some (84,true)),(.p (.idxStr (t 88) (t 93))),33,[]⟩,
⟨(some 95),(some (84,true)),(.p (.bin .neq (t 94) (u 93))),34,[]⟩,
dp 96 35 (.pick (t 84) (t 95) (.c (.bool false))),
dm 97 36 96,
⟨(some 98),(some (97,true)),(.p (.mv (t 0))),37,[]⟩,
⟨(some 99),(some (97,true)),(.p (.nilchk (t 98))),38,[]⟩,
⟨(some 100),(some (97,true)),(.p (.fieldAt 3 (t 99))),39,[]⟩,
⟨(some 101),(some (97,true)),(.r (.load 1 false (t 100))),40,[]⟩,
⟨(some 102),(some (97,true)),(.p (.bin .eql (t 101) (i 0))),41,[]⟩,
dp 103 42 (.pick (t 97) (t 102) (.c (.bool false)))])
(.cond (t 103)
(.seq
(.ops [mv 104 0,
nc 105 104,
fa 106 1 105,
ld 107 1 106,
op 108 (.bin .add (t 107) (i 2)),
nc 109 104,
fa 110 1 109,
st 1 110 108])
(.seq
(.seq
(.draw [mv 111 0,
dp 112 1 (.nilchk (t 111)),
df 113 2 0 112,
dl 114 3 1 113,
dm 115 4 0,
dp 116 5 (.nilchk (t 115)),
df 117 6 1 116,
dl 118 7 1 117,
dp 119 8 (.bin .sub (t 118) (i 1)),
dp 120 9 (.idxStr (t 114) (t 119)),
dm 11 10 120])
(.seq
(.ops [mv 121 11,
op 122 (.bin .eql (t 121) (u 92))])
(.cond (t 122)
(.ops [mv 123 0,
ca 124 139 [(t 123)],
mv 11 124])
.skip)))
(.seq
(.ops [mv 125 11,
mv 126 9,
op 127 (.bin .lss (t 125) (t 126))])
(.cond (t 127)
(.ops [mv 128 0,
mv 129 3,
ca 130 135 [(t 128),(t 129),(i 9)]])
.skip))))
.skip))
(.seq
(.ops [mv 131 9,
op 132 (.convInt .i64 (t 131)),
mv 12 132])
(.block 2 (.loop (.seq
(.seq
(.ops [mv 133 12,
mv 134 11,
op 135 (.convInt .i64 (t 134)),
op 136 (.bin .leq (t 133) (t 135))])
(.cond (t 136)
.skip
(.exit 2)))
(.seq
(.block 3 (.ops [la 139 4 4,
mv 140 12,
op 141 (.convInt .u8 (t 140)),
ca 142 140 [(t 139),(t 141)],
st 4 4 142]))
(.ops [mv 137 12,
op 138 (.bin .add (t 137) (i 1)),
mv 12 138]))))))))))))))
(.ops [op 8 (.mv (.c (.bool false)))])))))
(.seq
(.seq
(.ops [mv 143 7])
(.cond (t 143)
(.ops [la 144 4 4,
ca 145 138 [(t 144)],
st 4 4 145])
.skip))
(.seq
(.ops [la 146 4 4,
st 4 2 146])
.ret)))))))))⟩
theorem Vb:Mir.compF Tryz.prog Tryz.f137=some Lp:=by kernel_rfl
def Lr:Mir.Fn:=⟨16,[(.cell 2 4 true)],
(.seq
(.ops [oa 1 (.box (t 0)),
oa 2 (.alloc [(.int .u64 0),(.int .u64 0),(.int .u64 0),(.int .u64 0)])])
(.seq
(.ops [op 3 (.idxArr 4 1 (t 1) (i 0)),
ld 4 1 3,
op 5 (.un .xor (t 4)),
op 6 (.idxArr 4 1 (t 1) (i 1)),
ld 7 1 6,
op 8 (.un .xor (t 7)),
op 9 (.idxArr 4 1 (t 1) (i 2)),
ld 10 1 9,
op 11 (.un .xor (t 10)),
op 12 (.idxArr 4 1 (t 1) (i 3)),
ld 13 1 12,
op 14 (.un .xor (t 13)),
op 15 (.build [(.int .u64 0),(.int .u64 0),(.int .u64 0),(.int .u64 0)] [(0,(1,(t 5))),(1,(1,(t 8))),(2,(1,(t 11))),(3,(1,(t 14)))]),
st 4 2 15])
.ret))⟩
theorem c138:Mir.compF Tryz.prog Tryz.f138=some Lr:=by kernel_rfl
def Ls:Mir.Fn:=⟨62,[(.tmp 2)],
(.seq
(.ops [op 2 (.mv (u 0))])
(.seq
(.ops [mv 6 0,
nc 7 6,
fa 8 1 7,
ld 9 1 8,
op 10 (.bin .sub (t 9) (i 1)),
mv 3 10])
(.seq
(.ops [mv 12 0,
ca 13 134 [(t 12)],
mv 11 13,
xt 14 11 0,
xt 15 11 1,
mv 4 14,
mv 5 15])
(.seq
(.ops [mv 16 0,
nc 17 16,
fa 18 1 17,
ld 19 1 18,
op 20 (.bin .add (t 19) (i 1)),
nc 21 16,
fa 22 1 21,
st 1 22 20])
(.seq
(.block 0 (.seq
(.ops [mv 24 5,
op 25 (.un .not (t 24)),
mv 23 25])
(.cond (t 23)
(.ops [mv 26 0,
mv 27 3,
ca 28 135 [(t 26),(t 27),(i 9)]])
(.seq
(.ops [mv 30 4,
op 31 (.bin .eql (t 30) (u 110)),
mv 29 31])
(.cond (t 29)
(.seq
(.ops [op 2 (.mv (u 10))])
.ret)
(.seq
(.ops [mv 33 4,
op 34 (.bin .eql (t 33) (u 116)),
mv 32 34])
(.cond (t 32)
(.seq
(.ops [op 2 (.mv (u 9))])
.ret)
(.seq
(.seq
(.ops [mv 36 4,
op 37 (.bin .geq (t 36) (u 48)),
mv 38 37,
gm 39 38 true 4,
og 40 38 true (.p (.bin .leq (t 39) (u 57))),
an 41 38 40,
mv 35 41])
(.cond (t 35)
.skip
(.seq
(.ops [mv 42 4,
op 43 (.bin .geq (t 42) (u 97)),
mv 44 43,
gm 45 44 true 4,
og 46 44 true (.p (.bin .leq (t 45) (u 122))),
an 47 44 46,
mv 35 47])
(.cond (t 35)
.skip
(.seq
(.ops [mv 48 4,
op 49 (.bin .geq (t 48) (u 65)),
mv 50 49,
gm 51 50 true 4,
og 52 50 true (.p (.bin .leq (t 51) (u 90))),
an 53 50 52,
mv 35 53])
(.cond (t 35)
.skip
(.seq
(.ops [mv 54 4,
op 55 (.bin .lss (t 54) (u 32)),
mv 35 55])
(.cond (t 35)
.skip
(.ops [mv 56 4,
op 57 (.bin .gtr (t 56) (u 126)),
mv 35 57])))))))))
(.cond (t 35)
(.ops [mv 58 0,
mv 59 3,
ca 60 135 [(t 58),(t 59),(i 9)]])
.skip)))))))))
(.seq
(.ops [mv 61 4,
mv 2 61])
.ret))))))⟩
theorem c139:Mir.compF Tryz.prog Tryz.f139=some Ls:=by kernel_rfl
def Lu:Mir.Fn:=⟨15,[(.cell 4 4 true)],
(.seq
(.ops [oa 2 (.box (t 0)),
oa 4 (.alloc [(.int .u64 0),(.int .u64 0),(.int .u64 0),(.int .u64 0)])])
(.seq
(.ops [mv 5 1,
op 6 (.bin .shr (t 5) (.c (.int .u64 6))),
op 7 (.idxArr 4 1 (t 2) (t 6)),
ld 8 1 7,
mv 9 1,
op 10 (.bin .and (t 9) (u 63)),
op 11 (.bin .shl (.c (.int .u64 1)) (t 10)),
op 12 (.bin .or (t 8) (t 11)),
op 13 (.idxArr 4 1 (t 2) (t 6)),
st 1 13 12])
(.seq
(.ops [la 14 4 2,
st 4 4 14])
.ret)))⟩
theorem Vd:Mir.compF Tryz.prog Tryz.f140=some Lu:=by kernel_rfl
end
section
open Mir
def fnOf:Nat→Option Mir.Fn
 |3=>some g3|4=>some g4|5=>some g5|6=>some g6|7=>some g7|8=>some g8|9=>some g9|10=>some g10
 |11=>some g11|12=>some g12|13=>some g13|14=>some g14|15=>some g15|16=>some g16|17=>some g17|18=>some g18
 |19=>some g19|20=>some g20|21=>some g21|22=>some g22|24=>some g24|25=>some g25|26=>some g26
 |27=>some g27|28=>some g28|29=>some g29|30=>some g30|31=>some g31|32=>some g32|33=>some g33|34=>some g34
 |35=>some g35|36=>some g36|37=>some g37|38=>some g38|39=>some g39|40=>some g40|41=>some g41|42=>some g42
 |43=>some g43|44=>some g44|45=>some g45|46=>some g46|47=>some g47|48=>some g48|49=>some g49|50=>some g50
 |51=>some g51|52=>some g52|53=>some g53|54=>some g54|55=>some g55|56=>some g56|57=>some g57|58=>some g58
 |59=>some g59|60=>some g60|61=>some g61|62=>some g62|63=>some g63|64=>some g64|65=>some g65|66=>some g66
 |67=>some g67|68=>some g68|69=>some g69|70=>some g70|71=>some g71|72=>some g72|73=>some g73|74=>some g74
 |75=>some g75|76=>some g76|77=>some g77|78=>some g78|79=>some g79|80=>some g80|81=>some g81|82=>some g82
 |83=>some g83|84=>some g84|85=>some g85|86=>some g86|87=>some g87|88=>some g88|89=>some g89|90=>some g90
 |91=>some g91|92=>some g92|93=>some g93|94=>some g94|95=>some g95|96=>some g96|97=>some g97|98=>some g98
 |99=>some g99|101=>some Um|102=>some KJ|104=>some KL|105=>some KN|106=>some KO|107=>some KP|108=>some Un
 |114=>some KQ|115=>some KR|116=>some KT
 |122=>some KU|123=>some KW
 |126=>some KX|127=>some KY|128=>some Dq|129=>some KZ|130=>some La|131=>some Ld|132=>some Le|133=>some Lh
 |134=>some Lj|135=>some Ll|136=>some Lm|137=>some Lp|138=>some Lr|139=>some Ls|140=>some Lu
 |_=>none
def pg:Pg:=⟨fnOf,fun _ _=>none⟩
set_option maxRecDepth 100000 in
theorem UC:PgOk Tryz.prog pg:=by
 refine⟨by kernel_rfl,fun f g hg=>?_,fun f args v hk=>by cases hk⟩;simp only[pg,fnOf]at hg;split at hg<;>cases hg
 ·exact⟨_,Tryz.func3,c3,by decide⟩
 ·exact⟨_,Tryz.func4,c4,by decide⟩
 ·exact⟨_,Tryz.func5,c5,by decide⟩
 ·exact⟨_,Tryz.func6,c6,by decide⟩
 ·exact⟨_,Tryz.func7,c7,by decide⟩
 ·exact⟨_,Tryz.func8,c8,by decide⟩
 ·exact⟨_,Tryz.func9,c9,by decide⟩
 ·exact⟨_,Tryz.func10,c10,by decide⟩
 ·exact⟨_,Tryz.func11,c11,by decide⟩
 ·exact⟨_,Tryz.func12,c12,by decide⟩
 ·exact⟨_,Tryz.func13,c13,by decide⟩
 ·exact⟨_,Tryz.func14,c14,by decide⟩
 ·exact⟨_,Tryz.func15,c15,by decide⟩
 ·exact⟨_,Tryz.func16,c16,by decide⟩
 ·exact⟨_,Tryz.func17,c17,by decide⟩
 ·exact⟨_,Tryz.func18,c18,by decide⟩
 ·exact⟨_,Tryz.func19,c19,by decide⟩
 ·exact⟨_,Tryz.func20,c20,by decide⟩
 ·exact⟨_,Tryz.func21,c21,by decide⟩
 ·exact⟨_,Tryz.func22,c22,by decide⟩
 ·exact⟨_,Tryz.func24,c24,by decide⟩
 ·exact⟨_,Tryz.func25,c25,by decide⟩
 ·exact⟨_,Tryz.func26,c26,by decide⟩
 ·exact⟨_,Tryz.func27,c27,by decide⟩
 ·exact⟨_,Tryz.func28,c28,by decide⟩
 ·exact⟨_,Tryz.func29,c29,by decide⟩
 ·exact⟨_,Tryz.func30,c30,by decide⟩
 ·exact⟨_,Tryz.func31,c31,by decide⟩
 ·exact⟨_,Tryz.func32,c32,by decide⟩
 ·exact⟨_,Tryz.func33,c33,by decide⟩
 ·exact⟨_,Tryz.func34,c34,by decide⟩
 ·exact⟨_,Tryz.func35,c35,by decide⟩
 ·exact⟨_,Tryz.func36,c36,by decide⟩
 ·exact⟨_,Tryz.func37,c37,by decide⟩
 ·exact⟨_,Tryz.func38,c38,by decide⟩
 ·exact⟨_,Tryz.func39,c39,by decide⟩
 ·exact⟨_,Tryz.func40,c40,by decide⟩
 ·exact⟨_,Tryz.func41,c41,by decide⟩
 ·exact⟨_,Tryz.func42,c42,by decide⟩
 ·exact⟨_,Tryz.func43,c43,by decide⟩
 ·exact⟨_,Tryz.func44,c44,by decide⟩
 ·exact⟨_,Tryz.func45,c45,by decide⟩
 ·exact⟨_,Tryz.func46,c46,by decide⟩
 ·exact⟨_,Tryz.func47,c47,by decide⟩
 ·exact⟨_,Tryz.func48,c48,by decide⟩
 ·exact⟨_,Tryz.func49,c49,by decide⟩
 ·exact⟨_,Tryz.func50,c50,by decide⟩
 ·exact⟨_,Tryz.func51,c51,by decide⟩
 ·exact⟨_,Tryz.func52,c52,by decide⟩
 ·exact⟨_,Tryz.func53,c53,by decide⟩
 ·exact⟨_,Tryz.func54,c54,by decide⟩
 ·exact⟨_,Tryz.func55,c55,by decide⟩
 ·exact⟨_,Tryz.func56,c56,by decide⟩
 ·exact⟨_,Tryz.func57,c57,by decide⟩
 ·exact⟨_,Tryz.func58,c58,by decide⟩
 ·exact⟨_,Tryz.func59,c59,by decide⟩
 ·exact⟨_,Tryz.func60,c60,by decide⟩
 ·exact⟨_,Tryz.func61,c61,by decide⟩
 ·exact⟨_,Tryz.func62,c62,by decide⟩
 ·exact⟨_,Tryz.func63,c63,by decide⟩
 ·exact⟨_,Tryz.func64,c64,by decide⟩
 ·exact⟨_,Tryz.func65,c65,by decide⟩
 ·exact⟨_,Tryz.func66,c66,by decide⟩
 ·exact⟨_,Tryz.func67,c67,by decide⟩
 ·exact⟨_,Tryz.func68,c68,by decide⟩
 ·exact⟨_,Tryz.func69,c69,by decide⟩
 ·exact⟨_,Tryz.func70,c70,by decide⟩
 ·exact⟨_,Tryz.func71,c71,by decide⟩
 ·exact⟨_,Tryz.func72,c72,by decide⟩
 ·exact⟨_,Tryz.func73,c73,by decide⟩
 ·exact⟨_,Tryz.func74,c74,by decide⟩
 ·exact⟨_,Tryz.func75,c75,by decide⟩
 ·exact⟨_,Tryz.func76,c76,by decide⟩
 ·exact⟨_,Tryz.func77,c77,by decide⟩
 ·exact⟨_,Tryz.func78,c78,by decide⟩
 ·exact⟨_,Tryz.func79,c79,by decide⟩
 ·exact⟨_,Tryz.func80,c80,by decide⟩
 ·exact⟨_,Tryz.func81,c81,by decide⟩
 ·exact⟨_,Tryz.func82,c82,by decide⟩
 ·exact⟨_,Tryz.func83,c83,by decide⟩
 ·exact⟨_,Tryz.func84,c84,by decide⟩
 ·exact⟨_,Tryz.func85,c85,by decide⟩
 ·exact⟨_,Tryz.func86,c86,by decide⟩
 ·exact⟨_,Tryz.func87,c87,by decide⟩
 ·exact⟨_,Tryz.func88,c88,by decide⟩
 ·exact⟨_,Tryz.func89,c89,by decide⟩
 ·exact⟨_,Tryz.func90,c90,by decide⟩
 ·exact⟨_,Tryz.func91,c91,by decide⟩
 ·exact⟨_,Tryz.func92,c92,by decide⟩
 ·exact⟨_,Tryz.func93,c93,by decide⟩
 ·exact⟨_,Tryz.func94,c94,by decide⟩
 ·exact⟨_,Tryz.func95,c95,by decide⟩
 ·exact⟨_,Tryz.func96,c96,by decide⟩
 ·exact⟨_,Tryz.func97,c97,by decide⟩
 ·exact⟨_,Tryz.func98,c98,by decide⟩
 ·exact⟨_,Tryz.func99,c99,by decide⟩
 ·exact⟨_,Tryz.func101,UU,by decide⟩
 ·exact⟨_,Tryz.func102,UV,by decide⟩
 ·exact⟨_,Tryz.func104,UW,by decide⟩
 ·exact⟨_,Tryz.func105,c105,by decide⟩
 ·exact⟨_,Tryz.func106,UX,by decide⟩
 ·exact⟨_,Tryz.func107,c107,by decide⟩
 ·exact⟨_,Tryz.func108,UY,by decide⟩
 ·exact⟨_,Tryz.func114,UZ,by decide⟩
 ·exact⟨_,Tryz.func115,U0,by decide⟩
 ·exact⟨_,Tryz.func116,c116,by decide⟩
 ·exact⟨_,Tryz.func122,U1,by decide⟩
 ·exact⟨_,Tryz.func123,U2,by decide⟩
 ·exact⟨_,Tryz.func126,U3,by decide⟩
 ·exact⟨_,Tryz.func127,c127,by decide⟩
 ·exact⟨_,Tryz.func128,U4,by decide⟩
 ·exact⟨_,Tryz.func129,U5,by decide⟩
 ·exact⟨_,Tryz.func130,c130,by decide⟩
 ·exact⟨_,Tryz.func131,c131,by decide⟩
 ·exact⟨_,Tryz.func132,U6,by decide⟩
 ·exact⟨_,Tryz.func133,U7,by decide⟩
 ·exact⟨_,Tryz.func134,U8,by decide⟩
 ·exact⟨_,Tryz.func135,U9,by decide⟩
 ·exact⟨_,Tryz.func136,Va,by decide⟩
 ·exact⟨_,Tryz.func137,Vb,by decide⟩
 ·exact⟨_,Tryz.func138,c138,by decide⟩
 ·exact⟨_,Tryz.func139,c139,by decide⟩
 ·exact⟨_,Tryz.func140,Vd,by decide⟩
end
section
open Mir
variable{h:H}{Q:V→H→Prop}
def bC(t:Tokn):List V:=[.int .i64 t.k,.str t.t,.int .i64 t.a]
def flat(T:List Tokn):List V:=T.flatMap bC
theorem jE(T:List Tokn):(flat T).length=3*T.length:=by
 induction T with
 |nil=>rfl
 |cons t T ih=>simp only[flat,List.flatMap_cons,List.length_append,List.length_cons]at ih⊢;rw[ih];simp[bC];omega
theorem yS(T:List Tokn)(t:Tokn):flat (T++[t])=flat T++bC t:=by simp[flat]
def TokSl(h0:H)(l:Nat)(h:H)(v:V)(T:List Tokn):Prop:=
 (T=[]∧v=.nilsl)∨∃b,b≠l∧h0 b=none∧v=.sl b 0 3 T.length∧h b=some (.cells (flat T) false)
structure LexAt(h0 h:H)(l:Nat)(s:Txt)(at':Nat)(T:List Tokn):Prop where
 obj:∃v,h l=some (.cells [.str s,.int .i64 at',v] false)∧TokSl h0 l h v T
 base:h0 l=none
 sub:Sub h0 h
 small:s.length<100000
theorem iI(c:UInt8)(hq:Q (.bool (isLet c)) h):AC pg (.fn 61) [.int .u8 c.toNat] h Q:=by
 refine AC.fn' (g:=g61) rfl (by simp only[List.length_cons,List.length_nil,g61];decide) ?_;simp only[g61,Mir.Ab.all]
 (have hI:c.toNat<65∨65≤c.toNat∧c.toNat<91∨91≤c.toNat∧c.toNat<95∨c.toNat=95∨c.toNat=96∨97≤c.toNat∧c.toNat<123∨123≤c.toNat:=(by omega));rcases hI with hI|hI|hI|hI|hI|hI|hI
 all_goals refine W0 ?_
 all_goals refine⟨_,Sub.refl,?_⟩
 all_goals first
  |(rw[show isLet c=true from by simp[isLet];omega]at hq;exact hq)
  |(rw[show isLet c=false from by simp[isLet];omega]at hq;exact hq)
theorem dP(c:UInt8)(hq:Q (.bool (aU c)) h):AC pg (.fn 59) [.int .u8 c.toNat] h Q:=by
 refine AC.fn' (g:=g59) rfl (by simp only[List.length_cons,List.length_nil,g59];decide) ?_;simp only[g59,Mir.Ab.all]
 (have hI:c.toNat<48∨48≤c.toNat∧c.toNat<58∨58≤c.toNat:=(by omega));rcases hI with hI|hI|hI
 all_goals refine W0 ?_
 all_goals refine⟨_,Sub.refl,?_⟩
 all_goals first
  |(rw[show aU c=true from by simp[aU];omega]at hq;exact hq)
  |(rw[show aU c=false from by simp[aU];omega]at hq;exact hq)
theorem MP(c:UInt8)(hq:Q (.bool (mg c)) h):AC pg (.fn 57) [.int .u8 c.toNat] h Q:=by
 refine AC.fn' (g:=g57) rfl (by simp only[List.length_cons,List.length_nil,g57];decide) ?_;simp only[g57,Mir.Ab.all]
 by_cases e:c.toNat=10
 all_goals refine W0 ?_
 all_goals refine⟨_,Sub.refl,?_⟩
 all_goals first
  |(rw[show mg c=true from by simp[mg];omega]at hq;exact hq)
  |(rw[show mg c=false from by simp[mg];omega]at hq;exact hq)
theorem Om(c:UInt8)(hq:Q (.bool (aV c)) h):AC pg (.fn 80) [.int .u8 c.toNat] h Q:=by
 refine AC.fn' (g:=g80) rfl (by simp only[List.length_cons,List.length_nil,g80];decide) ?_;simp only[g80,Mir.Ab.all];refine W0 ?_;refine iI c ?_;unfold aV at hq;cases e:isLet c
 ·rw[e]at hq;refine W0 ?_;refine dP c ?_;refine W0 ?_;exact⟨_,Sub.refl,by simpa using hq⟩
 ·rw[e]at hq;refine W0 ?_;exact⟨_,Sub.refl,by simpa using hq⟩
variable{h0:H}{l:Nat}{s:Txt}{i:Nat}{T:List Tokn}
theorem Nu{s:Txt}{x:Int}{j:Nat}(e:x=j)(h:j<s.length):s[x.toNat]?=some (pk s j):=by
 subst e;rw[Int.toNat_natCast];simp[pk,List.getD,h]
theorem xC{s:Txt}{j:Nat}(h:j<s.length):s[j]?=some (pk s j):=by simp[pk,List.getD,h]
theorem NC{s:Txt}{j:Nat}(h:s.length≤j):pk s j=0:=by simp[pk,List.getD,List.getElem?_eq_none h]
theorem jR(L:LexAt h0 h l s i T)(n:Nat)(hi:i+n<1099511627776)(hq:Q (.int .u8 (pk s (i+n)).toNat) h):AC pg (.fn 58) [.ptr l 0,.int .i64 n] h Q:=by
 obtain⟨⟨v,hl,hT⟩,hb,hs,sm⟩:=L;refine AC.fn' (g:=g58) rfl (by simp only[List.length_cons,List.length_nil,g58];decide) ?_;simp only[g58,Mir.Ab.all]
 by_cases c:s.length≤i+n
 ·refine W1 hl ?_;refine⟨_,Sub.refl,?_⟩;rw[NC c]at hq;exact hq
 ·have e:=Nu (s:=s) (x:=(i:Int)+n) (j:=i+n) (by omega) (by omega);refine W2 hl e ?_;exact⟨_,Sub.refl,hq⟩
theorem LexAt.move(L:LexAt h0 h l s i T)(j:Nat):∃v,h l=some (.cells [.str s,.int .i64 i,v] false)∧LexAt h0 (hadd h l (.cells [.str s,.int .i64 j,v] false)) l s j T:=by
 obtain⟨⟨v,hl,hT⟩,hb,hs,sm⟩:=L;refine⟨v,hl,⟨v,by simp[hadd,hset],?_⟩,hb,fun b o hb'=>?_,sm⟩
 ·rcases hT with hT|⟨b,h1,h2,h3,h4⟩
  ·exact .inl hT
  ·exact .inr ⟨b,h1,h2,h3,by rw[ae h1];exact h4⟩
 ·have:b≠l:=fun e=>by rw[e,hb]at hb';cases hb'
  rw[ae this];exact hs _ _ hb'
theorem sN(L:LexAt h0 h l s i T)(p:UInt8→Bool){f:Nat}(hf:∀(c:UInt8) (h:H) (Q:V→H→Prop),Q (.bool (p c)) h→AC pg (.fn f) [.int .u8 c.toNat] h Q)(hi:i≤s.length)
  (hq:∀h',LexAt h0 h' l s (past p s i) T→Q (.tup []) h'):AC pg (.fn 56) [.ptr l 0,.fn f [] []] h Q:=by
 refine AC.fn' (g:=g56) rfl (by simp only[List.length_cons,List.length_nil,g56];decide) ?_;simp only[g56,Mir.Ab.all];refine W0 ?_;refine E.loopX AC.mono (fun(x:Nat) a' h'=>LexAt h0 h' l s (s.length-x) T∧x≤s.length∧past p s (s.length-x)=past p s i∧a'.t 0=.ptr l 0∧a'.t 1=.fn f [] []∧a'.d=[]) (fun x=>x) (s.length-i) ?_ ?_
 ·exact⟨by rw[show s.length-(s.length-i)=i from by omega];exact L,by omega,by rw[show s.length-(s.length-i)=i from by omega],rfl,rfl,rfl⟩
 ·intro x a h' ⟨L',hx,hp,t0,t1,hd⟩;obtain⟨v,hl,hm⟩:=L'.move (s.length-x+1);have sm:=L'.small
  by_cases c:x=0
  ·subst c;rw[xB (by omega)]at hp;refine W4 hl t0 t1 hd ?_;exact⟨_,Sub.refl,hq _ (by rw[← hp];exact L')⟩
  ·have e:=xC (s:=s) (j:=s.length-x) (by omega);refine W5 hl e t0 t1 hd ?_;refine hf _ _ _ ?_;cases hc:p (pk s (s.length-x))
   ·refine W4 hl t0 t1 hd ?_;rw[xB (fun _=>hc)]at hp;exact⟨_,Sub.refl,hq _ (by rw[← hp];exact L')⟩
   ·refine W4 hl t0 t1 hd ?_;refine⟨x-1,by omega,?_,by omega,?_⟩
    ·have:((s.length-x:Nat):Int)+1=((s.length-(x-1):Nat):Int):=by omega
     rw[this,← show s.length-x+1=s.length-(x-1)from by omega];exact hm
    ·rw[← hp,kR (by omega) hc,show s.length-x+1=s.length-(x-1)from by omega]
theorem af{h0:H}{b c:Nat}{o:AObj}(hb:h0 b=none)(hc:h0 c=some o):c≠b:=fun e=>by rw[e,hb]at hc;cases hc
theorem Ia(T:List Tokn):((flat T).drop 0).take (T.length*3)=flat T:=by rw[List.drop_zero,List.take_of_length_le (by rw[jE];omega)]
theorem iL(L:LexAt h0 h l s i T)(hT:T.length<1000000)(k:Nat)(t:Txt)(a:Nat)(hq:∀h',LexAt h0 h' l s i (T++[⟨k,t,a⟩])→Q (.tup []) h'):
  AC pg (.fn 38) [.ptr l 0,.int .i64 k,.str t,.int .i64 a] h Q:=by
 obtain⟨⟨v,hl,hT'⟩,hb,hs,sm⟩:=L;refine AC.fn' (g:=g38) rfl (by simp only[List.length_cons,List.length_nil,g38];decide) ?_;simp only[g38,Mir.Ab.all];refine W1 hl ?_;intro b hb';have hbl:b≠l:=fun e=>by rw[e,hl]at hb';cases hb'
 have h0b:h0 b=none:=by
  cases e:h0 b with
  |none=>rfl
  |some o=>rw[hs _ _ e]at hb';cases hb'
 rcases hT' with⟨rfl,rfl⟩|⟨b1,h1,h2,rfl,h4⟩
 ·refine W3 hl hb' hbl ?_;intro b2 hb2;have h2l:b2≠l:=fun e=>by rw[e,ae (Ne.symm hbl),hl]at hb2;cases hb2
  have h2b:b2≠b:=fun e=>by rw[e]at hb2;simp[hadd,hset]at hb2
  rw[ae h2b]at hb2;have h02:h0 b2=none:=by
   cases e:h0 b2 with
   |none=>rfl
   |some o=>rw[hs _ _ e]at hb2;cases hb2
  refine W6 hl hbl h2l h2b (Ne.symm h2l) (Ne.symm hbl) ?_;refine⟨_,Sub.refl,hq _ ⟨⟨.sl b2 0 3 1,by simp[hadd,hset],.inr ⟨b2,h2l,h02,rfl,by simp[hadd,hset,h2l,flat,bC]⟩⟩,hb,fun c o hc=>?_,sm⟩⟩;have c1:=af hb hc;have c2:=af h0b hc;have c3:=af h02 hc;simp only[hadd,hset,if_neg c1,if_neg c2,if_neg c3];exact hs _ _ hc
 ·have hbb:b1≠b:=fun e=>by rw[e,hb']at h4;cases h4
  have fl:=jE T;refine W6 hl hb' hbl h4 hbb fl ?_;intro b2 h21 hb2;have h2l:b2≠l:=fun e=>by rw[e,ae (Ne.symm hbl),hl]at hb2;cases hb2
  have h2b:b2≠b:=fun e=>by rw[e]at hb2;simp[hadd,hset]at hb2
  rw[ae h2b]at hb2;have h02:h0 b2=none:=by
   cases e:h0 b2 with
   |none=>rfl
   |some o=>rw[hs _ _ e]at hb2;cases hb2
  refine W8 hl hbl h2l h2b h1 (Ne.symm h1) (Ne.symm h2l) (Ne.symm hbl) ?_;have ft:=Ia T;rw[List.drop_zero]at ft;refine⟨_,Sub.refl,hq _ ⟨⟨.sl b2 0 3 (T.length+1),by simp[hadd,hset],.inr ⟨b2,h2l,h02,by simp,by simp[hadd,hset,h2l,yS,bC,ft]⟩⟩,hb,fun c o hc=>?_,sm⟩⟩;have c1:=af hb hc;have c2:=af h0b hc;have c3:=af h02 hc;have c4:=af h2 hc;simp only[hadd,hset,if_neg c1,if_neg c2,if_neg c3,if_neg c4];exact hs _ _ hc
end
section
open Mir
variable{h:H}{Q:V→H→Prop}
theorem PE(s:List UInt8)(n:Nat)(hq:Q (.str (s.take n)) h):AC pg (.fn 13) [.str s,.int .i64 n] h Q:=by
 refine AC.fn' (g:=g13) rfl (by simp only[List.length_cons,List.length_nil,g13];decide) ?_;simp only[g13,Mir.Ab.all]
 by_cases c:(n:Int)<s.length
 ·refine W0 ?_;exact⟨h,Sub.refl,hq⟩
 ·refine W0 ?_;rw[List.take_of_length_le (by omega)]at hq;exact⟨h,Sub.refl,hq⟩
theorem tu{c:UInt8}:∀{s:List UInt8},c∉s→mG c s = -1
 |[],_=>rfl
 |b::s,h=>by
   have h1:¬b=c:=fun e=>h (e ▸ List.mem_cons_self);have h2:=tu (s:=s) fun e=>h (List.mem_cons_of_mem _ e);simp[mG,h1,h2]
theorem tC{c:UInt8}:∀{l r:List UInt8},c∉l→mG c (l++c::r)=(l.length:Nat)
 |[],r,_=>by simp[mG]
 |b::l,r,h=>by
   have h1:¬b=c:=fun e=>h (e ▸ List.mem_cons_self);have h2:=tC (l:=l) (r:=r) fun e=>h (List.mem_cons_of_mem _ e);have h3:¬((l.length:Nat):Int) = -1:=by omega
   simp[mG,h1,h2,h3]
theorem xW(c:UInt8)(s:List UInt8):c∉s∨∃l r,s=l++c::r∧c∉l:=by
 induction s with
 |nil=>exact .inl (by simp)
 |cons b s ih =>
   by_cases e:b=c
   ·exact .inr ⟨[],s,by simp[e],by simp⟩
   ·rcases ih with h|⟨l,r,h1,h2⟩
    ·exact .inl (by simp[h];exact fun x=>e x.symm)
    ·exact .inr ⟨b::l,r,by simp[h1],by simp[h2];exact fun x=>e x.symm⟩
end
section
open Mir
variable{h:H}{Q:V→H→Prop}
theorem LV(n:Nat)(hn:n<9223372036854775808):Ir .i64 (n:Int) 1=(n % 2:Nat):=by
 unfold Ir;have e:(BitVec.ofInt 64 (n:Int) &&& BitVec.ofInt 64 1).toNat=n % 2:=by
  rw[IM,BitVec.toNat_and,show BitVec.ofInt 64 1=BitVec.ofNat 64 1 from rfl,BitVec.toNat_ofNat,BitVec.toNat_ofNat,Nat.mod_eq_of_lt (show n<2 ^ 64 by omega),show 1 % 2 ^ 64=1 from rfl,Nat.and_one_is_mod]
 show IntKind.i64.wrap (((BitVec.ofInt 64 (n:Int) &&& BitVec.ofInt 64 1).toNat:Nat):Int)=_
 rw[e,oI (by omega) (by omega)]
theorem Qo(n:Nat):wO .i64 (n:Int) 1=(n / 2:Nat):=by
 show(n:Int).fdiv (2 ^ (min 1 64))=_
 rw[Int.fdiv_eq_ediv_of_nonneg _ (by decide)];rfl
theorem Pm(t:List UInt8)(ht:t.length<1099511627776)(hq:Q (.tup [.int .u32 (rkS t % rkM),.int .u32 (rkP ^ t.length % rkM)]) h):AC pg (.fn 122) [.str t] h Q:=by
 refine AC.fn' (g:=KU) rfl (by simp only[List.length_cons,List.length_nil,KU];decide) ?_;simp only[KU,Mir.Ab.all];refine W0 ?_;refine E.loopX AC.mono (fun(i:Nat) a' h'=>i≤t.length∧h'=h∧a'.d=[]∧a'.t 0=.str t∧a'.t 4=.int .u32 (rkS (t.take i) % rkM)∧a'.t 5=.int .i64 i) (fun i=>t.length-i) 0 ?_ ?_
 ·refine⟨Nat.zero_le _,rfl,?_⟩;refine W0 ?_
  ((repeat' apply An2)<;>(first|omega|rfl|assumption|(congr 1<;>omega)|skip))
 ·rintro i ⟨tm,d⟩ h' ⟨hi,rfl,hd,t0,t4,t5⟩;simp only at hd t0 t4 t5;subst hd;refine W3 t0 t4 t5 ?_;refine wI (fun c=>?_) (fun c=>?_)
  ·have hi':i<t.length:=by omega
   obtain⟨x,hx⟩:∃x,t[i]?=some x:=⟨t[i],List.getElem?_eq_getElem hi'⟩;have hb:=x.toNat_lt;have htk:t.take (i+1)=t.take i++[x]:=by rw[List.take_add_one,hx];rfl
   refine W4 t0 t4 t5 hx ?_;refine⟨i+1,?_⟩;refine W3 t0 t4 t5 ?_;rw[htk,xP,jw,jw];refine⟨by omega,by omega,?_⟩;congr 1;refine⟨?_,by congr 1⟩;congr 1;simp only[rkP,rkM];omega
  ·have hi':i=t.length:=by omega
   subst hi';rw[List.take_length]at t4;refine W3 t0 t4 t5 ?_;refine E.loopX AC.mono (fun(x:Nat × Int × Int) a' h''=>h''=h'∧x.1≤t.length∧(x.2.1*x.2.2 ^ x.1) % rkM=rkP ^ t.length % rkM∧a'.d=[]∧a'.t 4=.int .u32 (rkS t % rkM)∧a'.t 6=.int .u32 (x.2.1 % rkM)∧a'.t 7=.int .u32 (x.2.2 % rkM)∧a'.t 8=.int .i64 x.1) (fun x=>x.1) (t.length,1,rkP) ?_ ?_
   ·refine⟨rfl,Nat.le_refl _,by rw[Int.one_mul],?_⟩;refine W1 t4 ?_
    ((repeat' apply An2)<;>(first|omega|rfl|assumption|(congr 1<;>omega)|skip))
   ·rintro⟨n,p,q⟩ ⟨tm,d⟩ h'' ⟨rfl,hn,hp,hd,t4,t6,t7,t8⟩;simp only at hd hn hp t4 t6 t7 t8;subst hd;refine W4 t4 t6 t7 t8 ?_;refine wI (fun c=>?_) (fun c=>?_)
    ·have hmul:∀a b:Int,IntKind.u32.wrap (a % rkM*(b % rkM))=(a*b) % rkM:=fun a b=>by rw[jw,← Int.mul_emod]
     have i1:=LV n (by omega);have i2:=Qo n;rcases Nat.mod_two_eq_zero_or_one n with e|e
     ·rw[e]at i1;refine W7 t4 t6 t7 t8 i1 i2 hmul ?_;refine⟨(n / 2,p,q*q),?_⟩;refine W7 t4 t6 t7 t8 i1 i2 hmul ?_;refine⟨by omega,by omega,?_⟩;rw[← hp]
      conv=>rhs;rw[show n=n / 2+n / 2 from by omega,Int.pow_add,← Int.mul_pow]
     ·rw[e]at i1;refine W7 t4 t6 t7 t8 i1 i2 hmul ?_;refine⟨(n / 2,p*q,q*q),?_⟩;refine W7 t4 t6 t7 t8 i1 i2 hmul ?_;refine⟨by omega,by omega,?_⟩;rw[← hp]
      conv=>rhs;rw[show n=n / 2+n / 2+1 from by omega,Int.pow_succ,Int.pow_add,← Int.mul_pow,Int.mul_comm _ q,← Int.mul_assoc]
    ·have e:n=0:=by omega
     subst e;rw[Int.pow_zero,Int.mul_one]at hp;rw[hp]at t6;refine W4 t4 t6 t7 t8 ?_;exact⟨_,Sub.refl,hq⟩
theorem QP(s t:List UInt8)(hs:s.length<1099511627776)(h0:0<t.length)(hl:t.length≤s.length)(hq:Q (.int .i64 (cu t s)) h):AC pg (.fn 114) [.str s,.str t] h Q:=by
 refine AC.fn' (g:=KQ) rfl (by simp only[List.length_cons,List.length_nil,KQ];decide) ?_;simp only[KQ,Mir.Ab.all];refine W0 ?_;refine Pm t (by omega) ?_;refine W0 ?_;refine E.loopX AC.mono (fun(i:Nat) a' h'=>i≤t.length∧h'=h∧a'.d=[]∧a'.t 0=.str s∧a'.t 1=.str t∧a'.t 5=.int .u32 (rkS t % rkM)∧a'.t 6=.int .u32 (rkP ^ t.length % rkM)∧a'.t 7=.int .i64 t.length∧a'.t 8=.int .u32 (rkS (s.take i) % rkM)∧a'.t 9=.int .i64 i) (fun i=>t.length-i) 0 ?_ ?_
 ·refine⟨Nat.zero_le _,rfl,?_⟩;refine W0 ?_
  ((repeat' apply An2)<;>(first|omega|rfl|assumption|(congr 1<;>omega)|skip))
 ·rintro i ⟨tm,d⟩ h' ⟨hi,rfl,hd,t0,t1,t5,t6,t7,t8,t9⟩;simp only at hd t0 t1 t5 t6 t7 t8 t9;subst hd;refine W7 t0 t1 t5 t6 t7 t8 t9 ?_;refine wI (fun c=>?_) (fun c=>?_)
  ·have hi':i<s.length:=by omega
   obtain⟨x,hx⟩:∃x,s[i]?=some x:=⟨s[i],List.getElem?_eq_getElem hi'⟩;have hb:=x.toNat_lt;have htk:s.take (i+1)=s.take i++[x]:=by rw[List.take_add_one,hx];rfl
   refine W8 t0 t1 t5 t6 t7 t8 t9 hx ?_;refine⟨i+1,?_⟩;refine W7 t0 t1 t5 t6 t7 t8 t9 ?_;rw[htk,xP,jw,jw];refine⟨by omega,by omega,?_,by congr 1⟩;congr 1;simp only[rkP,rkM];omega
  ·have hi':i=t.length:=by omega
   subst hi';have et:((t.length:Nat):Int).toNat=t.length:=by omega
   by_cases e:s.take t.length=t
   ·have q:cu t s=0:=oQ (i:=0) (by omega) (by unfold occ;simpa using e) (fun j hj=>by omega);rw[q]at hq;rw[e]at t8;refine W8 t0 t1 t5 t6 t7 t8 t9 (An2 et e) ?_;exact⟨_,Sub.refl,hq⟩
   ·by_cases e2:rkS (s.take t.length) % rkM=rkS t % rkM
    all_goals
     refine W8 t0 t1 t5 t6 t7 t8 t9 (An2 et (An2 e (An2 e2 (decide_eq_false e)))) ?_;refine E.loopX AC.mono (fun(i:Nat) a' h''=>t.length≤i∧i≤s.length∧h''=h'∧a'.d=[]∧a'.t 0=.str s∧a'.t 1=.str t∧a'.t 5=.int .u32 (rkS t % rkM)∧a'.t 6=.int .u32 (rkP ^ t.length % rkM)∧a'.t 7=.int .i64 t.length∧a'.t 8=.int .u32 (rkS (win s t.length i) % rkM)∧a'.t 10=.int .i64 i∧∀j,j≤i-t.length→¬occ t s j) (fun i=>s.length-i) t.length ?_ ?_
     ·refine⟨Nat.le_refl _,hl,rfl,?_⟩;refine W7 t0 t1 t5 t6 t7 t8 t9 ?_;refine⟨by simp[win],fun j hj=>?_⟩;obtain rfl:j=0:=by omega
      unfold occ;simpa using e
     ·rintro i ⟨tm,d⟩ h'' ⟨hi1,hi2,rfl,hd,t0,t1,t5,t6,t7,t8,t10,hno⟩;simp only at hd t0 t1 t5 t6 t7 t8 t10;subst hd;refine W7 t0 t1 t5 t6 t7 t8 t10 ?_;refine wI (fun c=>?_) (fun c=>?_)
      ·have hi':i<s.length:=by omega
       obtain⟨x,hx⟩:∃x,s[i]?=some x:=⟨s[i],List.getElem?_eq_getElem hi'⟩;obtain⟨y,hy⟩:∃y,s[i-t.length]?=some y:=⟨s[i-t.length],List.getElem?_eq_getElem (by omega)⟩;obtain⟨l,hw1,hw2,hw3⟩:=Oj h0 hi1 hx hy;have hb:=x.toNat_lt;have hb':=y.toNat_lt;have eix:((i:Nat):Int).toNat=i:=by omega
       have ein:(((i:Nat):Int)-((t.length:Nat):Int)).toNat=i-t.length:=by omega
       have eiy:(((i:Nat):Int)+1).toNat=i+1:=by omega
       have eiz:(((i:Nat):Int)+1-((t.length:Nat):Int)).toNat=i+1-t.length:=by omega
       have roll:IntKind.u32.wrap (IntKind.u32.wrap (IntKind.u32.wrap (rkS (win s t.length i) % rkM*16777619)+((x.toNat:Nat):Int))-IntKind.u32.wrap (rkP ^ t.length % rkM*((y.toNat:Nat):Int)))=rkS (win s t.length (i+1)) % rkM:=by
        rw[jw,jw,jw,jw];rw[hw3,xP];exact ML rfl rfl (by rw[hw1,NK,hw2]) h0
       by_cases e3:win s t.length (i+1)=t
       ·have q:cu t s=(((i+1-t.length:Nat):Nat):Int):=by
         have:=(GZ (s:=s) (t:=t) (i:=i+1) (by omega)).2 e3;exact oQ (by omega) this (fun j hj=>hno j (by omega))
        have e4:(s.take (i+1)).drop (i+1-t.length)=t:=e3;rw[q]at hq;rw[e3]at roll;refine W8 t0 t1 t5 t6 t7 t8 t10 (An2 hx (An2 hy (An2 eix (An2 ein (An2 eiy (An2 eiz (An2 roll e4))))))) ?_;refine⟨_,Sub.refl,?_⟩;rw[show((i:Nat):Int)+1-((t.length:Nat):Int)=((i+1-t.length:Nat):Int)from by omega];exact hq
       ·have e4:¬(s.take (i+1)).drop (i+1-t.length)=t:=e3
        by_cases e5:rkS (win s t.length (i+1)) % rkM=rkS t % rkM
        all_goals
         refine W8 t0 t1 t5 t6 t7 t8 t10 (An2 hx (An2 hy (An2 eix (An2 ein (An2 eiy (An2 eiz (An2 roll (An2 e4 (An2 e5 (decide_eq_false e4)))))))))) ?_;refine⟨i+1,?_⟩;refine W8 t0 t1 t5 t6 t7 t8 t10 roll ?_;refine⟨by omega,by omega,by omega,?_⟩
         first|refine⟨by rw[e5],by congr 1,fun j hj=>?_⟩|refine⟨by congr 1,fun j hj=>?_⟩
         rcases Nat.lt_or_ge j (i+1-t.length)with c2|c2
         ·exact hno j (by omega)
         ·obtain rfl:j=i+1-t.length:=by omega
          rw[GZ (by omega)];exact e3
      ·have e6:i=s.length:=by omega
       subst e6;have q:cu t s = -1:=kD fun j hj=>hno j (by omega);rw[q]at hq;refine W7 t0 t1 t5 t6 t7 t8 t10 ?_;exact⟨_,Sub.refl,hq⟩
set_option maxHeartbeats 4000000 in
theorem LW(s t:List UInt8)(hs:s.length≤64)(h2:2≤t.length)(htl:t.length<1099511627776){m:Int}(hM:h 4=some (.cells [.int .i64 m] true))(hq:Q (.int .i64 (cu t s)) h):AC pg (.fn 102) [.str s,.str t] h Q:=by
 refine AC.fn' (g:=KJ) rfl (by simp only[List.length_cons,List.length_nil,KJ];decide) ?_;simp only[KJ,Mir.Ab.all]
 by_cases e:t=s
 ·subst e;have:cu t t=0:=oQ (i:=0) (by omega) (by unfold occ;simp) (fun j hj=>by omega);rw[this]at hq;refine W0 ?_;exact⟨_,Sub.refl,hq⟩
 ·by_cases c1:s.length≤t.length
  ·have:cu t s = -1:=kD fun i hi ho=>e (by
    obtain rfl:i=0:=by omega
    unfold occ at ho;rw[← ho,List.drop_zero,List.take_of_length_le (by omega)])
   rw[this]at hq;refine W1 (decide_eq_false e) ?_;exact⟨_,Sub.refl,hq⟩
  ·by_cases c2:(t.length:Int)≤m
   ·refine W3 (decide_eq_false e) hM (Jb (s:=s) (t:=t) (m:=m) (ro:=true) ⟨h2,c2,by omega⟩) ?_;exact⟨_,Sub.refl,hq⟩
   ·obtain⟨c0,ht0⟩:∃z,t[0]?=some z:=⟨t[0],List.getElem?_eq_getElem (by omega)⟩;obtain⟨c1,ht1⟩:∃z,t[1]?=some z:=⟨t[1],List.getElem?_eq_getElem (by omega)⟩;have hb0:=c0.toNat_lt;have hb1:=c1.toNat_lt;have e00:Int.toNat 0=0:=rfl;have e11:Int.toNat 1=1:=rfl;refine W6 (decide_eq_false e) hM ht0 ht1 e00 e11 ?_;refine E.loopX AC.mono (fun(x:Nat × Nat) a' h'=>x.1≤s.length-t.length+1∧x.2≤x.1∧h'=h∧a'.d=[]∧a'.t 0=.str s∧a'.t 1=.str t∧a'.t 5=.int .i64 t.length∧a'.t 6=.int .u8 (c0.toNat:Nat)∧a'.t 7=.int .u8 (c1.toNat:Nat)∧a'.t 8=.int .i64 x.1∧a'.t 9=.int .i64 (s.length-t.length+1:Nat)∧a'.t 10=.int .i64 x.2∧∀j,j<x.1→¬occ t s j) (fun x=>s.length-t.length+1-x.1) (0,0) ?_ ?_
    ·refine⟨Nat.zero_le _,Nat.le_refl _,rfl,?_⟩;refine W0 ?_;refine⟨by congr 1;omega,?_⟩
     first|exact fun j hj=>absurd hj (Nat.not_lt_zero j)|exact⟨rfl,fun j hj=>absurd hj (Nat.not_lt_zero j)⟩
    ·rintro⟨i,k⟩ ⟨tm,d⟩ h' ⟨hi,hk,rfl,hd,t0,t1,t5,t6,t7,t8,t9,t10,hno⟩;simp only at hi hk hd t0 t1 t5 t6 t7 t8 t9 t10 hno;subst hd;refine W8 t0 t1 t5 t6 t7 t8 t9 t10 ?_;refine wI (fun c=>?_) (fun c=>?_)
     ·obtain⟨x,hx⟩:∃x,s[i]?=some x:=⟨s[i],List.getElem?_eq_getElem (by omega)⟩;have hb:=x.toNat_lt;have ei:((i:Nat):Int).toNat=i:=by omega
      by_cases ex:x=c0
      ·subst ex;obtain⟨p,hpe⟩:∃p,p=i:=⟨i,rfl⟩;have hnp:∀j,j<p→¬occ t s j:=fun j hj=>hno j (by omega);subst hpe;refine W8 t0 t1 t5 t6 t7 t8 t9 (An2 t10 (An2 hx ei)) ?_;have hpl:p+t.length≤s.length:=by omega
       have ep:((p:Nat):Int).toNat=p:=by omega
       have ep1:(((p:Nat):Int)+1).toNat=p+1:=by omega
       have epn:(((p:Nat):Int)+((t.length:Nat):Int)).toNat=p+t.length:=by omega
       obtain⟨z,hz⟩:∃z,s[p+1]?=some z:=⟨s[p+1],List.getElem?_eq_getElem (by omega)⟩;have hbz:=z.toNat_lt
       by_cases eo:occ t s p
       ·have q:cu t s=(p:Nat):=oQ hpl eo hnp;have ez:z=c1:=by
         have:=vw eo 1 (by omega);rw[hz,ht1]at this;exact Option.some.inj this
        subst ez;have eo':(s.take (p+t.length)).drop p=t:=eo;rw[q]at hq;refine W8 t0 t1 t5 t6 t7 t8 t9 (An2 t10 (An2 hz (An2 ep (An2 ep1 (An2 epn eo'))))) ?_;exact⟨_,Sub.refl,hq⟩
       ·have eo':¬(s.take (p+t.length)).drop p=t:=eo;have hno':∀j,j<p+1→¬occ t s j:=fun j hj=>by
         rcases Nat.lt_or_ge j p with c|c
         ·exact hnp j c
         ·obtain rfl:j=p:=by omega
          exact eo
        have hrk:cu t (s.drop (p+1))=if cu t s = -1 then -1 else cu t s-((p:Nat)+1):=wL hno'
        have epd:(s.take s.length).drop (p+1)=s.drop (p+1):=by rw[List.take_length]
        have esh:wO .i64 (((p:Nat):Int)+1) 4=((p+1) / 16:Nat):=by
         show(((p:Nat):Int)+1).fdiv (2 ^ (min 4 64))=_
         rw[Int.fdiv_eq_ediv_of_nonneg _ (by decide),show((2:Int) ^ (min 4 64))=16 from by decide];omega
        have ezc:((z.toNat:Nat):Int)=(c1.toNat:Nat)∨¬((z.toNat:Nat):Int)=(c1.toNat:Nat):=Classical.em _
        by_cases ck:(4:Int)+((p+1) / 16:Nat)≤((k:Nat):Int)+1
        ·by_cases cl:p+1<s.length-t.length+1
         ·have res:AC pg (.fn 114) [.str (s.drop (p+1)),.str t] h' fun v h''=>v=.int .i64 (cu t (s.drop (p+1)))∧h''=h' :=
           QP _ _ (by rw[List.length_drop];omega) (by omega) (by rw[List.length_drop];omega) ⟨rfl,rfl⟩
          rcases ezc with ezc|ezc
          all_goals
           refine W8 t0 t1 t5 t6 t7 t8 t9 (An2 t10 (An2 hz (An2 ep (An2 ep1 (An2 epn (An2 eo' (An2 (decide_eq_false eo') (An2 ezc (An2 hM (An2 esh epd)))))))))) ?_;refine AC.mono _ _ _ _ _ (fun v h'' hv=>?_) res;obtain⟨rfl,rfl⟩:=hv;rw[hrk]
           by_cases en:cu t s = -1
           ·rw[if_pos en];rw[en]at hq;refine W0 ?_;exact⟨_,Sub.refl,hq⟩
           ·rw[if_neg en];have hge:((p:Nat):Int)+1≤cu t s∧cu t s≤s.length:=uB hno' en;refine W0 ?_;refine⟨_,Sub.refl,?_⟩;rw[show((p:Nat):Int)+1+(cu t s-(((p:Nat):Int)+1))=cu t s from by omega];exact hq
         ·rcases ezc with ezc|ezc
          all_goals
           refine W8 t0 t1 t5 t6 t7 t8 t9 (An2 t10 (An2 hz (An2 ep (An2 ep1 (An2 epn (An2 eo' (An2 (decide_eq_false eo') (An2 ezc (An2 hM esh))))))))) ?_;refine⟨(p+1,k+1),?_⟩;refine W8 t0 t1 t5 t6 t7 t8 t9 t10 ?_
           ((repeat' apply An2)<;>(first|omega|rfl|assumption|(congr 1<;>omega)|skip))
           try exact hno'
        ·rcases ezc with ezc|ezc
         all_goals
          refine W8 t0 t1 t5 t6 t7 t8 t9 (An2 t10 (An2 hz (An2 ep (An2 ep1 (An2 epn (An2 eo' (An2 (decide_eq_false eo') (An2 ezc (An2 hM esh))))))))) ?_;refine⟨(p+1,k+1),?_⟩;refine W8 t0 t1 t5 t6 t7 t8 t9 t10 ?_
          ((repeat' apply An2)<;>(first|omega|rfl|assumption|(congr 1<;>omega)|skip))
          try exact hno'
      ·have exn:¬((x.toNat:Nat):Int)=(c0.toNat:Nat):=fun h=>ex (UInt8.toNat_inj.1 (by omega));have ei1:(((i:Nat):Int)+1).toNat=i+1:=by omega
       have etn:((s.length-t.length+1:Nat):Int).toNat=s.length-t.length+1:=by omega
       have ecn:UInt8.ofNat (Int.toNat ((c0.toNat:Nat):Int))=c0:=by simp
       refine W8 t0 t1 t5 t6 t7 t8 t9 (An2 t10 (An2 hx (An2 ei (An2 ei1 etn)))) ?_;refine AC.fn' (g:=g95) rfl (by simp only[List.length_cons,List.length_nil,g95];decide) ?_;simp only[g95,Mir.Ab.all];refine W1 ecn ?_;refine⟨_,Sub.refl,?_⟩;rcases xW c0 ((s.take (s.length-t.length+1)).drop (i+1))with hnb|⟨l,r,hlr,hnl⟩
       ·have q:cu t s = -1:=kD fun j hj ho=>by
         rcases Nat.lt_or_ge j i with c3|c3
         ·exact hno j c3 ho
         ·have hj0:=vw ho 0 (by omega);rw[Nat.add_zero,ht0]at hj0;rcases Nat.eq_or_lt_of_le c3 with c4|c4
          ·subst c4;rw[hx]at hj0;exact ex (Option.some.inj hj0)
          ·refine hnb (List.mem_of_getElem? (i:=j-(i+1)) ?_);rw[List.getElem?_drop,show i+1+(j-(i+1))=j from by omega,List.getElem?_take_of_lt (by omega)];exact hj0
        rw[q]at hq;rw[tu hnb];refine W8 t0 t1 t5 t6 t7 t8 t9 t10 ?_;exact⟨_,Sub.refl,hq⟩
       ·rw[hlr,tC hnl];have hll:l.length+(r.length+1)=s.length-t.length+1-(i+1):=by
         have:=congrArg List.length hlr;rw[List.length_drop,List.length_take,List.length_append,List.length_cons]at this;omega
        obtain⟨p,hpe⟩:∃p,p=i+(l.length+1):=⟨_,rfl⟩;have hgl:∀j,j<l.length+(r.length+1)→s[i+1+j]?=(l++c0::r)[j]?:=fun j hj=>by
         rw[← hlr,List.getElem?_drop,List.getElem?_take_of_lt (by omega)]
        have hnp:∀j,j<p→¬occ t s j:=fun j hj ho=>by
         rcases Nat.lt_or_ge j i with c3|c3
         ·exact hno j c3 ho
         ·have hj0:=vw ho 0 (by omega);rw[Nat.add_zero,ht0]at hj0;rcases Nat.eq_or_lt_of_le c3 with c4|c4
          ·subst c4;rw[hx]at hj0;exact ex (Option.some.inj hj0)
          ·have:=hgl (j-(i+1)) (by omega);rw[show i+1+(j-(i+1))=j from by omega,hj0,List.getElem?_append_left (by omega)]at this;exact hnl (List.mem_of_getElem? this.symm)
        have hpi:((i:Nat):Int)+(((l.length:Nat):Int)+1)=((p:Nat):Int):=by omega
        have hpt:p<s.length-t.length+1:=by omega
        refine W8 t0 t1 t5 t6 t7 t8 t9 (An2 t10 hpi) ?_;have hpl:p+t.length≤s.length:=by omega
        have ep:((p:Nat):Int).toNat=p:=by omega
        have ep1:(((p:Nat):Int)+1).toNat=p+1:=by omega
        have epn:(((p:Nat):Int)+((t.length:Nat):Int)).toNat=p+t.length:=by omega
        obtain⟨z,hz⟩:∃z,s[p+1]?=some z:=⟨s[p+1],List.getElem?_eq_getElem (by omega)⟩;have hbz:=z.toNat_lt
        by_cases eo:occ t s p
        ·have q:cu t s=(p:Nat):=oQ hpl eo hnp;have ez:z=c1:=by
          have:=vw eo 1 (by omega);rw[hz,ht1]at this;exact Option.some.inj this
         subst ez;have eo':(s.take (p+t.length)).drop p=t:=eo;rw[q]at hq;refine W8 t0 t1 t5 t6 t7 t8 t9 (An2 t10 (An2 hpi (An2 hz (An2 ep (An2 ep1 (An2 epn eo')))))) ?_;exact⟨_,Sub.refl,hq⟩
        ·have eo':¬(s.take (p+t.length)).drop p=t:=eo;have hno':∀j,j<p+1→¬occ t s j:=fun j hj=>by
          rcases Nat.lt_or_ge j p with c|c
          ·exact hnp j c
          ·obtain rfl:j=p:=by omega
           exact eo
         have hrk:cu t (s.drop (p+1))=if cu t s = -1 then -1 else cu t s-((p:Nat)+1):=wL hno'
         have epd:(s.take s.length).drop (p+1)=s.drop (p+1):=by rw[List.take_length]
         have esh:wO .i64 (((p:Nat):Int)+1) 4=((p+1) / 16:Nat):=by
          show(((p:Nat):Int)+1).fdiv (2 ^ (min 4 64))=_
          rw[Int.fdiv_eq_ediv_of_nonneg _ (by decide),show((2:Int) ^ (min 4 64))=16 from by decide];omega
         have ezc:((z.toNat:Nat):Int)=(c1.toNat:Nat)∨¬((z.toNat:Nat):Int)=(c1.toNat:Nat):=Classical.em _
         by_cases ck:(4:Int)+((p+1) / 16:Nat)≤((k:Nat):Int)+1
         ·by_cases cl:p+1<s.length-t.length+1
          ·have res:AC pg (.fn 114) [.str (s.drop (p+1)),.str t] h' fun v h''=>v=.int .i64 (cu t (s.drop (p+1)))∧h''=h' :=
            QP _ _ (by rw[List.length_drop];omega) (by omega) (by rw[List.length_drop];omega) ⟨rfl,rfl⟩
           rcases ezc with ezc|ezc
           all_goals
            refine W8 t0 t1 t5 t6 t7 t8 t9 (An2 t10 (An2 hpi (An2 hz (An2 ep (An2 ep1 (An2 epn (An2 eo' (An2 (decide_eq_false eo') (An2 ezc (An2 hM (An2 esh epd))))))))))) ?_;refine AC.mono _ _ _ _ _ (fun v h'' hv=>?_) res;obtain⟨rfl,rfl⟩:=hv;rw[hrk]
            by_cases en:cu t s = -1
            ·rw[if_pos en];rw[en]at hq;refine W0 ?_;exact⟨_,Sub.refl,hq⟩
            ·rw[if_neg en];have hge:((p:Nat):Int)+1≤cu t s∧cu t s≤s.length:=uB hno' en;refine W0 ?_;refine⟨_,Sub.refl,?_⟩;rw[show((p:Nat):Int)+1+(cu t s-(((p:Nat):Int)+1))=cu t s from by omega];exact hq
          ·rcases ezc with ezc|ezc
           all_goals
            refine W8 t0 t1 t5 t6 t7 t8 t9 (An2 t10 (An2 hpi (An2 hz (An2 ep (An2 ep1 (An2 epn (An2 eo' (An2 (decide_eq_false eo') (An2 ezc (An2 hM esh)))))))))) ?_;refine⟨(p+1,k+1),?_⟩;refine W8 t0 t1 t5 t6 t7 t8 t9 (An2 t10 hpi) ?_
            ((repeat' apply An2)<;>(first|omega|rfl|assumption|(congr 1<;>omega)|skip))
            try exact hno'
         ·rcases ezc with ezc|ezc
          all_goals
           refine W8 t0 t1 t5 t6 t7 t8 t9 (An2 t10 (An2 hpi (An2 hz (An2 ep (An2 ep1 (An2 epn (An2 eo' (An2 (decide_eq_false eo') (An2 ezc (An2 hM esh)))))))))) ?_;refine⟨(p+1,k+1),?_⟩;refine W8 t0 t1 t5 t6 t7 t8 t9 (An2 t10 hpi) ?_
           ((repeat' apply An2)<;>(first|omega|rfl|assumption|(congr 1<;>omega)|skip))
           try exact hno'
     ·have q:cu t s = -1:=kD fun j hj=>hno j (by omega);rw[q]at hq;refine W8 t0 t1 t5 t6 t7 t8 t9 t10 ?_;exact⟨_,Sub.refl,hq⟩
theorem iU(s t:List UInt8)(hs:s.length≤64)(h2:2≤t.length)(htl:t.length<1099511627776){m:Int}(hM:h 4=some (.cells [.int .i64 m] true))(hq:Q (.bool (decide (0≤cu t s))) h):AC pg (.fn 81) [.str s,.str t] h Q:=by
 refine AC.fn' (g:=g81) rfl (by simp only[List.length_cons,List.length_nil,g81];decide) ?_;simp only[g81,Mir.Ab.all];refine W0 ?_;refine AC.fn' (g:=g94) rfl (by simp only[List.length_cons,List.length_nil,g94];decide) ?_;simp only[g94,Mir.Ab.all];refine W0 ?_;refine LW s t hs h2 htl hM ?_;refine W0 ?_;refine⟨_,Sub.refl,?_⟩;refine W0 ?_;exact⟨_,Sub.refl,hq⟩
end
section
open Mir
variable{h:H}{Q:V→H→Prop}{h0:H}{l:Nat}{s:Txt}{i:Nat}{T:List Tokn}{v:V}
theorem Iw{b:Nat}{ss:List Txt}{ro:Bool}(hb:h b=some (.cells (ss.map .str) ro))(hn:ss.length<1099511627776)(w:Txt)(hy:w∈ss→∀i:Nat,Q (.int .i64 i) h)(hz:w∉ss→Q (.int .i64 (-1)) h):
  AC pg (.fn 68) [.sl b 0 1 ss.length,.str w] h Q:=by
 refine AC.fn' (g:=g68) rfl (by simp only[List.length_cons,List.length_nil,g68];decide) ?_;simp only[g68,Mir.Ab.all];refine W0 ?_;refine E.loopX AC.mono (fun(i:Nat) a' h'=>i≤ss.length∧h'=h∧a'.d=[]∧a'.t 0=.sl b 0 1 ss.length∧a'.t 1=.str w∧a'.t 7=.int .i64 ss.length∧a'.t 8=.int .i64 i∧w∉ss.take i) (fun i=>ss.length-i) 0 ?_ ?_
 ·exact⟨by omega,rfl,rfl,rfl,rfl,rfl,rfl,by simp⟩
 ·intro i a h' ⟨hi,e,hd,t0,t1,t7,t8,hw⟩;subst e
  by_cases c:i<ss.length
  ·have e:(ss.map V.str)[i]?=some (.str ss[i]):=by simp[List.getElem?_map,List.getElem?_eq_getElem c]
   by_cases e2:w=ss[i]
   ·refine W8 t0 t1 t7 t8 hd hb e e2 ?_;exact⟨_,Sub.refl,hy (by rw[e2];exact List.getElem_mem c) i⟩
   ·refine W8 t0 t1 t7 t8 hd hb e e2 ?_;refine⟨i+1,by omega,by omega,by congr 1,?_⟩;rw[List.take_succ_eq_append_getElem c,List.mem_append,List.mem_singleton];exact fun x=>x.elim hw e2
  ·refine W5 t0 t1 t7 t8 hd ?_;rw[List.take_of_length_le (by omega)]at hw;exact⟨_,Sub.refl,hz hw⟩
theorem bU{b:Nat}{ss:List Txt}{ro:Bool}(hb:h b=some (.cells (ss.map .str) ro))(hn:ss.length<1099511627776)(w:Txt)(hq:Q (.bool (decide (w∈ss))) h):
  AC pg (.fn 39) [.sl b 0 1 ss.length,.str w] h Q:=by
 refine AC.fn' (g:=g39) rfl (by simp only[List.length_cons,List.length_nil,g39];decide) ?_;simp only[g39,Mir.Ab.all];refine W0 ?_;refine Iw hb hn w (fun hw i=>?_) fun hw=>?_
 ·refine W0 ?_;rw[decide_eq_true hw]at hq;exact⟨_,Sub.refl,hq⟩
 ·refine W0 ?_;rw[decide_eq_false hw]at hq;exact⟨_,Sub.refl,hq⟩
def uC(l:List Int):List V:=l.map fun n=>.int .i64 n
theorem Iu{b:Nat}{ss:List Int}{ro:Bool}(hb:h b=some (.cells (uC ss) ro))(hn:ss.length<1099511627776)(w:Int)(hy:w∈ss→∀i:Nat,Q (.int .i64 i) h)(hz:w∉ss→Q (.int .i64 (-1)) h):
  AC pg (.fn 89) [.sl b 0 1 ss.length,.int .i64 w] h Q:=by
 refine AC.fn' (g:=g89) rfl (by simp only[List.length_cons,List.length_nil,g89];decide) ?_;simp only[g89,Mir.Ab.all];have hl:(uC ss).length=ss.length:=by simp[uC]
 refine W0 ?_;refine E.loopX AC.mono (fun(i:Nat) a' h'=>i≤ss.length∧h'=h∧a'.d=[]∧a'.t 0=.sl b 0 1 ss.length∧a'.t 1=.int .i64 w∧a'.t 7=.int .i64 ss.length∧a'.t 8=.int .i64 i∧w∉ss.take i) (fun i=>ss.length-i) 0 ?_ ?_
 ·exact⟨by omega,rfl,rfl,rfl,rfl,rfl,rfl,by simp⟩
 ·intro i a h' ⟨hi,e,hd,t0,t1,t7,t8,hw⟩;subst e
  by_cases c:i<ss.length
  ·have e:(uC ss)[i]?=some (.int .i64 ss[i]):=by simp[uC,List.getElem?_map,List.getElem?_eq_getElem c]
   by_cases e2:w=ss[i]
   ·refine W8 t0 t1 t7 t8 hd hb e (An2 e2 hl) ?_;exact⟨_,Sub.refl,hy (by rw[e2];exact List.getElem_mem c) i⟩
   ·refine W8 t0 t1 t7 t8 hd hb e (An2 e2 hl) ?_;refine⟨i+1,by omega,by omega,by congr 1,?_⟩;rw[List.take_succ_eq_append_getElem c,List.mem_append,List.mem_singleton];exact fun x=>x.elim hw e2
  ·refine W5 t0 t1 t7 t8 hd ?_;rw[List.take_of_length_le (by omega)]at hw;exact⟨_,Sub.refl,hz hw⟩
theorem qW{b:Nat}{ss:List Int}{ro:Bool}(hb:h b=some (.cells (uC ss) ro))(hn:ss.length<1099511627776)(w:Int)(hq:Q (.bool (decide (w∈ss))) h):
  AC pg (.fn 70) [.sl b 0 1 ss.length,.int .i64 w] h Q:=by
 refine AC.fn' (g:=g70) rfl (by simp only[List.length_cons,List.length_nil,g70];decide) ?_;simp only[g70,Mir.Ab.all];refine W0 ?_;refine Iu hb hn w (fun hw i=>?_) fun hw=>?_
 ·refine W0 ?_;rw[decide_eq_true hw]at hq;exact⟨_,Sub.refl,hq⟩
 ·refine W0 ?_;rw[decide_eq_false hw]at hq;exact⟨_,Sub.refl,hq⟩
theorem rP(s:Txt)(c:UInt8)(hq:Q (.int .i64 (mG c s)) h):AC pg (.fn 82) [.str s,.int .u8 c.toNat] h Q:=by
 refine AC.fn' (g:=g82) rfl (by simp only[List.length_cons,List.length_nil,g82];decide) ?_;simp only[g82,Mir.Ab.all];refine W0 ?_;refine AC.fn' (g:=g95) rfl (by simp only[List.length_cons,List.length_nil,g95];decide) ?_;simp only[g95,Mir.Ab.all];refine W0 ?_;refine⟨_,Sub.refl,?_⟩;refine W0 ?_;exact⟨_,Sub.refl,by simpa using hq⟩
theorem TokSl.two(hT:TokSl h0 l h v T):(T=[]∧(v=.nilsl∨∃b,v=.sl b 0 3 0))∨∃b T' t,T=T'++[t]∧v=.sl b 0 3 (T'.length+1)∧h b=some (.cells (flat T'++bC t) false):=by
 rcases hT with⟨rfl,rfl⟩|⟨b,h1,h2,rfl,h4⟩
 ·exact .inl ⟨rfl,.inl rfl⟩
 ·rcases List.eq_nil_or_concat T with rfl|⟨T',t,rfl⟩
  ·exact .inl ⟨rfl,.inr ⟨b,rfl⟩⟩
  ·refine .inr ⟨b,T',t,by simp,by simp,?_⟩;rw[← yS,h4];simp
theorem MB(T':List Tokn)(t:Tokn):List.take 3 (List.drop ((((T'.length+1:Nat):Int)-1).toNat*3) (flat T'++[V.int .i64 t.k,V.str t.t,V.int .i64 t.a]))=[V.int .i64 t.k,V.str t.t,V.int .i64 t.a]:=by
 rw[show(((T'.length+1:Nat):Int)-1).toNat*3=(flat T').length from by rw[jE];omega,List.drop_left];rfl
theorem NV(L:LexAt h0 h l s i T)(hTl:T.length<1000000)(hq:∀h',LexAt h0 h' l s i T→Q (.bool (oC T)) h'):AC pg (.fn 65) [.ptr l 0] h Q:=by
 have L0:=L;obtain⟨⟨v,hl,hT⟩,hb,hs,sm⟩:=L;refine AC.fn' (g:=g65) rfl (by simp only[List.length_cons,List.length_nil,g65];decide) ?_;simp only[g65,Mir.Ab.all];rcases hT.two with⟨rfl,rfl|⟨b,rfl⟩⟩|⟨b,T',t,rfl,rfl,h4⟩
 ·refine W1 hl ?_;exact⟨_,Sub.refl,hq _ L0⟩
 ·refine W1 hl ?_;exact⟨_,Sub.refl,hq _ L0⟩
 ·have fl:=jE T';have hTl':T'.length<1000000:=by simp at hTl;omega
  have e:=MB T' t
  ((try simp -implicitDefEqProofs only [later,bW,bG,bM]);(repeat (first|simp -implicitDefEqProofs only [go_sem,↓reduceIte,Nat.reduceEqDiff,Nat.reduceAdd,Nat.reduceLeDiff,Nat.reduceLT,Nat.reduceMul,reduceCtorEq,Int.reduceEq,Int.reduceLT,Int.reduceLE,Int.reduceNeg,Int.reduceToNat,Int.reduceMul,Int.reduceAdd,Int.reduceSub,hl,h4,fl,bC]|simp (disch:=(first|omega|(simp only[go_sem];done)|(simp only[lens];omega))) only [cds,hl,h4,fl,bC])))
  intro b2 hb2;have s0:∀o,Sub h (hadd h b2 o):=fun o=>Sub.refl.put hb2;refine W1 e ?_;have hM:oC (T'++[t])=(if t.k=2∨t.k=3∨t.k=4∨t.k=5 then false else if t.k=9 then decide (t.t≠[108,101,110,103,116,104])else if t.k=8 then decide (t.t∉[[41],[93],[43,43],[45,45]])else true):=by
   simp[oC]
  by_cases k2:t.k=2
  ·refine W0 ?_;rw[hM,if_pos (.inl k2)]at hq;exact⟨h,s0 _,hq _ L0⟩
  by_cases k3:t.k=3
  ·refine W0 ?_;rw[hM,if_pos (.inr (.inl k3))]at hq;exact⟨h,s0 _,hq _ L0⟩
  by_cases k4:t.k=4
  ·refine W0 ?_;rw[hM,if_pos (.inr (.inr (.inl k4)))]at hq;exact⟨h,s0 _,hq _ L0⟩
  by_cases k5:t.k=5
  ·refine W0 ?_;rw[hM,if_pos (.inr (.inr (.inr k5)))]at hq;exact⟨h,s0 _,hq _ L0⟩
  rw[if_neg (by omega)]at hM
  by_cases k9:t.k=9
  ·rw[hM,if_pos k9]at hq
   by_cases ht:t.t=[108,101,110,103,116,104]
   ·refine W1 ht ?_;rw[decide_eq_false (by simp[ht])]at hq;exact⟨h,s0 _,hq _ L0⟩
   ·refine W1 ht ?_;rw[decide_eq_true ht]at hq;exact⟨h,s0 _,hq _ L0⟩
  rw[if_neg k9]at hM
  by_cases k8:t.k=8
  ·rw[hM,if_pos k8]at hq;refine W0 ?_;intro b3 hb3;have s1:∀o,Sub (hadd h b2 _) (hadd (hadd h b2 _) b3 o):=fun o=>Sub.refl.put hb3;have h32:b3≠b2:=fun x=>by rw[x]at hb3;simp[hadd,hset]at hb3
   refine W2 h32 (Ne.symm h32) ?_;refine bU (ss:=[[41],[93],[43,43],[45,45]]) (ro:=false) (by simp[hadd,hset]) (by decide) t.t ?_;refine W0 ?_;refine⟨h,fun c o hc=>s1 _ _ _ (s0 _ _ _ hc),?_⟩;have:=hq _ L0;simpa using this
  ·rw[hM,if_neg k8]at hq;refine W0 ?_;exact⟨h,s0 _,hq _ L0⟩
end
section
open Mir
variable{h:H}{Q:V→H→Prop}{h0:H}{l:Nat}{s:Txt}{i:Nat}{T:List Tokn}{v:V}
theorem LexAt.ext{h':H}(L:LexAt h0 h l s i T)(e:∀c o,h c=some o→h' c=some o):LexAt h0 h' l s i T:=by
 obtain⟨⟨v,hl,hT⟩,hb,hs,sm⟩:=L;refine⟨⟨v,e _ _ hl,?_⟩,hb,fun c o hc=>e _ _ (hs _ _ hc),sm⟩;rcases hT with hT|⟨b,h1,h2,h3,h4⟩
 ·exact .inl hT
 ·exact .inr ⟨b,h1,h2,h3,e _ _ h4⟩
theorem zn(L:LexAt h0 h l s i T)(hT:T.length<1000000)(hi:i≤s.length)(hq:∀h',LexAt h0 h' l s (iK s i) (T++[⟨2,kw s i (iK s i),i⟩])→Q (.tup []) h'):AC pg (.fn 60) [.ptr l 0] h Q:=by
 obtain⟨v,hl,_⟩:=L.move 0;have sm:=L.small;refine AC.fn' (g:=g60) rfl (by simp only[List.length_cons,List.length_nil,g60];decide) ?_;simp only[g60,Mir.Ab.all];refine W1 hl ?_;refine sN L aU (fun c h Q=>dP c) hi fun h1 L1=>?_;refine W0 ?_;refine jR L1 0 (by have:=iP aU hi;omega) ?_;have p0:=iP aU hi;have p1:=jv aU s i
 by_cases c:pk s (past aU s i)=46
 ·have hlt:past aU s i<s.length:=by
   by_cases x:past aU s i<s.length
   ·exact x
   ·rw[NC (by omega)]at c;cases c
  obtain⟨v1,hl1,m1⟩:=L1.move (past aU s i+1);have c':(pk s (past aU s i)).toNat=46:=by rw[c];rfl
  have en:iK s i=past aU s (past aU s i+1):=by rw[iK,if_pos c]
  refine W2 hl1 c' ?_;refine sN m1 aU (fun c h Q=>dP c) (by omega) fun h2 L2=>?_;obtain⟨v2,hl2,_⟩:=L2.move 0;have p2:=iP aU (s:=s) (i:=past aU s i+1) (by omega);have p3:=jv aU s (past aU s i+1);refine W1 hl2 ?_;rw[en]at hq;refine iL L2 hT 2 _ i fun h3 L3=>?_;refine W0 ?_;exact⟨_,Sub.refl,hq _ L3⟩
 ·have c':(pk s (past aU s i)).toNat≠46:=fun e=>c (UInt8.toNat_inj.1 e);have en:iK s i=past aU s i:=by rw[iK,if_neg c]
  obtain⟨v1,hl1,_⟩:=L1.move 0;rw[en]at hq;refine W2 hl1 c' ?_;refine iL L1 hT 2 _ i fun h3 L3=>?_;refine W0 ?_;exact⟨_,Sub.refl,hq _ L3⟩
structure Words(h:H):Prop where
 w:h 1=some (.cells [.sl 601 0 1 16] true)∧h 601=some (.cells (wordsT.map .str) true)
 b:h 2=some (.cells [.sl 602 0 1 13] true)∧h 602=some (.cells (builtinsT.map .str) true)
 n:h 3=some (.cells [.sl 603 0 1 6] true)∧h 603=some (.cells (bannedT.map .str) true)
theorem Words.sub{h':H}(W:Words h)(s:∀b o,h b=some o→h' b=some o):Words h' :=
 ⟨⟨s _ _ W.w.1,s _ _ W.w.2⟩,⟨s _ _ W.b.1,s _ _ W.b.2⟩,s _ _ W.n.1,s _ _ W.n.2⟩
def wk(w:Txt)(c:UInt8):Nat:=Oo wordsT builtinsT bannedT w c
theorem Qx(W:Words h0)(L:LexAt h0 h l s i T)(hT:T.length<1000000)(hi:i≤s.length)
  (hq:∀h',LexAt h0 h' l s (past aV s i) (T++[⟨wk (kw s i (past aV s i)) (pk s (past aV s i)),kw s i (past aV s i),i⟩])→Q (.tup []) h'):AC pg (.fn 62) [.ptr l 0] h Q:=by
 obtain⟨v,hl,_⟩:=L.move 0;have sm:=L.small;refine AC.fn' (g:=g62) rfl (by simp only[List.length_cons,List.length_nil,g62];decide) ?_;simp only[g62,Mir.Ab.all];refine W1 hl ?_;refine sN L aV (fun c h Q=>Om c) hi fun h1 L1=>?_;obtain⟨v1,hl1,_⟩:=L1.move 0;have p0:=iP aV hi;have p1:=jv aV s i;have W1:=W.sub L1.sub;have hpk:(pk s (past aV s i)).toNat=40↔pk s (past aV s i)=40:=⟨fun e=>UInt8.toNat_inj.1 e,fun e=>by rw[e];rfl⟩;generalize hw:kw s i (past aV s i)=w at hq;have hw':List.drop i (List.take (past aV s i) s)=w:=hw;refine W3 hl1 W1.w.1 hw' ?_;refine bU (ss:=wordsT) W1.w.2 (by decide) _ ?_;unfold wk Oo at hq
 by_cases c0:w∈wordsT
 ·rw[if_pos c0]at hq
  ((try simp -implicitDefEqProofs only [later,bW,bG,bM]);(repeat (first|simp -implicitDefEqProofs only [go_sem,↓reduceIte,Nat.reduceEqDiff,Nat.reduceAdd,Nat.reduceLeDiff,Nat.reduceLT,Nat.reduceMul,reduceCtorEq,Int.reduceEq,Int.reduceLT,Int.reduceLE,Int.reduceNeg,Int.reduceToNat,Int.reduceMul,Int.reduceAdd,Int.reduceSub,decide_eq_true c0]|simp (disch:=(first|omega|(simp only[go_sem];done)|(simp only[lens];omega))) only [cds,decide_eq_true c0])))
  refine iL L1 hT 7 _ i fun h3 L3=>?_;refine W0 ?_;exact⟨_,Sub.refl,hq _ L3⟩
 rw[if_neg c0]at hq;refine W2 (decide_eq_false c0) W1.b.1 ?_;refine bU (ss:=builtinsT) W1.b.2 (by decide) _ ?_
 by_cases c1:w∈builtinsT
 ·rw[if_pos c1]at hq
  ((try simp -implicitDefEqProofs only [later,bW,bG,bM]);(repeat (first|simp -implicitDefEqProofs only [go_sem,↓reduceIte,Nat.reduceEqDiff,Nat.reduceAdd,Nat.reduceLeDiff,Nat.reduceLT,Nat.reduceMul,reduceCtorEq,Int.reduceEq,Int.reduceLT,Int.reduceLE,Int.reduceNeg,Int.reduceToNat,Int.reduceMul,Int.reduceAdd,Int.reduceSub,decide_eq_true c1]|simp (disch:=(first|omega|(simp only[go_sem];done)|(simp only[lens];omega))) only [cds,decide_eq_true c1])))
  refine iL L1 hT 9 _ i fun h3 L3=>?_;refine W0 ?_;exact⟨_,Sub.refl,hq _ L3⟩
 rw[if_neg c1]at hq;refine W2 (decide_eq_false c1) W1.n.1 ?_;refine bU (ss:=bannedT) W1.n.2 (by decide) _ ?_
 by_cases c2:w∈bannedT
 ·rw[if_pos c2]at hq
  ((try simp -implicitDefEqProofs only [later,bW,bG,bM]);(repeat (first|simp -implicitDefEqProofs only [go_sem,↓reduceIte,Nat.reduceEqDiff,Nat.reduceAdd,Nat.reduceLeDiff,Nat.reduceLT,Nat.reduceMul,reduceCtorEq,Int.reduceEq,Int.reduceLT,Int.reduceLE,Int.reduceNeg,Int.reduceToNat,Int.reduceMul,Int.reduceAdd,Int.reduceSub,decide_eq_true c2]|simp (disch:=(first|omega|(simp only[go_sem];done)|(simp only[lens];omega))) only [cds,decide_eq_true c2])))
  refine iL L1 hT 10 _ i fun h3 L3=>?_;refine W0 ?_;exact⟨_,Sub.refl,hq _ L3⟩
 rw[if_neg c2]at hq
 ((try simp -implicitDefEqProofs only [later,bW,bG,bM]);(repeat (first|simp -implicitDefEqProofs only [go_sem,↓reduceIte,Nat.reduceEqDiff,Nat.reduceAdd,Nat.reduceLeDiff,Nat.reduceLT,Nat.reduceMul,reduceCtorEq,Int.reduceEq,Int.reduceLT,Int.reduceLE,Int.reduceNeg,Int.reduceToNat,Int.reduceMul,Int.reduceAdd,Int.reduceSub,decide_eq_false c2]|simp (disch:=(first|omega|(simp only[go_sem];done)|(simp only[lens];omega))) only [cds,decide_eq_false c2])))
 refine jR L1 0 (by omega) ?_
 by_cases c3:pk s (past aV s i)=40
 ·rw[if_pos c3]at hq;have c3':=hpk.2 c3
  ((try simp -implicitDefEqProofs only [later,bW,bG,bM]);(repeat (first|simp -implicitDefEqProofs only [go_sem,↓reduceIte,Nat.reduceEqDiff,Nat.reduceAdd,Nat.reduceLeDiff,Nat.reduceLT,Nat.reduceMul,reduceCtorEq,Int.reduceEq,Int.reduceLT,Int.reduceLE,Int.reduceNeg,Int.reduceToNat,Int.reduceMul,Int.reduceAdd,Int.reduceSub,c3']|simp (disch:=(first|omega|(simp only[go_sem];done)|(simp only[lens];omega))) only [cds,c3'])))
  refine iL L1 hT 6 _ i fun h3 L3=>?_;refine W0 ?_;exact⟨_,Sub.refl,hq _ L3⟩
 ·rw[if_neg c3]at hq;have c3':¬(pk s (past aV s i)).toNat=40:=fun e=>c3 (hpk.1 e)
  ((try simp -implicitDefEqProofs only [later,bW,bG,bM]);(repeat (first|simp -implicitDefEqProofs only [go_sem,↓reduceIte,Nat.reduceEqDiff,Nat.reduceAdd,Nat.reduceLeDiff,Nat.reduceLT,Nat.reduceMul,reduceCtorEq,Int.reduceEq,Int.reduceLT,Int.reduceLE,Int.reduceNeg,Int.reduceToNat,Int.reduceMul,Int.reduceAdd,Int.reduceSub,c3']|simp (disch:=(first|omega|(simp only[go_sem];done)|(simp only[lens];omega))) only [cds,c3'])))
  refine iL L1 hT 5 _ i fun h3 L3=>?_;refine W0 ?_;exact⟨_,Sub.refl,hq _ L3⟩
end
section
open Mir
variable{h:H}{Q:V→H→Prop}{h0:H}{l:Nat}{s:Txt}{i:Nat}{T:List Tokn}{v:V}
theorem bJ{c d:UInt8}:c=d↔c.toNat=d.toNat:=UInt8.toNat_inj.symm
theorem DC(c:UInt8)(hy:∀t,jg c=some t→Q (.tup [.str t,.bool true]) h)(hn:jg c=none→Q (.tup [.str [],.bool false]) h):AC pg (.fn 64) [.int .u8 c.toNat] h Q:=by
 have b1:bytesOf [V.int .u8 c.toNat]=some [c]:=jA [c];refine AC.fn' (g:=g64) rfl (by simp only[List.length_cons,List.length_nil,g64];decide) ?_;simp only[g64,Mir.Ab.all]
 by_cases c0:c=110
 ·have d:c.toNat=110:=by rw[c0];rfl
  refine W0 ?_;exact⟨h,Sub.refl,hy _ (by rw[jg,if_pos c0])⟩
 by_cases c1:c=116
 ·have d:c.toNat=116:=by rw[c1];rfl
  refine W0 ?_;exact⟨h,Sub.refl,hy _ (by rw[jg,if_neg c0,if_pos c1])⟩
 have d0:¬c.toNat=110:=fun e=>c0 (bJ.2 e);have d1:¬c.toNat=116:=fun e=>c1 (bJ.2 e)
 by_cases c2:c=34∨c=92∨c=47
 ·have e:jg c=some [c]:=by rw[jg,if_neg c0,if_neg c1,if_pos c2]
  have d2:c.toNat=34∨c.toNat=92∨c.toNat=47:=c2.imp (fun e=>by rw[e];rfl) (Or.imp (fun e=>by rw[e];rfl) fun e=>by rw[e];rfl);rcases d2 with d2|d2|d2
  all_goals refine W0 ?_
  all_goals intro b hb
  all_goals refine W1 b1 ?_
  all_goals exact⟨h,Sub.refl.put hb,hy _ e⟩
 ·have e:jg c=none:=by rw[jg,if_neg c0,if_neg c1,if_neg c2]
  have d2:¬c.toNat=34:=fun e=>c2 (.inl (bJ.2 e));have d3:¬c.toNat=92:=fun e=>c2 (.inr (.inl (bJ.2 e)));have d4:¬c.toNat=47:=fun e=>c2 (.inr (.inr (bJ.2 e)));refine W0 ?_;exact⟨h,Sub.refl,hn e⟩
theorem Fh(c:UInt8)(hy:∀t,tH c=some t→Q (.tup [.str t,.bool true]) h)(hn:tH c=none→∀t,Q (.tup [.str t,.bool false]) h):AC pg (.fn 66) [.int .u8 c.toNat] h Q:=by
 have b2:bytesOf [V.int .u8 92,V.int .u8 c.toNat]=some [92,c]:=jA [92,c];refine AC.fn' (g:=g66) rfl (by simp only[List.length_cons,List.length_nil,g66];decide) ?_;simp only[g66,Mir.Ab.all]
 by_cases c0:c=47
 ·have d:c.toNat=47:=by rw[c0];rfl
  refine W0 ?_;exact⟨h,Sub.refl,hy _ (by rw[tH,if_pos c0])⟩
 have d0:¬c.toNat=47:=fun e=>c0 (bJ.2 e)
 by_cases c1:c=10
 ·have d:c.toNat=10:=by rw[c1];rfl
  refine W0 ?_;intro b hb;refine W1 b2 ?_;exact⟨h,Sub.refl.put hb,hn (by rw[tH,if_neg c0,if_pos c1]) _⟩
 ·have d1:¬c.toNat=10:=fun e=>c1 (bJ.2 e);refine W0 ?_;intro b hb;refine W1 b2 ?_;exact⟨h,Sub.refl.put hb,hy _ (by rw[tH,if_neg c0,if_neg c1])⟩
end
section
open Mir
variable{h:H}{Q:V→H→Prop}{g:H}{b:Nat}{t:Txt}{v:V}
def BldSl(g h:H)(b:Nat)(t:Txt)(v:V):Prop:=(t=[]∧v=.nilsl)∨∃c,t≠[]∧c≠b∧g c=none∧isB c∧v=.sl c 0 1 t.length∧h c=some (.cells (bytesIn t) false)
structure BldAt(g h:H)(b:Nat)(t:Txt):Prop where
 obj:∃p v,h b=some (.cells [p,v] false)∧(p=.nilptr∨p=.ptr b 0)∧BldSl g h b t v
 w:isW b
 base:g b=none
 sub:Sub g h
theorem qY(B:BldAt g h b t)(hq:∀h',BldAt g h' b t→Q (.tup []) h'):AC pg (.fn 92) [.ptr b 0] h Q:=by
 have B0:=B;obtain⟨⟨p,v,hb,hp,hv⟩,hw,hg,hs⟩:=B;refine AC.fn' (g:=g92) rfl (by simp only[List.length_cons,List.length_nil,g92];decide) ?_;simp only[g92,Mir.Ab.all];rcases hp with rfl|rfl
 ·((try simp -implicitDefEqProofs only [later,bW,bG,bM]);(repeat (first|simp -implicitDefEqProofs only [go_sem,↓reduceIte,Nat.reduceEqDiff,Nat.reduceAdd,Nat.reduceLeDiff,Nat.reduceLT,Nat.reduceMul,reduceCtorEq,Int.reduceEq,Int.reduceLT,Int.reduceLE,Int.reduceNeg,Int.reduceToNat,Int.reduceMul,Int.reduceAdd,Int.reduceSub,hb,Eu hw]|simp (disch:=(first|omega|(simp only[go_sem];done)|(simp only[lens];omega))) only [cds,hb,Eu hw])))
  refine⟨_,Sub.refl,hq _ ⟨⟨.ptr b 0,v,by simp[hadd,hset],.inr rfl,?_⟩,hw,hg,fun c o hc=>?_⟩⟩
  ·rcases hv with hv|⟨c,c0,c1,c2,c3,c4,c5⟩
   ·exact .inl hv
   ·exact .inr ⟨c,c0,c1,c2,c3,c4,by rw[ae c1];exact c5⟩
  ·rw[ae (af hg hc)];exact hs _ _ hc
 ·refine W1 hb ?_;exact⟨_,Sub.refl,hq _ B0⟩
theorem oH{g h:H}(s:Sub g h){c:Nat}(e:h c=none):g c=none:=by
 cases e1:g c with
 |none=>rfl
 |some o=>rw[s _ _ e1]at e;cases e
theorem mP(s t:Txt):bytesIn s++bytesIn t=bytesIn (s++t):=by simp[bytesIn]
theorem BR(B:BldAt g h b t)(ht:t.length<1000000)(c:UInt8)(hq:∀h',BldAt g h' b (t++[c])→Q .nilif h'):AC pg (.fn 77) [.ptr b 0,.int .u8 c.toNat] h Q:=by
 refine AC.fn' (g:=g77) rfl (by simp only[List.length_cons,List.length_nil,g77];decide) ?_;simp only[g77,Mir.Ab.all];refine W0 ?_;refine qY B fun h1 B1=>?_;obtain⟨⟨p,v,hb,hp,hv⟩,hw,hg,hs⟩:=B1;refine W1 hb ?_;intro b1 hb1;have n1:b1≠b:=fun e=>by rw[e,hb]at hb1;cases hb1
 have g1:=oH hs hb1;rcases hv with⟨rfl,rfl⟩|⟨d,d0,d1,d2,d3,rfl,d5⟩
 ·refine W2 hb n1 ?_;intro b2 hb2 B2;have n2:b2≠b:=fun e=>by rw[e,ae (Ne.symm n1),hb]at hb2;cases hb2
  have n3:b2≠b1:=fun e=>by rw[e]at hb2;simp[hadd,hset]at hb2
  rw[ae n3]at hb2;have g2:=oH hs hb2;refine W5 hb n1 n2 (Ne.symm n1) (Ne.symm n2) ?_;refine⟨_,Sub.refl,hq _ ⟨⟨p,.sl b2 0 1 1,by simp[hadd,hset],hp,.inr ⟨b2,by simp,n2,g2,B2,rfl,by simp[hadd,hset,n2,bytesIn]⟩⟩,hw,hg,fun x o hx=>?_⟩⟩;have c1:=af hg hx;have c2:=af g1 hx;have c3:=af g2 hx;simp only[hadd,hset,if_neg c1,if_neg c2,if_neg c3];exact hs _ _ hx
 ·have bl:=iR t;have n2:d≠b1:=fun e=>by rw[e,hb1]at d5;cases d5
  refine W5 hb n1 n2 d5 bl ?_;intro b2 n4 hb2 B2;have n5:b2≠b:=fun e=>by rw[e,ae (Ne.symm n1),hb]at hb2;cases hb2
  have n3:b2≠b1:=fun e=>by rw[e]at hb2;simp[hadd,hset]at hb2
  rw[ae n3]at hb2;have g2:=oH hs hb2;refine W7 hb n1 n5 d1 (Ne.symm d1) (Ne.symm n1) (Ne.symm n5) ?_;refine⟨_,Sub.refl,hq _ ⟨⟨p,.sl b2 0 1 (t.length+1),by simp[hadd,hset],hp,.inr ⟨b2,by simp,n5,g2,B2 d3,by simp,?_⟩⟩,hw,hg,fun x o hx=>?_⟩⟩
  ·simp only[hadd,hset,if_neg n5,if_pos rfl];rw[List.take_of_length_le (by omega),← mP];simp[bytesIn]
  ·have c1:=af hg hx;have c2:=af g1 hx;have c3:=af g2 hx;have c4:=af d2 hx;simp only[hadd,hset,if_neg c1,if_neg c2,if_neg c3,if_neg c4];exact hs _ _ hx
theorem GG{h:H}{b:Nat}{o:AObj}(e:h b=some o):hadd h b o=h:=by
 funext x
 by_cases c:x=b
 ·subst c;simp[hadd,hset,e]
 ·rw[ae c]
theorem yt(B:BldAt g h b t)(ht:t.length<1000000)(u:Txt)(hu:u.length<1000000)(hq:∀h',BldAt g h' b (t++u)→Q (.tup [.int .i64 u.length,.nilif]) h'):AC pg (.fn 78) [.ptr b 0,.str u] h Q:=by
 refine AC.fn' (g:=g78) rfl (by simp only[List.length_cons,List.length_nil,g78];decide) ?_;simp only[g78,Mir.Ab.all];refine W0 ?_;refine qY B fun h1 B1=>?_;have B10:=B1;obtain⟨⟨p,v,hb,hp,hv⟩,hw,hg,hs⟩:=B1
 by_cases c0:u=[]
 ·subst c0;rw[List.append_nil]at hq;rcases hv with⟨rfl,rfl⟩|⟨d,d0,d1,d2,d3,rfl,d5⟩
  ·refine W1 hb ?_;rw[GG hb];exact⟨_,Sub.refl,hq _ B10⟩
  ·refine W2 hb d5 ?_;rw[GG hb];exact⟨_,Sub.refl,hq _ B10⟩
 have hp0:0<u.length:=List.length_pos_iff.2 c0;have ul:=iR u;rcases hv with⟨rfl,rfl⟩|⟨d,d0,d1,d2,d3,rfl,d5⟩
 ·refine W2 hb ul ?_;intro b2 hb2 B2;have n2:b2≠b:=fun e=>by rw[e,hb]at hb2;cases hb2
  have g2:=oH hs hb2;refine W3 hb n2 (Ne.symm n2) ?_;refine⟨_,Sub.refl,hq _ ⟨⟨p,.sl b2 0 1 u.length,by simp[hadd,hset],hp,.inr ⟨b2,by simpa using c0,n2,g2,B2,by simp,by simp[hadd,hset,n2]⟩⟩,hw,hg,fun x o hx=>?_⟩⟩;have c1:=af hg hx;have c3:=af g2 hx;simp only[hadd,hset,if_neg c1,if_neg c3];exact hs _ _ hx
 ·have bl:=iR t;refine W4 hb d5 bl ul ?_;intro b2 n4 hb2 B2;have n5:b2≠b:=fun e=>by rw[e,hb]at hb2;cases hb2
  have g2:=oH hs hb2;refine W5 hb n5 d1 (Ne.symm d1) (Ne.symm n5) ?_;refine⟨_,Sub.refl,hq _ ⟨⟨p,.sl b2 0 1 (t.length+u.length),by simp[hadd,hset],hp,.inr ⟨b2,by simp[c0],n5,g2,B2 d3,by simp,?_⟩⟩,hw,hg,fun x o hx=>?_⟩⟩
  ·simp only[hadd,hset,if_neg n5,if_pos rfl];rw[List.take_of_length_le (by omega),← mP];simp
  ·have c1:=af hg hx;have c3:=af g2 hx;have c4:=af d2 hx;simp only[hadd,hset,if_neg c1,if_neg c3,if_neg c4];exact hs _ _ hx
theorem Jm(B:BldAt g h b t)(ht:t.length<1000000)(hq:∀h',Sub g h'→Q (.str t) h'):AC pg (.fn 55) [.ptr b 0] h Q:=by
 obtain⟨⟨p,v,hb,hp,hv⟩,hw,hg,hs⟩:=B;refine AC.fn' (g:=g55) rfl (by simp only[List.length_cons,List.length_nil,g55];decide) ?_;simp only[g55,Mir.Ab.all];rcases hv with⟨rfl,rfl⟩|⟨c,c0,c1,c2,c3,rfl,c5⟩
 ·refine W1 hb ?_;refine⟨by decide,by decide,rfl,?_⟩;refine W0 ?_;exact⟨_,Sub.refl,hq _ hs⟩
 ·have hp:0<t.length:=List.length_pos_iff.2 c0;refine W2 hb c5 ?_;refine QV (cs:=bytesIn t) (s:=t) (b:=c) (o:=0) (k:=t.length) rfl rfl hp (by omega) c5 c3 (by rw[iR];omega) ?_ ?_
  ·rw[List.drop_zero,List.take_of_length_le (by rw[iR];omega),jA]
  ·refine W0 ?_;refine⟨_,Sub.refl,hq _ fun d o hd=>?_⟩;rw[ae (af c2 hd)];exact hs _ _ hd
end
section
open Mir
variable{h:H}{Q:V→H→Prop}{h0 g:H}{l b:Nat}{s t:Txt}{i:Nat}{T:List Tokn}{v:V}
theorem BldAt.put(B:BldAt g h b t){o o':AObj}{l:Nat}(hl:g l=some o):BldAt (hadd g l o') (hadd h l o') b t:=by
 obtain⟨⟨p,v,hb,hp,hv⟩,hw,hg,hs⟩:=B;have nb:b≠l:=fun e=>by rw[e,hl]at hg;cases hg
 refine⟨⟨p,v,by rw[ae nb];exact hb,hp,?_⟩,hw,by rw[ae nb];exact hg,fun x o hx=>?_⟩
 ·rcases hv with hv|⟨d,d0,d1,d2,d3,d4,d5⟩
  ·exact .inl hv
  ·have nd:d≠l:=fun e=>by rw[e,hl]at d2;cases d2
   exact .inr ⟨d,d0,d1,by rw[ae nd];exact d2,d3,d4,by rw[ae nd];exact d5⟩
 ·by_cases c:x=l
  ·subst c;simp only[hadd,hset,if_pos rfl]at hx⊢;exact hx
  ·rw[ae c]at hx⊢;exact hs _ _ hx
def Both(h0 h:H)(l b:Nat)(s:Txt)(i:Nat)(T:List Tokn)(t:Txt):Prop:=∃g,LexAt h0 g l s i T∧BldAt g h b t
theorem Both.lex(B:Both h0 h l b s i T t):LexAt h0 h l s i T:=by
 obtain⟨g,L,B⟩:=B;exact L.ext B.sub
theorem Both.move(B:Both h0 h l b s i T t)(j:Nat):∃v,h l=some (.cells [.str s,.int .i64 i,v] false)∧Both h0 (hadd h l (.cells [.str s,.int .i64 j,v] false)) l b s j T t:=by
 obtain⟨g,L,B⟩:=B;obtain⟨v,hl,m⟩:=L.move j;exact⟨v,B.sub _ _ hl,_,m,B.put hl⟩
theorem zA(L:LexAt h0 h l s i T)(hi:i<s.length)(hT:T.length<1000000)(kind:Nat)(e:UInt8)(how:UInt8→Option Txt){f:Nat}
  (hf:∀(c:UInt8) (h:H) (Q:V→H→Prop),(∀t,how c=some t→Q (.tup [.str t,.bool true]) h)→(how c=none→∀t,Q (.tup [.str t,.bool false]) h)→AC pg (.fn f) [.int .u8 c.toNat] h Q)
  (hlen:∀c t,how c=some t→t.length≤2)
  (hq0:∀j h',dD s e how i s.length (i+1) []=.inl j→LexAt h0 h' l s j T→Q (.int .i64 9) h')
  (hq1:∀t j h',dD s e how i s.length (i+1) []=.inr (t,j)→LexAt h0 h' l s j (T++[⟨kind,t,i⟩])→Q (.int .i64 0) h'):
  AC pg (.fn 63) [.ptr l 0,.int .i64 kind,.int .u8 e.toNat,.fn f [] []] h Q:=by
 have sm:=L.small;obtain⟨v,hl,_⟩:=L.move 0;refine AC.fn' (g:=g63) rfl (by simp only[List.length_cons,List.length_nil,g63];decide) ?_;simp only[g63,Mir.Ab.all];refine W1 hl ?_;intro b hb hw;have hbl:b≠l:=fun e=>by rw[e,hl]at hb;cases hb
 have B0:Both h0 (hadd h b (.cells [.nilptr,.nilsl] false)) l b s i T []:=
  ⟨h,L,⟨.nilptr,.nilsl,by simp[hadd,hset],.inl rfl,.inl ⟨rfl,rfl⟩⟩,hw,hb,fun x o hx=>by rw[ae (af hb hx)];exact hx⟩
 obtain⟨v1,hl1,m1⟩:=B0.move (i+1);refine W3 hl (Ne.symm hbl) hl1 ?_;refine E.loopX AC.mono (fun(x:Nat × Nat × Txt) a' h'=>Both h0 h' l b s x.2.1 T x.2.2∧x.2.1≤s.length∧s.length<x.1+x.2.1∧x.2.2.length≤2*x.2.1∧dD s e how i x.1 x.2.1 x.2.2=dD s e how i s.length (i+1) []∧a'.d=[]∧a'.t 0=.ptr l 0∧a'.t 1=.int .i64 kind∧a'.t 2=.int .u8 e.toNat∧a'.t 3=.fn f [] []∧a'.t 9=.int .i64 i∧a'.t 10=.ptr b 0) (fun x=>x.1) (s.length,i+1,[]) ?_ ?_
 ·have e1:((i+1:Nat):Int)=i+1:=by omega
  rw[e1]at m1;exact⟨m1,by show i+1≤s.length;omega,by show s.length<s.length+(i+1);omega,by show 0≤_;omega,rfl,rfl,rfl,rfl,rfl,rfl,rfl,rfl⟩
 ·intro ⟨k,j,acc⟩ a h' ⟨B,hj,hk,hacc,hM,hd,t0,t1,t2,t3,t9,t10⟩;simp only at B hj hk hacc hM;obtain⟨k,rfl⟩:∃k',k=k'+1:=⟨k-1,by omega⟩;have L':=B.lex;obtain⟨v2,hl2,m2⟩:=B.move i;refine W7 t0 t1 t2 t3 t9 t10 hd ?_;refine jR L' 0 (by omega) ?_
  by_cases cA:s.length≤j
  ·have hM':dD s e how i s.length (i+1) []=.inl i:=by rw[← hM,dD,if_pos (.inl cA)]
   refine W8 t0 t1 t2 t3 t9 t10 hd hl2 ?_;exact⟨_,Sub.refl,hq0 _ _ hM' m2.lex⟩
  by_cases cB:pk s j=10
  ·have hM':dD s e how i s.length (i+1) []=.inl i:=by rw[← hM,dD,if_pos (.inr cB)]
   have cB':(pk s j).toNat=10:=by rw[cB];rfl
   refine W8 t0 t1 t2 t3 t9 t10 hd hl2 ?_;exact⟨_,Sub.refl,hq0 _ _ hM' m2.lex⟩
  have cB':¬(pk s j).toNat=10:=fun x=>cB (bJ.2 x);have e1:((j+1:Nat):Int)=j+1:=by omega
  by_cases cC:pk s j=e
  ·have hM':dD s e how i s.length (i+1) []=.inr (acc,j+1):=by rw[← hM,dD,if_neg (fun x=>x.elim cA cB),if_pos cC]
   have cC':(pk s j).toNat=e.toNat:=by rw[cC]
   obtain⟨v3,hl3,g,L3,B3⟩:=B.move (j+1);rw[e1]at B3;refine W8 t0 t1 t2 t3 t9 t10 hd hl3 ?_;refine Jm B3 (by omega) fun h4 s4=>?_;refine W2 t9 hd ?_;refine iL (L3.ext s4) hT kind acc i fun h5 L5=>?_;refine W1 hd ?_;exact⟨_,Sub.refl,hq1 _ _ _ hM' L5⟩
  have cC':¬(pk s j).toNat=e.toNat:=fun x=>cC (bJ.2 x)
  by_cases cD:pk s j=92
  ·have cD':(pk s j).toNat=92:=by rw[cD];rfl
   refine W8 t0 t1 t2 t3 t9 t10 hd hl2 ?_;refine jR L' 1 (by omega) ?_;refine W0 ?_;have hMM:dD s e how i (k+1) j acc=match how (pk s (j+1))with
    |none=>.inl j
    |some t=>if s.length≤j+1 then .inl j else dD s e how i k (j+2) (acc++t):=by
      rw[dD,if_neg (fun x=>x.elim cA cB),if_neg cC,if_pos cD];rfl
   refine hf _ _ _ (fun t ht=>?_) (fun ht t=>?_)
   ·rw[ht]at hMM
    by_cases cE:s.length≤j+1
    ·rw[hMM]at hM;simp only[if_pos cE]at hM;refine W8 t0 t1 t2 t3 t9 t10 hd hl2 ?_;exact⟨_,Sub.refl,hq0 _ _ hM.symm L'⟩
    ·rw[hMM]at hM;simp only[if_neg cE]at hM;have lt2:=hlen _ _ ht;obtain⟨v3,hl3,g,L3,B3⟩:=B.move (j+1);rw[e1]at B3;refine W8 t0 t1 t2 t3 t9 t10 hd hl3 ?_;refine yt B3 (by omega) t (by omega) fun h4 B4=>?_;obtain⟨v5,hl5,m5⟩:=Both.move (h0:=h0) (l:=l) (s:=s) (i:=j+1) (T:=T) ⟨g,L3,B4⟩ (j+2);refine W8 t0 t1 t2 t3 t9 t10 hd hl5 ?_;have e2:((j+2:Nat):Int)=((j+1:Nat):Int)+1:=by omega
     rw[e2]at m5;refine⟨(k,j+2,acc++t),by show k<k+1;omega,m5,by show j+2≤s.length;omega,by show s.length<k+(j+2);omega,?_,hM⟩
     show(acc++t).length≤2*(j+2)
     rw[List.length_append];omega
   ·rw[ht]at hMM;rw[hMM]at hM;refine W8 t0 t1 t2 t3 t9 t10 hd hl2 ?_;exact⟨_,Sub.refl,hq0 _ _ hM.symm L'⟩
  ·have cD':¬(pk s j).toNat=92:=fun x=>cD (bJ.2 x);have hMM:dD s e how i (k+1) j acc=dD s e how i k (j+1) (acc++[pk s j]):=by
    rw[dD,if_neg (fun x=>x.elim cA cB),if_neg cC,if_neg cD]
   rw[hMM]at hM;obtain⟨g,L3,B3⟩:=B;refine W8 t0 t1 t2 t3 t9 t10 hd hl2 ?_;refine BR B3 (by omega) (pk s j) fun h4 B4=>?_;obtain⟨v5,hl5,m5⟩:=Both.move (h0:=h0) (l:=l) (s:=s) (i:=j) (T:=T) ⟨g,L3,B4⟩ (j+1);refine W8 t0 t1 t2 t3 t9 t10 hd hl5 ?_;rw[e1]at m5;refine⟨(k,j+1,acc++[pk s j]),by show k<k+1;omega,m5,by show j+1≤s.length;omega,by show s.length<k+(j+1);omega,?_,hM⟩
   show(acc++[pk s j]).length≤2*(j+1)
   rw[List.length_append,List.length_singleton];omega
end
section
open Mir
variable{h:H}{Q:V→H→Prop}{h0 g:H}{l b:Nat}{s t:Txt}{i:Nat}{T:List Tokn}{v:V}{m:Int}
theorem vg{c:UInt8}{s:Txt}:mG c s<0↔c∉s:=by
 rcases xW c s with h|⟨a,r,rfl,h⟩
 ·rw[tu h];simp[h]
 ·rw[tC h];simp
theorem vz(hM:h0 4=some (.cells [.int .i64 m] true))(L:LexAt h0 h l s i T)(hi:i<s.length)(hT:T.length<1000000)
  (hq0:∀h',mD s i=none→LexAt h0 h' l s i T→Q (.int .i64 9) h')
  (hq1:∀t h',mD s i=some t→LexAt h0 h' l s (i+t.length) (T++[⟨8,t,i⟩])→Q (.int .i64 0) h'):AC pg (.fn 67) [.ptr l 0] h Q:=by
 have sm:=L.small;obtain⟨v,hl,_⟩:=L.move 0;have e2:(s.take (min (i+2) s.length)).length=min (i+2) s.length:=by rw[List.length_take];omega
 have tl:(kw s i (min (i+2) s.length)).length=min (i+2) s.length-i:=by rw[kw,List.length_drop,e2]
 have em:(min ((i:Int)+2) (s.length:Int)).toNat=min (i+2) s.length:=by omega
 generalize hw:kw s i (min (i+2) s.length)=w at tl;have hw':List.drop i (List.take (min ((i:Int)+2) (s.length:Int)).toNat s)=w:=by rw[em];exact hw
 have e1:((i+1:Nat):Int)=i+1:=by omega
 have ep:=xC hi;have hS:mD s i=if w.length=2∧DD w=true then some w else if pk s i∈ones then some (w.take 1)else none:=by simp only[mD,hw]
 have hA:=L.sub _ _ hM;have tail:∀(h1:H),LexAt h0 h1 l s i T→¬(w.length=2∧DD w=true)→(mD s i=if pk s i∈ones then some (w.take 1)else none):=fun h1 _ hn=>by rw[hS,if_neg hn]
 have w1:(w.take 1).length=1:=by rw[List.length_take];omega
 refine AC.fn' (g:=g67) rfl (by simp only[List.length_cons,List.length_nil,g67];decide) ?_;simp only[g67,Mir.Ab.all]
 by_cases c:i+2≤s.length
 ·have wl:w.length=2:=by omega
  refine W3 hl hw' wl ?_;refine iU _ (32::(w++[32])) (by decide) (by simp) (by simp;omega) hA ?_
  by_cases c2:DD w=true
  ·have c3:decide (0≤cu (32::(w++[32])) sJ)=true:=c2;unfold sJ at c3;obtain⟨v1,hl1,m1⟩:=L.move i;refine W2 hl c3 ?_;refine iL L hT 8 w i fun h3 L3=>?_;obtain⟨v3,hl3,m3⟩:=L3.move (i+2);have e3:((i+2:Nat):Int)=i+2:=by omega
   rw[e3]at m3;refine W1 hl3 ?_;exact⟨_,Sub.refl,hq1 w _ (by rw[hS,if_pos ⟨wl,c2⟩]) (by rw[wl];exact m3)⟩
  ·have c3:decide (0≤cu (32::(w++[32])) sJ)=false:=by simpa[DD]using c2
   unfold sJ at c3;have hS':=tail h L (fun x=>c2 x.2);refine W3 hl c3 ep ?_;refine rP _ (pk s i) ?_
   by_cases c4:pk s i∈ones
   ·have c5:¬mG (pk s i) ones<0:=fun x=>vg.1 x c4;unfold ones at c5;rw[if_pos c4]at hS';refine W2 hl c5 ?_;refine iL L hT 8 _ i fun h3 L3=>?_;obtain⟨v3,hl3,m3⟩:=L3.move (i+1);rw[e1]at m3;refine W1 hl3 ?_;exact⟨_,Sub.refl,hq1 _ _ hS' (by rw[w1];exact m3)⟩
   ·have c5:mG (pk s i) ones<0:=vg.2 c4;unfold ones at c5;rw[if_neg c4]at hS';refine W2 hl c5 ?_;exact⟨_,Sub.refl,hq0 _ hS' L⟩
 ·have wl:¬w.length=2:=by omega
  have wl1:w.length=1:=by omega
  have hS':=tail h L (fun x=>wl x.1);refine W4 hl hw' wl1 ep ?_;refine rP _ (pk s i) ?_
  by_cases c4:pk s i∈ones
  ·have c5:¬mG (pk s i) ones<0:=fun x=>vg.1 x c4;unfold ones at c5;rw[if_pos c4]at hS';refine W2 hl c5 ?_;refine iL L hT 8 _ i fun h3 L3=>?_;obtain⟨v3,hl3,m3⟩:=L3.move (i+1);rw[e1]at m3;refine W1 hl3 ?_;exact⟨_,Sub.refl,hq1 _ _ hS' (by rw[w1];exact m3)⟩
  ·have c5:mG (pk s i) ones<0:=vg.2 c4;unfold ones at c5;rw[if_neg c4]at hS';refine W2 hl c5 ?_;exact⟨_,Sub.refl,hq0 _ hS' L⟩
end
section
open Mir
variable{h:H}{Q:V→H→Prop}{h0 g:H}{l b:Nat}{s t:Txt}{i:Nat}{T:List Tokn}{v:V}{m:Int}
abbrev dV(s:Txt)(i:Nat)(T:List Tokn):Nat ⊕ (Nat × List Tokn):=fM wordsT builtinsT bannedT s i T
theorem PQ(W:Words h0)(hM:h0 4=some (.cells [.int .i64 m] true))(L:LexAt h0 h l s i T)(hi:i<s.length)(hT:T.length<1000000)
  (hq0:∀j h',dV s i T=.inl j→LexAt h0 h' l s j T→Q (.int .i64 9) h')
  (hq1:∀j T' h',dV s i T=.inr (j,T')→LexAt h0 h' l s j T'→Q (.int .i64 0) h'):AC pg (.fn 37) [.ptr l 0] h Q:=by
 have sm:=L.small;obtain⟨v,hl,m1⟩:=L.move (i+1);have e1:((i+1:Nat):Int)=i+1:=by omega
 have e2:((i+2:Nat):Int)=i+2:=by omega
 rw[e1]at m1;have ep:=xC hi;have n:∀(c:UInt8) (k:Nat),c.toNat=k→∀d:UInt8,d.toNat=k→c=d:=fun c k h1 d h2=>bJ.2 (h1.trans h2.symm);generalize hc:pk s i=c at ep;refine AC.fn' (g:=g37) rfl (by simp only[List.length_cons,List.length_nil,g37];decide) ?_;simp only[g37,Mir.Ab.all]
 by_cases c0:c=32∨c=9∨c=13
 ·have hN:dV s i T=.inr (i+1,T):=by simp only[dV,fM,hc,if_pos c0]
  have d:c.toNat=32∨c.toNat=9∨c.toNat=13:=c0.imp (fun e=>by rw[e];rfl) (Or.imp (fun e=>by rw[e];rfl) fun e=>by rw[e];rfl);rcases d with d|d|d
  all_goals refine W2 hl ep ?_
  all_goals exact⟨_,Sub.refl,hq1 _ _ _ hN m1⟩
 have d1:¬c.toNat=32:=fun e=>c0 (.inl (bJ.2 e));have d2:¬c.toNat=9:=fun e=>c0 (.inr (.inl (bJ.2 e)));have d3:¬c.toNat=13:=fun e=>c0 (.inr (.inr (bJ.2 e)))
 by_cases c1:c=35
 ·have hN:dV s i T=.inr (past mg s i,T):=by simp only[dV,fM,hc,if_neg c0,if_pos c1]
  have d:c.toNat=35:=by rw[c1];rfl
  refine W2 hl ep ?_;refine sN L mg (fun c h Q=>MP c) (by omega) fun h1 L1=>?_;refine W0 ?_;exact⟨_,Sub.refl,hq1 _ _ _ hN L1⟩
 have d4:¬c.toNat=35:=fun e=>c1 (bJ.2 e)
 by_cases c2:c=92∧pk s (i+1)=10
 ·have hN:dV s i T=.inr (i+2,T):=by simp only[dV,fM,hc,if_neg c0,if_neg c1,if_pos c2]
  have d:c.toNat=92:=by rw[c2.1];rfl
  have d':(pk s (i+1)).toNat=10:=by rw[c2.2];rfl
  obtain⟨v2,hl2,m2⟩:=L.move (i+2);rw[e2]at m2;refine W2 hl2 ep ?_;refine jR L 1 (by omega) ?_;refine W2 hl2 d' ?_;exact⟨_,Sub.refl,hq1 _ _ _ hN m2⟩
 have big:∀(k:UInt8),aU k=true→48≤k.toNat∧k.toNat≤57:=fun k hk=>by simpa[aU]using hk
 have let_:∀(k:UInt8),isLet k=true→(97≤k.toNat∧k.toNat≤122)∨(65≤k.toNat∧k.toNat≤90)∨k.toNat=95:=fun k hk=>by simpa[isLet,or_assoc]using hk
 by_cases c3:c=92
 ·have d:c.toNat=92:=by rw[c3];rfl
  have x1:¬c=10:=fun e=>by rw[e]at d;cases d
  have x2:¬(aU c=true∨c=46∧aU (pk s (i+1))=true):=fun e=>e.elim (fun e=>by have:=big _ e;omega) fun e=>by rw[e.1]at d;cases d
  have x3:¬isLet c=true:=fun e=>by have:=let_ _ e;omega
  have x4:¬c=34:=fun e=>by rw[e]at d;cases d
  have x5:¬(c=47∧oC T=true):=fun e=>by rw[e.1]at d;cases d
  have hN:dV s i T=match mD s i with
   |none=>.inl i
   |some t=>.inr (i+t.length,T++[⟨8,t,i⟩]):=by
   simp only[dV,fM,hc];rw[if_neg c0,if_neg c1,if_neg c2,if_neg x1,if_neg x2,if_neg x3,if_neg x4,if_neg x5];rfl
  have d':¬(pk s (i+1)).toNat=10:=fun e=>c2 ⟨c3,bJ.2 e⟩;have dg:aU c=false:=by simpa using fun e=>x2 (.inl e)
  have lt:isLet c=false:=by simpa using x3
  refine W2 hl ep ?_;refine jR L 1 (by omega) ?_;refine W2 hl d' ?_;refine dP c ?_;rw[dg];refine W1 hl ?_;refine iI c ?_;rw[lt];refine W1 hl ?_;refine vz hM L hi hT (fun h1 e L1=>?_) (fun t h1 e L1=>?_)
  ·rw[e]at hN;refine W0 ?_;exact⟨_,Sub.refl,hq0 _ _ hN L1⟩
  ·rw[e]at hN;refine W0 ?_;exact⟨_,Sub.refl,hq1 _ _ _ hN L1⟩
 have d5:¬c.toNat=92:=fun e=>c3 (bJ.2 e)
 by_cases c4:c=10
 ·have hN:dV s i T=.inr (i+1,T++[⟨1,[],i⟩]):=by simp only[dV,fM,hc];rw[if_neg c0,if_neg c1,if_neg c2,if_pos c4]
  have d:c.toNat=10:=by rw[c4];rfl
  refine W2 hl ep ?_;refine iL L hT 1 [] i fun h1 L1=>?_;obtain⟨v2,hl2,m2⟩:=L1.move (i+1);rw[e1]at m2;refine W1 hl2 ?_;exact⟨_,Sub.refl,hq1 _ _ _ hN m2⟩
 have d6:¬c.toNat=10:=fun e=>c4 (bJ.2 e)
 by_cases c5:aU c=true∨c=46∧aU (pk s (i+1))=true
 ·have hN:dV s i T=.inr (iK s i,T++[⟨2,kw s i (iK s i),i⟩]):=by simp only[dV,fM,hc];rw[if_neg c0,if_neg c1,if_neg c2,if_neg c4,if_pos c5]
  by_cases c6:aU c=true
  ·refine W2 hl ep ?_;refine dP c ?_;rw[c6];refine W1 hl ?_;refine zn L hT (by omega) fun h1 L1=>?_;refine W0 ?_;exact⟨_,Sub.refl,hq1 _ _ _ hN L1⟩
  ·have c7:=c5.resolve_left c6;have d:c.toNat=46:=by rw[c7.1];rfl
   refine W2 hl ep ?_;refine dP c ?_;rw[show aU c=false from by simpa using c6];refine W1 hl ?_;refine jR L 1 (by omega) ?_;refine W1 hl ?_;refine dP _ ?_;rw[c7.2];refine W1 hl ?_;refine zn L hT (by omega) fun h1 L1=>?_;refine W0 ?_;exact⟨_,Sub.refl,hq1 _ _ _ hN L1⟩
 have c6:aU c=false:=by simpa using fun e=>c5 (.inl e)
 by_cases c7:c=46
 ·have d:c.toNat=46:=by rw[c7];rfl
  have x3:¬isLet c=true:=fun e=>by have:=let_ _ e;omega
  have x4:¬c=34:=fun e=>by rw[e]at d;cases d
  have x5:¬(c=47∧oC T=true):=fun e=>by rw[e.1]at d;cases d
  have hN:dV s i T=match mD s i with
   |none=>.inl i
   |some t=>.inr (i+t.length,T++[⟨8,t,i⟩]):=by
   simp only[dV,fM,hc];rw[if_neg c0,if_neg c1,if_neg c2,if_neg c4,if_neg c5,if_neg x3,if_neg x4,if_neg x5];rfl
  have dg:aU (pk s (i+1))=false:=by simpa using fun e=>c5 (.inr ⟨c7,e⟩)
  have lt:isLet c=false:=by simpa using x3
  refine W2 hl ep ?_;refine dP c ?_;rw[c6];refine W1 hl ?_;refine jR L 1 (by omega) ?_;refine W1 hl ?_;refine dP _ ?_;rw[dg];refine W1 hl ?_;refine iI c ?_;rw[lt];refine W1 hl ?_;refine vz hM L hi hT (fun h1 e L1=>?_) (fun t h1 e L1=>?_)
  ·rw[e]at hN;refine W0 ?_;exact⟨_,Sub.refl,hq0 _ _ hN L1⟩
  ·rw[e]at hN;refine W0 ?_;exact⟨_,Sub.refl,hq1 _ _ _ hN L1⟩
 have d7:¬c.toNat=46:=fun e=>c7 (bJ.2 e)
 by_cases c8:isLet c=true
 ·have hN:dV s i T=.inr (past aV s i,T++[⟨wk (kw s i (past aV s i)) (pk s (past aV s i)),kw s i (past aV s i),i⟩]):=by
   simp only[dV,fM,hc];rw[if_neg c0,if_neg c1,if_neg c2,if_neg c4,if_neg c5,if_pos c8];rfl
  refine W2 hl ep ?_;refine dP c ?_;rw[c6];refine W1 hl ?_;refine iI c ?_;rw[c8];refine W1 hl ?_;refine Qx W L hT (by omega) fun h1 L1=>?_;refine W0 ?_;exact⟨_,Sub.refl,hq1 _ _ _ hN L1⟩
 have lt:isLet c=false:=by simpa using c8
 by_cases c9:c=34
 ·have hN:dV s i T=match dD s 34 jg i s.length (i+1) []with
   |.inl j=>.inl j
   |.inr (t,j)=>.inr (j,T++[⟨3,t,i⟩]):=by
   simp only[dV,fM,hc];rw[if_neg c0,if_neg c1,if_neg c2,if_neg c4,if_neg c5,if_neg c8,if_pos c9];rfl
  have d:c.toNat=34:=by rw[c9];rfl
  refine W2 hl ep ?_;refine dP c ?_;rw[c6];refine W1 hl ?_;refine iI c ?_;rw[lt];refine W1 hl ?_;refine zA L hi hT 3 34 jg (fun c h Q hy hn=>DC c hy fun e=>hn e _) (fun c t e=>?_) (fun j h1 e L1=>?_) fun t j h1 e L1=>?_
  ·unfold jg at e
   repeat' (split at e)
   all_goals cases e
   all_goals simp
  ·rw[e]at hN;refine W0 ?_;exact⟨_,Sub.refl,hq0 _ _ hN L1⟩
  ·rw[e]at hN;refine W0 ?_;exact⟨_,Sub.refl,hq1 _ _ _ hN L1⟩
 have d9:¬c.toNat=34:=fun e=>c9 (bJ.2 e)
 by_cases c10:c=47
 ·have d:c.toNat=47:=by rw[c10];rfl
  refine W2 hl ep ?_;refine dP c ?_;rw[c6];refine W1 hl ?_;refine iI c ?_;rw[lt];refine W1 hl ?_;refine NV L hT fun h1 L1=>?_
  by_cases c11:oC T=true
  ·have hN:dV s i T=match dD s 47 tH i s.length (i+1) []with
    |.inl j=>.inl j
    |.inr (t,j)=>.inr (j,T++[⟨4,t,i⟩]):=by
    simp only[dV,fM,hc];rw[if_neg c0,if_neg c1,if_neg c2,if_neg c4,if_neg c5,if_neg c8,if_neg c9,if_pos ⟨c10,c11⟩];rfl
   rw[c11];refine W0 ?_;refine zA L1 hi hT 4 47 tH (fun c h Q hy hn=>Fh c hy hn) (fun c t e=>?_) (fun j h1 e L1=>?_) fun t j h1 e L1=>?_
   ·unfold tH at e
    repeat' (split at e)
    all_goals cases e
    all_goals simp
   ·rw[e]at hN;refine W0 ?_;exact⟨_,Sub.refl,hq0 _ _ hN L1⟩
   ·rw[e]at hN;refine W0 ?_;exact⟨_,Sub.refl,hq1 _ _ _ hN L1⟩
  ·have hN:dV s i T=match mD s i with
    |none=>.inl i
    |some t=>.inr (i+t.length,T++[⟨8,t,i⟩]):=by
    simp only[dV,fM,hc];rw[if_neg c0,if_neg c1,if_neg c2,if_neg c4,if_neg c5,if_neg c8,if_neg c9,if_neg fun e=>c11 e.2];rfl
   rw[show oC T=false from by simpa using c11];refine W0 ?_;refine vz hM L1 hi hT (fun h1 e L1=>?_) (fun t h1 e L1=>?_)
   ·rw[e]at hN;refine W0 ?_;exact⟨_,Sub.refl,hq0 _ _ hN L1⟩
   ·rw[e]at hN;refine W0 ?_;exact⟨_,Sub.refl,hq1 _ _ _ hN L1⟩
 ·have d10:¬c.toNat=47:=fun e=>c10 (bJ.2 e);have hN:dV s i T=match mD s i with
   |none=>.inl i
   |some t=>.inr (i+t.length,T++[⟨8,t,i⟩]):=by
   simp only[dV,fM,hc];rw[if_neg c0,if_neg c1,if_neg c2,if_neg c4,if_neg c5,if_neg c8,if_neg c9,if_neg fun e=>c10 e.1];rfl
  refine W2 hl ep ?_;refine dP c ?_;rw[c6];refine W1 hl ?_;refine iI c ?_;rw[lt];refine W1 hl ?_;refine vz hM L hi hT (fun h1 e L1=>?_) (fun t h1 e L1=>?_)
  ·rw[e]at hN;refine W0 ?_;exact⟨_,Sub.refl,hq0 _ _ hN L1⟩
  ·rw[e]at hN;refine W0 ?_;exact⟨_,Sub.refl,hq1 _ _ _ hN L1⟩
end
section
open Mir
variable{h:H}{Q:V→H→Prop}{s:Txt}{m:Int}
abbrev DV(s:Txt):Nat ⊕ List Tokn:=kK wordsT builtinsT bannedT s (s.length+1) 0 []
theorem Sv(W:Words h)(hM:h 4=some (.cells [.int .i64 m] true))(hs:s.length≤4000)
  (hq0:∀j h',DV s=.inl j→j≤s.length→Sub h h'→Q (.tup [.nilsl,.int .i64 j,.int .i64 9]) h')
  (hq1:∀T b h',DV s=.inr T→h b=none→Sub h h'→h' b=some (.cells (flat T) false)→Q (.tup [.sl b 0 3 T.length,.int .i64 0,.int .i64 0]) h'):AC pg (.fn 24) [.str s] h Q:=by
 refine AC.fn' (g:=g24) rfl (by simp only[List.length_cons,List.length_nil,g24];decide) ?_;simp only[g24,Mir.Ab.all];refine W0 ?_;intro l hl;have L0:LexAt h (hadd h l (.cells [.str s,.int .i64 0,.nilsl] false)) l s 0 []:=
  ⟨⟨.nilsl,by simp[hadd,hset],.inl ⟨rfl,rfl⟩⟩,hl,Sub.refl.put hl,by omega⟩
 refine W0 ?_;refine E.loopX AC.mono (fun(x:Nat × Nat × List Tokn) a' h'=>LexAt h h' l s x.2.1 x.2.2∧x.2.1≤s.length∧s.length<x.1+x.2.1∧x.2.2.length≤x.2.1∧kK wordsT builtinsT bannedT s x.1 x.2.1 x.2.2=DV s∧a'.d=[]∧a'.t 0=.str s∧a'.t 5=.ptr l 0) (fun x=>x.1) (s.length+1,0,[]) ?_ ?_
 ·exact⟨L0,Nat.zero_le _,by show s.length<s.length+1+0;omega,by simp,rfl,rfl,rfl,rfl⟩
 ·intro ⟨k,i,T⟩ a h' ⟨L,hi,hk,hT,hE,hd,t0,t5⟩;simp only at L hi hk hT hE;obtain⟨k,rfl⟩:∃k',k=k'+1:=⟨k-1,by omega⟩;obtain⟨v,hl1,_⟩:=L.move i
  by_cases c:i<s.length
  ·have hE':kK wordsT builtinsT bannedT s (k+1) i T=match dV s i T with
    |.inl j=>.inl j
    |.inr (i',T')=>kK wordsT builtinsT bannedT s k i' T':=by rw[kK,if_neg (by omega)];rfl
   rw[hE']at hE;have nx:=xh (ws:=wordsT) (bs:=builtinsT) (ns:=bannedT) c hT;refine W4 hl1 t0 t5 hd ?_;refine PQ W hM L c (by omega) (fun j h1 e L1=>?_) fun j T' h1 e L1=>?_
   ·rw[e]at hE;obtain⟨v2,hl2,_⟩:=L1.move i;refine W4 hl2 t0 t5 hd ?_;exact⟨_,Sub.refl,hq0 _ _ hE.symm (nx.1 _ e) L1.sub⟩
   ·rw[e]at hE;obtain⟨n1,n2,n3⟩:=nx.2 _ _ e;refine W3 t0 t5 hd ?_;exact⟨(k,j,T'),by show k<k+1;omega,L1,n2,by show s.length<k+j;omega,n3,hE⟩
  ·have hE':kK wordsT builtinsT bannedT s (k+1) i T=.inr (T++[⟨0,[],i⟩]):=by rw[kK,if_pos (by omega)]
   rw[hE']at hE;refine W4 hl1 t0 t5 hd ?_;refine iL L (by omega) 0 [] i fun h1 L1=>?_;obtain⟨⟨v2,hl2,hT2⟩,_,s1,_⟩:=L1;rcases hT2 with⟨e,_⟩|⟨b,b1,b2,rfl,b4⟩
   ·simp at e
   ·refine W4 hl2 t0 t5 hd ?_;exact⟨_,Sub.refl,hq1 _ b _ hE.symm b2 s1 b4⟩
end
section
open Mir
variable{h:H}{Q:V→H→Prop}{h0:H}{p:Nat}{s:Txt}{r:RS}
def rsC(s:Txt)(r:RS):List V:=[.str s,.int .i64 r.i,.int .i64 r.deep,.int .i64 r.err,.int .i64 r.bad]
structure RdAt(h0 h:H)(p:Nat)(s:Txt)(r:RS):Prop where
 obj:h p=some (.cells (rsC s r) false)
 base:h0 p=none
 sub:Sub h0 h
 small:s.length≤300
 place:r.i≤100000
 deep:r.deep≤100000
theorem RdAt.set(R:RdAt h0 h p s r)(r':RS)(hi:r'.i≤100000)(hd:r'.deep≤100000):RdAt h0 (hadd h p (.cells (rsC s r') false)) p s r' :=
 ⟨by simp[hadd,hset],R.base,fun b o hb=>by rw[ae (af R.base hb)];exact R.sub _ _ hb,R.small,hi,hd⟩
theorem Ei(R:RdAt h0 h p s r)(hq:Q (match r.next s with|none=>.tup [.int .u8 0,.bool false]|some c=>.tup [.int .u8 c.toNat,.bool true]) h):AC pg (.fn 134) [.ptr p 0] h Q:=by
 have hp:=R.obj;have sm:=R.small;unfold rsC at hp;refine AC.fn' (g:=Lj) rfl (by simp only[List.length_cons,List.length_nil,Lj];decide) ?_;simp only[Lj,Mir.Ab.all]
 by_cases c:r.err=0
 ·by_cases c1:s.length≤r.i
  ·rw[show r.next s=none from by simp[RS.next,c,c1]]at hq;refine W1 hp ?_;exact⟨_,Sub.refl,hq⟩
  ·have e:=xC (s:=s) (j:=r.i) (by omega);rw[show r.next s=some (pk s r.i)from by simp[RS.next,c,c1]]at hq;refine W2 hp e ?_;exact⟨_,Sub.refl,hq⟩
 ·rw[show r.next s=none from by simp[RS.next,c]]at hq;refine W1 hp ?_;exact⟨_,Sub.refl,hq⟩
theorem iq(R:RdAt h0 h p s r)(a e:Nat)(hq:∀h',RdAt h0 h' p s (r.fail a e)→Q (.tup []) h'):AC pg (.fn 135) [.ptr p 0,.int .i64 a,.int .i64 e] h Q:=by
 have hp:=R.obj;unfold rsC at hp;refine AC.fn' (g:=Ll) rfl (by simp only[List.length_cons,List.length_nil,Ll];decide) ?_;simp only[Ll,Mir.Ab.all]
 by_cases c:r.err=0
 ·have m:=R.set {r with err:=e,bad:=a} R.place R.deep;rw[show r.fail a e={r with err:=e,bad:=a} from by simp[RS.fail,c]]at hq;unfold rsC at m;refine W1 hp ?_;refine⟨_,Sub.refl,hq _ ?_⟩;exact m
 ·rw[show r.fail a e=r from by simp[RS.fail,c]]at hq;refine W1 hp ?_;exact⟨_,Sub.refl,hq _ R⟩
end
section
open Mir
variable{h:H}{Q:V→H→Prop}{h0:H}{p:Nat}{s:Txt}{r:RS}
theorem Rz(r:RS)(a e:Nat):(r.fail a e).i=r.i∧(r.fail a e).deep=r.deep:=by unfold RS.fail;split<;>exact⟨rfl,rfl⟩
theorem vZ(c:UInt8):Ar c=true↔(48≤c.toNat∧c.toNat≤57)∨(97≤c.toNat∧c.toNat≤122)∨(65≤c.toNat∧c.toNat≤90)∨c.toNat<32∨126<c.toNat:=by
 simp[Ar,aU,or_assoc]
theorem sV(R:RdAt h0 h p s r)(h1:1≤r.i)(hi:r.i<50000)(hq:∀h',RdAt h0 h' p s (jm s r).2→Q (.int .u8 (jm s r).1.toNat) h'):AC pg (.fn 139) [.ptr p 0] h Q:=by
 have hp:=R.obj;have sm:=R.small;have m:=R.set r.step (by simp only[RS.step];omega) R.deep;unfold rsC at hp m;simp only[RS.step]at m;have ei:((r.i+1:Nat):Int)=r.i+1:=by omega
 have ei':((r.i-1:Nat):Int)=r.i-1:=by omega
 rw[ei]at m;refine AC.fn' (g:=Ls) rfl (by simp only[List.length_cons,List.length_nil,Ls];decide) ?_;simp only[Ls,Mir.Ab.all];refine W1 hp ?_;refine Ei R ?_;cases e:r.next s with
 |none =>
   have eM:jm s r=(0,r.step.fail (r.i-1) 9):=by simp only[jm,e]
   rw[eM]at hq;refine W2 hp ei'.symm ?_;refine iq (r:=r.step) m (r.i-1) 9 fun h2 R2=>?_;refine W0 ?_;exact⟨_,Sub.refl,hq _ R2⟩
 |some c =>
   have go:∀h2,RdAt h0 h2 p s r.step→RdAt h0 h2 p s r.step:=fun _ x=>x
   by_cases c1:c=110
   ·have eM:jm s r=(10,r.step):=by simp only[jm,e,if_pos c1]
    have d:c.toNat=110:=by rw[c1];rfl
    rw[eM]at hq;simp only;refine W2 hp ei'.symm ?_;exact⟨_,Sub.refl,hq _ m⟩
   have d1:¬c.toNat=110:=fun x=>c1 (bJ.2 x)
   by_cases c2:c=116
   ·have eM:jm s r=(9,r.step):=by simp only[jm,e,if_neg c1,if_pos c2]
    have d:c.toNat=116:=by rw[c2];rfl
    rw[eM]at hq;simp only;refine W2 hp ei'.symm ?_;exact⟨_,Sub.refl,hq _ m⟩
   have d2:¬c.toNat=116:=fun x=>c2 (bJ.2 x)
   by_cases c3:Ar c=true
   ·have eM:jm s r=(c,r.step.fail (r.i-1) 9):=by simp only[jm,e,if_neg c1,if_neg c2,if_pos c3]
    rw[eM]at hq;rcases(vZ c).1 c3 with k|k|k|k|k
    all_goals
     simp only;refine W2 hp ei'.symm ?_;refine iq (r:=r.step) m (r.i-1) 9 fun h2 R2=>?_;refine W0 ?_;exact⟨_,Sub.refl,hq _ R2⟩
   ·have eM:jm s r=(c,r.step):=by simp only[jm,e,if_neg c1,if_neg c2,if_neg c3]
    rw[eM]at hq;have k:=fun x=>c3 ((vZ c).2 x);simp only
    (have hI:c.toNat<32∨32≤c.toNat∧c.toNat<48∨48≤c.toNat∧c.toNat<58∨58≤c.toNat∧c.toNat<65∨65≤c.toNat∧c.toNat<91∨91≤c.toNat∧c.toNat<97∨97≤c.toNat∧c.toNat<123∨123≤c.toNat∧c.toNat<127∨127≤c.toNat:=(by omega));rcases hI with hI|hI|hI|hI|hI|hI|hI|hI|hI
    all_goals first
     |(exfalso;apply k;omega)
     | (refine W2 hp ei'.symm ?_
        exact⟨_,Sub.refl,hq _ m⟩)
end
section
open Mir
variable{h:H}{Q:V→H→Prop}{h0:H}{p:Nat}{s:Txt}{r:RS}
def jK(a b c d:Int):List V:=[.int .u64 a,.int .u64 b,.int .u64 c,.int .u64 d]
theorem MQ(a b c d:Int)(hq:∀a b c d,Q (.agg (jK a b c d)) h):AC pg (.fn 138) [.agg (jK a b c d)] h Q:=by
 refine AC.fn' (g:=Lr) rfl (by simp only[List.length_cons,List.length_nil,Lr];decide) ?_;simp only[Lr,Mir.Ab.all];unfold jK at hq⊢;refine W0 ?_;intro b1 hb1;refine W0 ?_;intro b2 hb2;have n:b1≠b2:=fun e=>by rw[e]at hb2 hb1;simp[hadd,hset]at hb2
 have hb2':h b2=none:=by rw[ae (Ne.symm n)]at hb2;exact hb2
 refine W2 n (Ne.symm n) ?_;exact⟨h,(fun x o hx=>by repeat (first|exact hx|rw[ae (af hb2' hx)]|rw[ae (af hb1 hx)])),hq _ _ _ _⟩
theorem vG(a b c d:Int)(k:UInt8)(hq:∀a b c d,Q (.agg (jK a b c d)) h):AC pg (.fn 140) [.agg (jK a b c d),.int .u8 k.toNat] h Q:=by
 refine AC.fn' (g:=Lu) rfl (by simp only[List.length_cons,List.length_nil,Lu];decide) ?_;simp only[Lu,Mir.Ab.all];unfold jK at hq⊢;refine W0 ?_;intro b1 hb1;refine W0 ?_;intro b2 hb2;have n:b1≠b2:=fun e=>by rw[e]at hb2 hb1;simp[hadd,hset]at hb2
 have hb2':h b2=none:=by rw[ae (Ne.symm n)]at hb2;exact hb2
 have hk:wO IntKind.u8 (↑k.toNat) 6=0∨wO IntKind.u8 (↑k.toNat) 6=1∨wO IntKind.u8 (↑k.toNat) 6=2∨wO IntKind.u8 (↑k.toNat) 6=3:=by
  have hlt:=k.toNat_lt;rw[show wO IntKind.u8 (↑k.toNat) 6=((k.toNat / 64:Nat):Int)from by
   unfold wO;rw[Int.fdiv_eq_ediv_of_nonneg _ (by decide)]
   show((k.toNat:Nat):Int) / 64=_
   omega]
  omega
 have hi:0≤Ir IntKind.u8 (↑k.toNat) 63:=by
  unfold Ir IntKind.wrap;have:∀n:Nat,(0:Int)≤(n:Int) % 256:=fun n=>by omega
  exact this _
 rcases hk with e|e|e|e
 all_goals
  refine W3 n (Ne.symm n) e ?_;exact⟨h,(fun x o hx=>by repeat (first|exact hx|rw[ae (af hb2' hx)]|rw[ae (af hb1 hx)])),hq _ _ _ _⟩
end

end Go.Proofs.YtkfbldogmgofoaaGreatDoor
