/-
  PARTS OF A PROOF, joined: an abstract machine for quiet code, its evaluation, and what the seat's functions answer on it. Conditions: none.
-/
import Derived.Test.YtjbgooldkkbdmaaDoorAbsA
namespace Go.Abs
def fm159:AFn:=.mk [.tmp 2] (
 .seq (.ops [M_ 2 (.val (.list [] (some none)))]) (.seq (.ops [S_ 3 (.alloc [(.list [] (some none))])]) (.seq (.ops [S_ 4 (.alloc [.nilFunc])]) (.seq (.ops [S_ 5 (.makeFunc 187 [] [T4,T3]),
 N_ (.store 1 T4 T5)]) (.seq (.ops [S_ 6 (.load1 T4),
 M_ 7 T0,
 S_ 8 (.hcall T6 [T7])]) (.seq (.ops [S_ 9 (.load1 T3),
 M_ 2 T9]) (.ret)))))))
def qfM:ACode :=
 .seq (.ops [S_ 30 (.bin .lss .none T29 T28)]) (.seq (.cond T30
 (.skip) (.exit 0)) (.seq (.block 1 (
 .seq (.ops [S_ 31 (.indexList 1 T27 T29),
 S_ 32 (.load1 T31),
 M_ 7 T32]) (.draw [S_ 33 (.field 3 T5),
 S_ 34 (.load1 T33),
 S_ 35 (.load1 T1),
 M_ 36 T7,
 S_ 37 (.hcall T35 [T36]),
 S_ 38 (.buildSlice 1 [T37]),
 S_ 39 (.append 1 8 T34 T38),
 S_ 40 (.field 3 T5),
 N_ (.store 1 T40 T39)]
 [(1,0,1)]))) (.ops [S_ 41 (.bin .add .none T29 (I_ 1)),
 M_ 29 T41])))
def qfN:ACode :=
 .seq (.ops [S_ 48 (.bin .lss .none T47 T46)]) (.seq (.cond T48
 (.skip) (.exit 2)) (.seq (.block 3 (
 .seq (.ops [S_ 49 (.indexList 2 T45 T47),
 S_ 50 (.loadN 2 T49),
 S_ 9 (.alloc [(.int .i64 0),(.list [] (some none))]),
 N_ (.store 2 T9 T50)]) (.draw [S_ 51 (.field 4 T5),
 S_ 52 (.load1 T51),
 S_ 53 (.field 0 T9),
 S_ 54 (.load1 T53),
 S_ 55 (.field 1 T9),
 S_ 56 (.load1 T55),
 S_ 57 (.pcall 188 [T56]),
 S_ 58 (.build [(.int .i64 0),(.list [] (some none))] [(0,1,T54),(1,1,T57)]),
 S_ 59 (.buildSlice 2 [T58]),
 S_ 60 (.append 2 32 T52 T59),
 S_ 61 (.field 4 T5),
 N_ (.store 1 T61 T60)]
 []))) (.ops [S_ 62 (.bin .add .none T47 (I_ 1)),
 M_ 47 T62])))
def fm187:AFn:=.mk [.tmp 4] (
 .seq (.ops [M_ 4 (I_ 0)]) (.seq (.draw [M_ 10 T0,
 S_ 11 (.nilCheck T10),
 S_ 12 (.field 0 T11),
 S_ 13 (.load1 T12),
 M_ 14 T0,
 S_ 15 (.nilCheck T14),
 S_ 16 (.field 1 T15),
 S_ 17 (.load1 T16),
 M_ 18 T0,
 S_ 19 (.nilCheck T18),
 S_ 20 (.field 2 T19),
 S_ 21 (.load1 T20),
 S_ 22 (.pcall 188 [T21]),
 S_ 23 (.build [(.int .i64 0),(.int .i64 0),(.list [] (some none)),(.list [] (some none)),(.list [] (some none))] [(0,1,T13),(1,1,T17),(2,1,T22)]),
 S_ 5 (.alloc [(.int .i64 0),(.int .i64 0),(.list [] (some none)),(.list [] (some none)),(.list [] (some none))]),
 N_ (.store 5 T5 T23)]
 [(3,0,1),(7,0,1),(11,0,1)]) (.seq (.seq (.ops [M_ 24 T0,
 S_ 25 (.nilCheck T24),
 S_ 26 (.field 3 T25),
 S_ 27 (.load1 T26),
 S_ 28 (.len .slice T27),
 M_ 29 (I_ 0)]) (.frame [1000000,0,2,5] (
 .block 0 (
 .gloop [1000000,0,1,2,5,27,28,29] qfM)))) (.seq (.seq (.ops [M_ 42 T0,
 S_ 43 (.nilCheck T42),
 S_ 44 (.field 4 T43),
 S_ 45 (.load1 T44),
 S_ 46 (.len .slice T45),
 M_ 47 (I_ 0)]) (.frame [1000000,2,5] (
 .block 2 (
 .gloop [1000000,2,5,45,46,47] qfN)))) (.seq (.ops [S_ 63 (.load1 T2),
 S_ 64 (.loadN 5 T5),
 S_ 65 (.buildSlice 5 [T64]),
 S_ 66 (.append 5 88 T63 T65),
 N_ (.store 1 T2 T66)]) (.seq (.ops [S_ 67 (.load1 T2),
 S_ 68 (.len .slice T67),
 S_ 69 (.bin .sub .none T68 (I_ 1)),
 M_ 4 T69]) (.ret)))))))
def qdy:ACode :=
 .seq (.ops [S_ 45 (.bin .lss .none T44 T43)]) (.seq (.cond T45
 (.skip) (.exit 2)) (.seq (.block 3 (
 .seq (.ops [S_ 46 (.indexList 1 T42 T44),
 S_ 47 (.load1 T46),
 M_ 11 T47]) (.seq (.ops [M_ 12 (I_ 2)]) (.seq (.block 4 (
 .seq (.ops [M_ 49 T5,
 S_ 50 (.nilCheck T49),
 S_ 51 (.field 0 T50),
 S_ 52 (.load1 T51),
 M_ 53 T11,
 S_ 54 (.lookup .int (.int .i64 0) false T52 T53),
 S_ 55 (.bin .eql .none T54 (I_ 0)),
 M_ 48 T55]) (.cond T48
 (.ops [M_ 12 (I_ 0)]) (.seq (.ops [M_ 57 T5,
 S_ 58 (.nilCheck T57),
 S_ 59 (.field 0 T58),
 S_ 60 (.load1 T59),
 M_ 61 T11,
 S_ 62 (.lookup .int (.int .i64 0) false T60 T61),
 S_ 63 (.bin .eql .none T62 (I_ 1)),
 M_ 64 T63,
 H_ 65 64 true T5,
 G_ 66 64 true (.nilCheck T65),
 G_ 67 64 true (.field 2 T66),
 G_ 68 64 true (.load1 T67),
 H_ 69 64 true T11,
 G_ 70 64 true (.lookup .int (.int .i64 0) false T68 T69),
 G_ 71 64 true (.bin .eql .none T70 (I_ 0)),
 S_ 72 (.pick T64 T71 B0_),
 M_ 56 T72]) (.cond T56
 (.ops [M_ 12 (I_ 1)]) (.skip)))))) (.ops [M_ 73 T7,
 M_ 74 T11,
 M_ 75 T12,
 S_ 76 (.build [(.int .i64 0),(.int .i64 0)] [(0,1,T74),(1,1,T75)]),
 S_ 77 (.buildSlice 2 [T76]),
 S_ 78 (.appendV 2 16 T73 T77),
 M_ 7 T78]))))) (.ops [S_ 79 (.bin .add .none T44 (I_ 1)),
 M_ 44 T79])))
def qfT:ACode :=
 .seq (.ops [S_ 31 (.bin .lss .none T30 T29)]) (.seq (.cond T31
 (.skip) (.exit 0)) (.seq (.block 1 (
 .seq (.ops [S_ 32 (.indexList 5 T28 T30),
 S_ 33 (.loadN 5 T32),
 S_ 9 (.alloc [(.int .i64 0),(.int .i64 0),(.list [] (some none)),(.list [] (some none)),(.list [] (some none))]),
 N_ (.store 5 T9 T33)]) (.seq (.ops [S_ 34 (.field 0 T9),
 S_ 35 (.load1 T34),
 S_ 36 (.field 2 T9),
 S_ 37 (.load1 T36),
 S_ 38 (.field 4 T9),
 S_ 39 (.load1 T38),
 S_ 40 (.build [(.int .i64 0),(.int .i64 0),(.list [] (some none)),(.list [] (some none)),(.list [] (some none))] [(0,1,T35),(2,1,T37),(4,1,T39)]),
 S_ 41 (.box T40),
 S_ 42 (.call (.val (.func 232 [] [])) [T41]),
 S_ 43 (.len .slice T42),
 M_ 44 (I_ 0)]) (.frame [1000000,5,7,28,29,30] (
 .block 2 (
 .gloop [1000000,5,7,28,29,30,42,43,44] qdy)))))) (.ops [S_ 80 (.bin .add .none T30 (I_ 1)),
 M_ 30 T80])))
def fn274:AFn:=.mk [.tmp 2,.tmp 3] (
 .seq (.ops [M_ 2 (.val (.list [] (some none))),
 M_ 3 (I_ 0)]) (.seq (.seq (.ops [M_ 13 T0,
 S_ 14 (.pcall 134 [T13]),
 M_ 4 T14]) (.seq (.ops [M_ 15 T4,
 S_ 16 (.bin .neq .none T15 (I_ 0))]) (.cond T16
 (.seq (.ops [M_ 17 T4,
 M_ 2 (.val (.list [] (some none))),
 M_ 3 T17]) (.ret)) (.skip)))) (.seq (.ops [S_ 18 (.makeMap),
 S_ 19 (.makeMap),
 S_ 20 (.makeMap),
 S_ 21 (.build [(.map none),(.map none),(.map none)] [(0,1,T18),(1,1,T19),(2,1,T20)]),
 S_ 22 (.box T21),
 M_ 5 T22]) (.seq (.ops [M_ 23 T0,
 S_ 24 (.pcall 160 [T23]),
 M_ 6 T24]) (.seq (.ops [M_ 25 T5,
 M_ 26 T6,
 S_ 27 (.call (.val (.func 285 [] [])) [T25,T26,(I_ 0)])]) (.seq (.ops [M_ 7 (.val (.list [] (some none)))]) (.seq (.seq (.ops [M_ 28 T0,
 S_ 29 (.len .slice T28),
 M_ 30 (I_ 0)]) (.frame [1000000,7] (
 .block 0 (
 .gloop [1000000,5,7,28,29,30] qfT)))) (.seq (.ops [M_ 81 T7,
 S_ 82 (.hcall (.val (.func 286 [] [])) [T81,(.val (.func 287 [] []))])]) (.seq (.ops [M_ 83 T7,
 M_ 2 T83,
 M_ 3 (I_ 0)]) (.ret))))))))))
def qtK:ACode :=
 .seq (.ops [S_ 14 (.bin .lss .none T13 T12)]) (.seq (.cond T14
 (.skip) (.exit 0)) (.seq (.block 1 (
 .seq (.ops [M_ 15 T13,
 M_ 5 T15]) (.seq (.draw [M_ 16 T0,
 M_ 17 T5,
 S_ 18 (.indexList 2 T16 T17),
 S_ 19 (.loadN 2 T18),
 M_ 20 T1,
 M_ 21 T5,
 S_ 22 (.indexList 2 T20 T21),
 S_ 23 (.loadN 2 T22),
 S_ 24 (.bin .neq (.arr 2) T19 T23)]
 []) (.cond T24
 (.seq (.ops [M_ 4 B0_]) (.ret)) (.skip))))) (.ops [S_ 25 (.bin .add .none T13 (I_ 1)),
 M_ 13 T25])))
def fn289:AFn:=.mk [.tmp 4] (
 .seq (.ops [M_ 4 B0_]) (.seq (.seq (.ops [M_ 6 T0,
 S_ 7 (.len .slice T6),
 M_ 8 T1,
 S_ 9 (.len .slice T8),
 S_ 10 (.bin .neq .none T7 T9)]) (.cond T10
 (.seq (.ops [M_ 4 B0_]) (.ret)) (.skip))) (.seq (.seq (.ops [M_ 11 T0,
 S_ 12 (.len .slice T11),
 M_ 13 (I_ 0)]) (.frame [4] (
 .block 0 (
 .gloop [0,1,12,13] qtK)))) (.seq (.ops [M_ 4 B1_]) (.ret)))))
end Go.Abs
