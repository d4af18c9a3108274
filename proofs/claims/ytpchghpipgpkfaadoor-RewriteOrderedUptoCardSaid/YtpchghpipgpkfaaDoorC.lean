/-
  PARTS OF A PROOF, joined: an abstract machine for quiet code, its evaluation, and what the seat's functions answer on it. Conditions: none.
-/
import Derived.Test.YtpchghpipgpkfaaDoorAbsA
namespace Go.Abs
def fn259:AFn:=.mk [.tmp 6] (
 .seq (.ops [M_ 6 B0_]) (.seq (.ops [M_ 7 T0,
 M_ 8 T1,
 S_ 9 (.bin .geq .none T7 T8),
 M_ 10 T9,
 H_ 11 10 true T0,
 H_ 12 10 true T2,
 G_ 13 10 true (.bin .leq .none T11 T12),
 S_ 14 (.pick T10 T13 B0_),
 M_ 6 T14]) (.ret)))
def fn191:AFn:=.mk [.tmp 2] (
 .seq (.ops [M_ 2 B0_]) (.seq (.ops [M_ 3 T0,
 S_ 4 (.bin .eql .none T3 (I_ 2)),
 M_ 5 T4,
 H_ 6 5 false T0,
 G_ 7 5 false (.bin .eql .none T6 (I_ 5)),
 S_ 8 (.pick T5 B1_ T7),
 M_ 9 T8,
 H_ 10 9 false T0,
 G_ 11 9 false (.bin .eql .none T10 (I_ 12)),
 S_ 12 (.pick T9 B1_ T11),
 M_ 13 T12,
 H_ 14 13 false T0,
 G_ 15 13 false (.bin .eql .none T14 (I_ 13)),
 S_ 16 (.pick T13 B1_ T15),
 M_ 2 T16]) (.ret)))
def fn192:AFn:=.mk [.tmp 2] (
 .seq (.ops [M_ 2 B0_]) (.seq (.ops [M_ 3 T0,
 S_ 4 (.bin .eql .none T3 (I_ 14)),
 M_ 5 T4,
 H_ 6 5 false T0,
 G_ 7 5 false (.bin .eql .none T6 (I_ 15)),
 S_ 8 (.pick T5 B1_ T7),
 M_ 9 T8,
 H_ 10 9 false T0,
 G_ 11 9 false (.bin .eql .none T10 (I_ 16)),
 S_ 12 (.pick T9 B1_ T11),
 M_ 2 T12]) (.ret)))
def fn151:AFn:=.mk [.tmp 4] (
 .seq (.ops [M_ 4 B0_]) (.seq (.ops [M_ 5 T0,
 M_ 6 T1,
 S_ 7 (.pcall 181 [T5,T6]),
 S_ 8 (.bin .geq .none T7 (I_ 0)),
 M_ 4 T8]) (.ret)))
def qif:ACode :=
 .seq (.ops [S_ 9 (.bin .lss .none T8 T7)]) (.seq (.cond T9
 (.skip) (.exit 0)) (.seq (.block 1 (
 .seq (.ops [M_ 10 T8,
 M_ 5 T10]) (.seq (.ops [M_ 11 T1,
 M_ 12 T0,
 M_ 13 T5,
 S_ 14 (.indexList 1 T12 T13),
 S_ 15 (.load1 T14),
 S_ 16 (.bin .eql .none T11 T15)]) (.cond T16
 (.seq (.ops [M_ 17 T5,
 M_ 4 T17]) (.ret)) (.skip))))) (.ops [S_ 18 (.bin .add .none T8 (I_ 1)),
 M_ 8 T18])))
def fn181:AFn:=.mk [.tmp 4] (
 .seq (.ops [M_ 4 (I_ 0)]) (.seq (.seq (.ops [M_ 6 T0,
 S_ 7 (.len .slice T6),
 M_ 8 (I_ 0)]) (.frame [4] (
 .block 0 (
 .gloop [0,1,7,8] qif)))) (.seq (.ops [M_ 4 (I_ (-1))]) (.ret))))
def qic:ACode :=
 .seq (.ops [S_ 14 (.bin .lss .none T13 T12)]) (.seq (.cond T14
 (.skip) (.exit 0)) (.seq (.block 1 (
 .seq (.ops [M_ 15 T13,
 M_ 5 T15]) (.seq (.draw [M_ 16 T0,
 M_ 17 T5,
 S_ 18 (.indexList 1 T16 T17),
 S_ 19 (.load1 T18),
 M_ 20 T1,
 M_ 21 T5,
 S_ 22 (.indexList 1 T20 T21),
 S_ 23 (.load1 T22),
 S_ 24 (.bin .neq .none T19 T23)]
 []) (.cond T24
 (.seq (.ops [M_ 4 B0_]) (.ret)) (.skip))))) (.ops [S_ 25 (.bin .add .none T13 (I_ 1)),
 M_ 13 T25])))
def fn139:AFn:=.mk [.tmp 4] (
 .seq (.ops [M_ 4 B0_]) (.seq (.seq (.ops [M_ 6 T0,
 S_ 7 (.len .slice T6),
 M_ 8 T1,
 S_ 9 (.len .slice T8),
 S_ 10 (.bin .neq .none T7 T9)]) (.cond T10
 (.seq (.ops [M_ 4 B0_]) (.ret)) (.skip))) (.seq (.seq (.ops [M_ 11 T0,
 S_ 12 (.len .slice T11),
 M_ 13 (I_ 0)]) (.frame [4] (
 .block 0 (
 .gloop [0,1,12,13] qic)))) (.seq (.ops [M_ 4 B1_]) (.ret)))))
def qid:ACode :=
 .seq (.ops [S_ 14 (.bin .lss .none T13 T12)]) (.seq (.cond T14
 (.skip) (.exit 0)) (.seq (.block 1 (
 .seq (.ops [M_ 15 T13,
 M_ 5 T15]) (.seq (.draw [M_ 16 T0,
 M_ 17 T5,
 S_ 18 (.indexList 1 T16 T17),
 S_ 19 (.load1 T18),
 M_ 20 T1,
 M_ 21 T5,
 S_ 22 (.indexList 1 T20 T21),
 S_ 23 (.load1 T22),
 S_ 24 (.bin .neq .none T19 T23)]
 []) (.cond T24
 (.seq (.ops [M_ 4 B0_]) (.ret)) (.skip))))) (.ops [S_ 25 (.bin .add .none T13 (I_ 1)),
 M_ 13 T25])))
def fn163:AFn:=.mk [.tmp 4] (
 .seq (.ops [M_ 4 B0_]) (.seq (.seq (.ops [M_ 6 T0,
 S_ 7 (.len .slice T6),
 M_ 8 T1,
 S_ 9 (.len .slice T8),
 S_ 10 (.bin .neq .none T7 T9)]) (.cond T10
 (.seq (.ops [M_ 4 B0_]) (.ret)) (.skip))) (.seq (.seq (.ops [M_ 11 T0,
 S_ 12 (.len .slice T11),
 M_ 13 (I_ 0)]) (.frame [4] (
 .block 0 (
 .gloop [0,1,12,13] qid)))) (.seq (.ops [M_ 4 B1_]) (.ret)))))
def qd7:ACode :=
 .seq (.ops [S_ 37 (.bin .lss .none T36 T35)]) (.seq (.cond T37
 (.skip) (.exit 0)) (.seq (.block 1 (
 .seq (.ops [S_ 38 (.indexList 2 T34 T36),
 S_ 39 (.loadN 2 T38),
 S_ 5 (.alloc [(.int .i64 0),(.list [] (some none))]),
 N_ (.store 2 T5 T39)]) (.ops [M_ 40 T3,
 S_ 41 (.field 1 T5),
 S_ 42 (.load1 T41),
 S_ 43 (.append 1 8 T40 T42),
 M_ 3 T43]))) (.ops [S_ 44 (.bin .add .none T36 (I_ 1)),
 M_ 36 T44])))
def qi1:ACode :=
 (.seq (.seq (.ops [M_ 31 T0,
 S_ 32 (.nilCheck T31),
 S_ 33 (.field 4 T32),
 S_ 34 (.load1 T33),
 S_ 35 (.len .slice T34),
 M_ 36 (I_ 0)]) (.frame [3] (
 .block 0 (
 .gloop [3,34,35,36] qd7)))) (.seq (.ops [M_ 45 T3,
 M_ 2 T45]) (.ret)))
def quF:ACode :=
 (.ops [M_ 25 T3,
 M_ 26 T0,
 S_ 27 (.nilCheck T26),
 S_ 28 (.field 2 T27),
 S_ 29 (.load1 T28),
 S_ 30 (.append 1 8 T25 T29),
 M_ 3 T30])
def fn232:AFn:=.mk [.tmp 2] (
 .seq (.ops [M_ 2 (.val (.list [] (some none)))]) (.seq (.ops [M_ 3 (.val (.list [] (some none)))]) (.seq (.seq (.ops [M_ 6 T0,
 S_ 7 (.nilCheck T6),
 S_ 8 (.field 0 T7),
 S_ 9 (.load1 T8),
 S_ 10 (.bin .eql .none T9 (I_ 2)),
 M_ 11 T10,
 H_ 12 11 false T0,
 G_ 13 11 false (.nilCheck T12),
 G_ 14 11 false (.field 0 T13),
 G_ 15 11 false (.load1 T14),
 G_ 16 11 false (.bin .eql .none T15 (I_ 4)),
 S_ 17 (.pick T11 B1_ T16),
 M_ 18 T17,
 H_ 19 18 false T0,
 G_ 20 18 false (.nilCheck T19),
 G_ 21 18 false (.field 0 T20),
 G_ 22 18 false (.load1 T21),
 G_ 23 18 false (.bin .eql .none T22 (I_ 5)),
 S_ 24 (.pick T18 B1_ T23)]) (.cond T24
 quF
 (.skip)))
 qi1)))
def fn236:AFn:=.mk [.tmp 4] (
 .seq (.ops [M_ 4 (.val (.list [] (some none)))]) (.seq (.block 0 (
 .seq (.seq (.ops [M_ 6 T0,
 S_ 7 (.nilCheck T6),
 S_ 8 (.field 0 T7),
 S_ 9 (.load1 T8),
 S_ 10 (.bin .eql .none T9 (I_ 2)),
 M_ 5 T10]) (.cond T5
 (.skip) (.seq (.ops [M_ 11 T0,
 S_ 12 (.nilCheck T11),
 S_ 13 (.field 0 T12),
 S_ 14 (.load1 T13),
 S_ 15 (.bin .eql .none T14 (I_ 5)),
 M_ 5 T15]) (.cond T5
 (.skip) (.ops [M_ 16 T0,
 S_ 17 (.nilCheck T16),
 S_ 18 (.field 0 T17),
 S_ 19 (.load1 T18),
 S_ 20 (.bin .eql .none T19 (I_ 4)),
 M_ 21 T20,
 H_ 22 21 true T1,
 G_ 23 21 true (.bin .eql .none T22 (I_ 1)),
 S_ 24 (.pick T21 T23 B0_),
 M_ 5 T24]))))) (.cond T5
 (.seq (.ops [M_ 25 T0,
 S_ 26 (.nilCheck T25),
 S_ 27 (.field 2 T26),
 S_ 28 (.load1 T27),
 M_ 4 T28]) (.ret)) (.seq (.ops [M_ 30 T0,
 S_ 31 (.nilCheck T30),
 S_ 32 (.field 4 T31),
 S_ 33 (.load1 T32),
 S_ 34 (.len .slice T33),
 S_ 35 (.bin .gtr .none T34 (I_ 0)),
 M_ 36 T35,
 H_ 37 36 true T1,
 G_ 38 36 true (.bin .gtr .none T37 (I_ 0)),
 S_ 39 (.pick T36 T38 B0_),
 M_ 40 T39,
 H_ 41 40 true T1,
 H_ 42 40 true T0,
 G_ 43 40 true (.nilCheck T42),
 G_ 44 40 true (.field 4 T43),
 G_ 45 40 true (.load1 T44),
 G_ 46 40 true (.len .slice T45),
 G_ 47 40 true (.bin .leq .none T41 T46),
 S_ 48 (.pick T40 T47 B0_),
 M_ 29 T48]) (.cond T29
 (.seq (.ops [M_ 49 T0,
 S_ 50 (.nilCheck T49),
 S_ 51 (.field 4 T50),
 S_ 52 (.load1 T51),
 M_ 53 T1,
 S_ 54 (.bin .sub .none T53 (I_ 1)),
 S_ 55 (.indexList 2 T52 T54),
 S_ 56 (.field 1 T55),
 S_ 57 (.load1 T56),
 M_ 4 T57]) (.ret)) (.skip)))))) (.seq (.ops [M_ 4 (.val (.list [] (some none)))]) (.ret))))
def qhI:ACode :=
 (.seq (.ops [S_ 87 (.field 3 T1),
 S_ 88 (.load1 T87),
 S_ 89 (.len .slice T88),
 M_ 90 T3,
 S_ 91 (.bin .eql .none T89 T90),
 M_ 92 T91,
 G_ 93 92 true (.field 2 T1),
 G_ 94 92 true (.load1 T93),
 G_ 95 92 true (.len .slice T94),
 H_ 96 92 true T4,
 G_ 97 92 true (.bin .eql .none T95 T96),
 S_ 98 (.pick T92 T97 B0_),
 M_ 99 T98,
 G_ 100 99 true (.field 4 T1),
 G_ 101 99 true (.load1 T100),
 G_ 102 99 true (.len .slice T101),
 G_ 103 99 true (.bin .eql .none T102 (I_ 0)),
 S_ 104 (.pick T99 T103 B0_),
 M_ 105 T104,
 H_ 106 105 true T5,
 H_ 107 105 true T106,
 G_ 108 107 false (.field 1 T1),
 G_ 109 107 false (.load1 T108),
 G_ 110 107 false (.bin .eql .none T109 (I_ 0)),
 G_ 111 105 true (.pick T107 B1_ T110),
 S_ 112 (.pick T105 T111 B0_),
 M_ 2 T112]) (.ret))
def fn234:AFn:=.mk [.tmp 2] (
 .seq (.ops [S_ 1 (.box T0),
 M_ 2 B0_]) (.seq (.ops [M_ 3 (I_ 0),
 M_ 4 (I_ 0),
 M_ 5 B0_]) (.seq (.seq (.ops [S_ 6 (.field 0 T1),
 S_ 7 (.load1 T6)]) (.block 0 (
 .seq (.seq (.ops [S_ 9 (.bin .eql .none T7 (I_ 0)),
 M_ 8 T9]) (.cond T8
 (.skip) (.seq (.ops [S_ 10 (.bin .eql .none T7 (I_ 1)),
 M_ 8 T10]) (.cond T8
 (.skip) (.ops [S_ 11 (.bin .eql .none T7 (I_ 17)),
 M_ 8 T11]))))) (.cond T8
 (.ops [M_ 5 B1_]) (.seq (.ops [S_ 13 (.bin .eql .none T7 (I_ 2)),
 M_ 12 T13]) (.cond T12
 (.draw [S_ 14 (.field 2 T1),
 S_ 15 (.load1 T14),
 S_ 16 (.len .slice T15),
 M_ 3 (I_ 1),
 M_ 4 T16] []) (.seq (.ops [S_ 18 (.bin .eql .none T7 (I_ 3)),
 M_ 17 T18]) (.cond T17
 (.ops [S_ 19 (.field 3 T1),
 S_ 20 (.load1 T19),
 S_ 21 (.len .slice T20),
 S_ 22 (.minMax true [(I_ 1),T21]),
 M_ 3 T22]) (.seq (.ops [S_ 24 (.bin .eql .none T7 (I_ 4)),
 M_ 23 T24]) (.cond T23
 (.ops [M_ 3 (I_ 2),
 M_ 4 (I_ 1)]) (.seq (.ops [S_ 26 (.bin .eql .none T7 (I_ 5)),
 M_ 25 T26]) (.cond T25
 (.draw [S_ 27 (.field 2 T1),
 S_ 28 (.load1 T27),
 S_ 29 (.len .slice T28),
 S_ 30 (.bin .add .none T29 (I_ 1)),
 S_ 31 (.field 2 T1),
 S_ 32 (.load1 T31),
 S_ 33 (.len .slice T32),
 S_ 34 (.minMax true [(I_ 1),T33]),
 M_ 3 T30,
 M_ 4 T34] []) (.seq (.ops [S_ 36 (.bin .eql .none T7 (I_ 6)),
 M_ 35 T36]) (.cond T35
 (.ops [S_ 37 (.field 3 T1),
 S_ 38 (.load1 T37),
 S_ 39 (.len .slice T38),
 M_ 3 T39,
 M_ 5 B1_]) (.seq (.seq (.ops [S_ 41 (.bin .eql .none T7 (I_ 7)),
 M_ 40 T41]) (.cond T40
 (.skip) (.ops [S_ 42 (.bin .eql .none T7 (I_ 13)),
 M_ 40 T42]))) (.cond T40
 (.seq (.ops [S_ 43 (.loadN 5 T1),
 S_ 44 (.pcall 258 [T43]),
 M_ 45 T44,
 G_ 46 45 true (.field 2 T1),
 G_ 47 45 true (.load1 T46),
 G_ 48 45 true (.len .slice T47),
 G_ 49 45 true (.bin .eql .none T48 (I_ 0)),
 S_ 50 (.pick T45 T49 B0_),
 M_ 51 T50,
 G_ 52 51 true (.field 1 T1),
 G_ 53 51 true (.load1 T52),
 G_ 54 51 true (.bin .eql .none T53 (I_ 0)),
 S_ 55 (.pick T51 T54 B0_),
 M_ 2 T55]) (.ret)) (.seq (.ops [S_ 57 (.bin .eql .none T7 (I_ 8)),
 M_ 56 T57]) (.cond T56
 (.seq (.seq (.ops [S_ 58 (.field 1 T1),
 S_ 59 (.load1 T58),
 S_ 60 (.pcall 259 [T59,(I_ 0),(I_ 11)]),
 S_ 61 (.un .not T60)]) (.cond T61
 (.seq (.ops [M_ 2 B0_]) (.ret)) (.skip))) (.ops [S_ 62 (.field 1 T1),
 S_ 63 (.load1 T62),
 S_ 64 (.indexArr 12 1 (.val (.vptr [(.int .i64 2),(.int .i64 2),(.int .i64 2),(.int .i64 2),(.int .i64 2),(.int .i64 2),(.int .i64 2),(.int .i64 1),(.int .i64 2),(.int .i64 1),(.int .i64 2),(.int .i64 3)] 0)) T63),
 S_ 65 (.load1 T64),
 M_ 3 T65,
 M_ 5 B1_])) (.seq (.ops [S_ 67 (.bin .eql .none T7 (I_ 9)),
 M_ 66 T67]) (.cond T66
 (.draw [S_ 68 (.field 2 T1),
 S_ 69 (.load1 T68),
 S_ 70 (.len .slice T69),
 S_ 71 (.field 2 T1),
 S_ 72 (.load1 T71),
 S_ 73 (.len .slice T72),
 M_ 3 T70,
 M_ 4 T73] []) (.seq (.seq (.ops [S_ 75 (.bin .eql .none T7 (I_ 10)),
 M_ 74 T75]) (.cond T74
 (.skip) (.ops [S_ 76 (.bin .eql .none T7 (I_ 12)),
 M_ 74 T76]))) (.cond T74
 (.ops [M_ 3 (I_ 1),
 M_ 5 B1_]) (.seq (.ops [S_ 78 (.bin .eql .none T7 (I_ 11)),
 M_ 77 T78]) (.cond T77
 (.ops [M_ 3 (I_ 2),
 M_ 5 B1_]) (.seq (.seq (.ops [S_ 80 (.bin .eql .none T7 (I_ 14)),
 M_ 79 T80]) (.cond T79
 (.skip) (.ops [S_ 81 (.bin .eql .none T7 (I_ 15)),
 M_ 79 T81]))) (.cond T79
 (.ops [S_ 82 (.field 3 T1),
 S_ 83 (.load1 T82),
 S_ 84 (.len .slice T83),
 M_ 3 T84,
 M_ 5 B1_]) (.seq (.ops [S_ 86 (.bin .eql .none T7 (I_ 16)),
 M_ 85 T86]) (.cond T85
 (.ops [M_ 3 (I_ 1),
 M_ 5 B1_]) (.seq (.ops [M_ 2 B0_]) (.ret))))))))))))))))))))))))))))))
 qhI)))
def qih:ACode :=
 .seq (.ops [S_ 36 (.bin .lss .none T35 T34)]) (.seq (.cond T36
 (.skip) (.exit 1)) (.seq (.block 2 (
 .seq (.ops [S_ 37 (.indexList 1 T33 T35),
 S_ 38 (.load1 T37),
 M_ 7 T38]) (.seq (.ops [M_ 39 T7,
 S_ 40 (.pcall 259 [T39,(I_ 0),(I_ 1048575)]),
 S_ 41 (.un .not T40)]) (.cond T41
 (.seq (.ops [M_ 2 (I_ 4)]) (.ret)) (.skip))))) (.ops [S_ 42 (.bin .add .none T35 (I_ 1)),
 M_ 35 T42])))
def qii:ACode :=
 .seq (.ops [S_ 67 (.bin .lss .none T66 T65)]) (.seq (.cond T67
 (.skip) (.exit 5)) (.seq (.block 6 (
 .seq (.ops [S_ 68 (.indexList 1 T64 T66),
 S_ 69 (.load1 T68),
 M_ 11 T69]) (.seq (.ops [M_ 70 T11,
 S_ 71 (.pcall 259 [T70,(I_ 0),(I_ 1048575)]),
 S_ 72 (.un .not T71)]) (.cond T72
 (.seq (.ops [M_ 2 (I_ 4)]) (.ret)) (.skip))))) (.ops [S_ 73 (.bin .add .none T66 (I_ 1)),
 M_ 66 T73])))
def qeK:ACode :=
 .seq (.ops [S_ 47 (.bin .lss .none T46 T45)]) (.seq (.cond T47
 (.skip) (.exit 3)) (.seq (.block 4 (
 .seq (.ops [S_ 48 (.indexList 2 T44 T46),
 S_ 49 (.loadN 2 T48),
 S_ 9 (.alloc [(.int .i64 0),(.list [] (some none))]),
 N_ (.store 2 T9 T49)]) (.seq (.seq (.ops [S_ 50 (.field 0 T9),
 S_ 51 (.load1 T50),
 S_ 52 (.bin .gtr .none T51 (I_ 255)),
 M_ 53 T52,
 G_ 54 53 true (.field 0 T1),
 G_ 55 53 true (.load1 T54),
 G_ 56 53 true (.bin .eql .none T55 (I_ 7)),
 S_ 57 (.pick T53 T56 B0_),
 M_ 58 T57,
 G_ 59 58 false (.field 0 T9),
 G_ 60 58 false (.load1 T59),
 G_ 61 58 false (.bin .geq .none T60 (I_ 1048576)),
 S_ 62 (.pick T58 B1_ T61)]) (.cond T62
 (.seq (.ops [M_ 2 (I_ 4)]) (.ret)) (.skip))) (.seq (.seq (.ops [S_ 63 (.field 1 T9),
 S_ 64 (.load1 T63),
 S_ 65 (.len .slice T64),
 M_ 66 (I_ 0)]) (.frame [1,2,5,9,44,45,46] (
 .block 5 (
 .gloop [1,5,9,44,45,46,64,65,66] qii)))) (.ops [M_ 74 T5,
 S_ 75 (.field 1 T9),
 S_ 76 (.load1 T75),
 S_ 77 (.len .slice T76),
 S_ 78 (.minMax true [T74,T77]),
 M_ 5 T78]))))) (.ops [S_ 79 (.bin .add .none T46 (I_ 1)),
 M_ 46 T79])))
def qj8:ACode :=
 (.seq (.ops [M_ 12 (I_ 16)]) (.seq (.seq (.ops [S_ 80 (.field 0 T1),
 S_ 81 (.load1 T80),
 S_ 82 (.bin .eql .none T81 (I_ 2))]) (.cond T82
 (.ops [M_ 12 (I_ 6)]) (.skip))) (.seq (.seq (.ops [M_ 83 T5,
 M_ 84 T12,
 S_ 85 (.bin .gtr .none T83 T84),
 M_ 86 T85,
 G_ 87 86 false (.field 0 T1),
 G_ 88 86 false (.load1 T87),
 G_ 89 86 false (.bin .eql .none T88 (I_ 6)),
 H_ 90 86 false T89,
 G_ 91 90 false (.field 0 T1),
 G_ 92 90 false (.load1 T91),
 G_ 93 90 false (.bin .eql .none T92 (I_ 15)),
 G_ 94 86 false (.pick T90 B1_ T93),
 H_ 95 86 false T94,
 G_ 96 95 true (.field 3 T1),
 G_ 97 95 true (.load1 T96),
 G_ 98 95 true (.len .slice T97),
 G_ 99 95 true (.bin .gtr .none T98 (I_ 16)),
 G_ 100 86 false (.pick T95 T99 B0_),
 S_ 101 (.pick T86 B1_ T100),
 M_ 102 T101,
 G_ 103 102 false (.field 0 T1),
 G_ 104 102 false (.load1 T103),
 G_ 105 102 false (.bin .eql .none T104 (I_ 3)),
 H_ 106 102 false T105,
 G_ 107 106 true (.field 3 T1),
 G_ 108 106 true (.load1 T107),
 G_ 109 106 true (.len .slice T108),
 G_ 110 106 true (.bin .gtr .none T109 (I_ 7)),
 G_ 111 102 false (.pick T106 T110 B0_),
 S_ 112 (.pick T102 B1_ T111),
 M_ 113 T112,
 G_ 114 113 false (.field 0 T1),
 G_ 115 113 false (.load1 T114),
 G_ 116 113 false (.bin .eql .none T115 (I_ 14)),
 H_ 117 113 false T116,
 G_ 118 117 true (.field 3 T1),
 G_ 119 117 true (.load1 T118),
 G_ 120 117 true (.len .slice T119),
 G_ 121 117 true (.bin .gtr .none T120 (I_ 6)),
 G_ 122 113 false (.pick T117 T121 B0_),
 S_ 123 (.pick T113 B1_ T122)]) (.cond T123
 (.seq (.ops [M_ 2 (I_ 2)]) (.ret)) (.skip))) (.seq (.ops [M_ 2 (I_ 0)]) (.ret)))))
def qhJ:ACode :=
 (.seq (.seq (.ops [S_ 23 (.field 1 T1),
 S_ 24 (.load1 T23),
 M_ 25 T4,
 M_ 26 T3,
 S_ 27 (.pcall 259 [T24,T25,T26]),
 S_ 28 (.un .not T27)]) (.cond T28
 (.seq (.ops [M_ 2 (I_ 4)]) (.ret)) (.skip))) (.seq (.ops [S_ 29 (.field 2 T1),
 S_ 30 (.load1 T29),
 S_ 31 (.len .slice T30),
 M_ 5 T31]) (.seq (.seq (.ops [S_ 32 (.field 2 T1),
 S_ 33 (.load1 T32),
 S_ 34 (.len .slice T33),
 M_ 35 (I_ 0)]) (.frame [1,2,5] (
 .block 1 (
 .gloop [1,5,33,34,35] qih)))) (.seq (.seq (.ops [S_ 43 (.field 4 T1),
 S_ 44 (.load1 T43),
 S_ 45 (.len .slice T44),
 M_ 46 (I_ 0)]) (.frame [1,2,5] (
 .block 3 (
 .gloop [1,5,44,45,46] qeK))))
 qj8))))
def fn235:AFn:=.mk [.tmp 2] (
 .seq (.ops [S_ 1 (.box T0),
 M_ 2 (I_ 0)]) (.seq (.ops [M_ 3 (I_ 1048575)]) (.seq (.ops [M_ 4 (I_ 0)]) (.seq (.seq (.ops [S_ 13 (.field 0 T1),
 S_ 14 (.load1 T13)]) (.block 0 (
 .seq (.ops [S_ 16 (.bin .eql .none T14 (I_ 1)),
 M_ 15 T16]) (.cond T15
 (.ops [M_ 4 (I_ (-1073741824)),
 M_ 3 (I_ 1073741823)]) (.seq (.ops [S_ 18 (.bin .eql .none T14 (I_ 6)),
 M_ 17 T18]) (.cond T17
 (.ops [M_ 3 (I_ 255)]) (.seq (.ops [S_ 20 (.bin .eql .none T14 (I_ 17)),
 M_ 19 T20]) (.cond T19
 (.ops [M_ 4 (I_ 1),
 M_ 3 (I_ 6)]) (.seq (.ops [S_ 22 (.bin .eql .none T14 (I_ 16)),
 M_ 21 T22]) (.cond T21
 (.ops [M_ 3 (I_ 15)]) (.skip)))))))))))
 qhJ))))
def qcX:ACode :=
 .seq (.ops [S_ 10 (.bin .lss .none T9 T8)]) (.seq (.cond T10
 (.skip) (.exit 0)) (.seq (.block 1 (
 .seq (.ops [M_ 11 T9,
 S_ 12 (.indexList 2 T7 T9),
 S_ 13 (.loadN 2 T12),
 S_ 4 (.alloc [(.int .i64 0),(.list [] (some none))]),
 M_ 3 T11,
 N_ (.store 2 T4 T13)]) (.seq (.freeze 4 (
 .ops [S_ 14 (.field 4 T1),
 S_ 15 (.load1 T14),
 M_ 16 T3,
 S_ 17 (.slice 2 T15 none (some T16) none),
 S_ 18 (.makeFunc 265 [] [T4]),
 S_ 19 (.call (.val (.func 264 [] [])) [T17,T18]),
 M_ 5 T19])) (.block 2 (
 .seq (.ops [M_ 21 T5,
 M_ 22 T21,
 G_ 23 22 false (.field 0 T4),
 G_ 24 22 false (.load1 T23),
 G_ 25 22 false (.bin .lss .none T24 (I_ (-1))),
 S_ 26 (.pick T22 B1_ T25),
 M_ 20 T26]) (.cond T20
 (.seq (.ops [M_ 2 B0_]) (.ret)) (.seq (.ops [S_ 28 (.field 0 T1),
 S_ 29 (.load1 T28),
 S_ 30 (.bin .eql .none T29 (I_ 7)),
 M_ 31 T30,
 G_ 32 31 true (.field 0 T4),
 G_ 33 31 true (.load1 T32),
 G_ 34 31 true (.bin .eql .none T33 (I_ (-1))),
 S_ 35 (.pick T31 T34 B0_),
 M_ 36 T35,
 H_ 37 36 true T3,
 G_ 38 36 true (.field 4 T1),
 G_ 39 36 true (.load1 T38),
 G_ 40 36 true (.len .slice T39),
 G_ 41 36 true (.bin .sub .none T40 (I_ 1)),
 G_ 42 36 true (.bin .lss .none T37 T41),
 H_ 43 36 true T42,
 G_ 44 43 false (.field 1 T4),
 G_ 45 43 false (.load1 T44),
 G_ 46 43 false (.len .slice T45),
 G_ 47 43 false (.bin .gtr .none T46 (I_ 0)),
 G_ 48 36 true (.pick T43 B1_ T47),
 S_ 49 (.pick T36 T48 B0_),
 M_ 27 T49]) (.cond T27
 (.seq (.ops [M_ 2 B0_]) (.ret)) (.seq (.seq (.ops [S_ 51 (.field 0 T1),
 S_ 52 (.load1 T51),
 S_ 53 (.bin .eql .none T52 (I_ 13)),
 M_ 54 T53,
 H_ 55 54 true T3,
 G_ 56 54 true (.bin .eql .none T55 (I_ 0)),
 G_ 57 54 true (.field 0 T4),
 G_ 58 54 true (.load1 T57),
 G_ 59 54 true (.bin .eql .none T58 (I_ (-1))),
 G_ 60 54 true (.bin .neq .bool T56 T59),
 S_ 61 (.pick T54 T60 B0_),
 M_ 50 T61]) (.cond T50
 (.skip) (.ops [S_ 62 (.field 0 T1),
 S_ 63 (.load1 T62),
 S_ 64 (.bin .eql .none T63 (I_ 13)),
 M_ 65 T64,
 G_ 66 65 true (.field 1 T4),
 G_ 67 65 true (.load1 T66),
 G_ 68 65 true (.len .slice T67),
 H_ 69 65 true T3,
 G_ 70 65 true (.bin .add .none T69 (I_ 1)),
 G_ 71 65 true (.minMax false [T70,(I_ 2)]),
 G_ 72 65 true (.bin .neq .none T68 T71),
 S_ 73 (.pick T65 T72 B0_),
 M_ 50 T73]))) (.cond T50
 (.seq (.ops [M_ 2 B0_]) (.ret)) (.skip))))))))))) (.ops [S_ 74 (.bin .add .none T9 (I_ 1)),
 M_ 9 T74])))
def fn258:AFn:=.mk [.tmp 2] (
 .seq (.ops [S_ 1 (.box T0),
 M_ 2 B0_]) (.seq (.seq (.ops [S_ 6 (.field 4 T1),
 S_ 7 (.load1 T6),
 S_ 8 (.len .slice T7),
 M_ 9 (I_ 0)]) (.frame [1,2] (
 .block 0 (
 .gloop [1,7,8,9] qcX)))) (.seq (.ops [S_ 75 (.field 3 T1),
 S_ 76 (.load1 T75),
 S_ 77 (.len .slice T76),
 S_ 78 (.field 4 T1),
 S_ 79 (.load1 T78),
 S_ 80 (.len .slice T79),
 S_ 81 (.bin .add .none (I_ 1) T80),
 S_ 82 (.bin .eql .none T77 T81),
 M_ 83 T82,
 G_ 84 83 true (.field 0 T1),
 G_ 85 83 true (.load1 T84),
 G_ 86 83 true (.bin .eql .none T85 (I_ 7)),
 H_ 87 83 true T86,
 G_ 88 87 false (.field 4 T1),
 G_ 89 87 false (.load1 T88),
 G_ 90 87 false (.len .slice T89),
 G_ 91 87 false (.bin .gtr .none T90 (I_ 0)),
 G_ 92 83 true (.pick T87 B1_ T91),
 S_ 93 (.pick T83 T92 B0_),
 M_ 2 T93]) (.ret))))
def fn264:AFn:=.mk [.tmp 4] (
 .seq (.ops [M_ 4 B0_]) (.seq (.ops [M_ 5 T0,
 M_ 6 T1,
 S_ 7 (.call (.val (.func 266 [] [])) [T5,T6]),
 S_ 8 (.bin .geq .none T7 (I_ 0)),
 M_ 4 T8]) (.ret)))
def fn265:AFn:=.mk [.tmp 3] (
 .seq (.ops [S_ 2 (.box T0),
 M_ 3 B0_]) (.seq (.ops [S_ 4 (.field 0 T2),
 S_ 5 (.load1 T4),
 S_ 6 (.field 0 T1),
 S_ 7 (.load1 T6),
 S_ 8 (.bin .eql .none T5 T7),
 M_ 3 T8]) (.ret)))
def qil:ACode :=
 .seq (.ops [S_ 9 (.bin .lss .none T8 T7)]) (.seq (.cond T9
 (.skip) (.exit 0)) (.seq (.block 1 (
 .seq (.ops [M_ 10 T8,
 M_ 5 T10]) (.seq (.ops [M_ 11 T1,
 M_ 12 T0,
 M_ 13 T5,
 S_ 14 (.indexList 2 T12 T13),
 S_ 15 (.loadN 2 T14),
 S_ 16 (.call T11 [T15])]) (.cond T16
 (.seq (.ops [M_ 17 T5,
 M_ 4 T17]) (.ret)) (.skip))))) (.ops [S_ 18 (.bin .add .none T8 (I_ 1)),
 M_ 8 T18])))
def fn266:AFn:=.mk [.tmp 4] (
 .seq (.ops [M_ 4 (I_ 0)]) (.seq (.seq (.ops [M_ 6 T0,
 S_ 7 (.len .slice T6),
 M_ 8 (I_ 0)]) (.frame [4] (
 .block 0 (
 .gloop [0,1,7,8] qil)))) (.seq (.ops [M_ 4 (I_ (-1))]) (.ret))))
def qeJ:ACode :=
 .seq (.ops [S_ 19 (.bin .lss .none T18 T17)]) (.seq (.cond T19
 (.skip) (.exit 0)) (.seq (.block 1 (
 .seq (.ops [M_ 20 T18,
 M_ 6 T20]) (.seq (.draw [S_ 21 (.field 0 T2),
 S_ 22 (.load1 T21),
 S_ 23 (.bin .eql .none T22 (I_ 5)),
 M_ 24 T23,
 H_ 25 24 true T1,
 G_ 26 24 true (.field 3 T2),
 G_ 27 24 true (.load1 T26),
 H_ 28 24 true T6,
 G_ 29 24 true (.indexList 1 T27 T28),
 G_ 30 24 true (.load1 T29),
 G_ 31 24 true (.call T25 [T30]),
 G_ 32 24 true (.part1 0 T31),
 G_ 33 24 true (.bin .neq .none T32 (I_ 2)),
 S_ 34 (.pick T24 T33 B0_),
 M_ 35 T34,
 G_ 36 35 false (.field 0 T2),
 G_ 37 35 false (.load1 T36),
 G_ 38 35 false (.bin .eql .none T37 (I_ 9)),
 H_ 39 35 false T38,
 H_ 40 39 true T6,
 G_ 41 39 true (.bin .gtr .none T40 (I_ 0)),
 G_ 42 35 false (.pick T39 T41 B0_),
 H_ 43 35 false T42,
 G_ 44 43 true (.field 2 T2),
 G_ 45 43 true (.load1 T44),
 H_ 46 43 true T6,
 G_ 47 43 true (.bin .sub .none T46 (I_ 1)),
 G_ 48 43 true (.indexList 1 T45 T47),
 G_ 49 43 true (.load1 T48),
 G_ 50 43 true (.field 2 T2),
 G_ 51 43 true (.load1 T50),
 H_ 52 43 true T6,
 G_ 53 43 true (.indexList 1 T51 T52),
 G_ 54 43 true (.load1 T53),
 G_ 55 43 true (.bin .geq .none T49 T54),
 G_ 56 35 false (.pick T43 T55 B0_),
 S_ 57 (.pick T35 B1_ T56)]
 []) (.cond T57
 (.seq (.ops [M_ 4 (I_ 3)]) (.ret)) (.skip))))) (.ops [S_ 58 (.bin .add .none T18 (I_ 1)),
 M_ 18 T58])))
def fn193:AFn:=.mk [.tmp 4] (
 .seq (.ops [S_ 2 (.box T0),
 M_ 4 (I_ 0)]) (.seq (.seq (.ops [S_ 7 (.loadN 5 T2),
 S_ 8 (.pcall 234 [T7]),
 S_ 9 (.un .not T8)]) (.cond T9
 (.seq (.ops [M_ 4 (I_ 3)]) (.ret)) (.skip))) (.seq (.seq (.ops [S_ 10 (.loadN 5 T2),
 S_ 11 (.pcall 235 [T10]),
 M_ 5 T11]) (.seq (.ops [M_ 12 T5,
 S_ 13 (.bin .neq .none T12 (I_ 0))]) (.cond T13
 (.seq (.ops [M_ 14 T5,
 M_ 4 T14]) (.ret)) (.skip)))) (.seq (.seq (.ops [S_ 15 (.field 2 T2),
 S_ 16 (.load1 T15),
 S_ 17 (.len .slice T16),
 M_ 18 (I_ 0)]) (.frame [4] (
 .block 0 (
 .gloop [1,2,17,18] qeJ)))) (.seq (.ops [M_ 4 (I_ 0)]) (.ret))))))
def fn194:AFn:=.mk [.cellN 5 3] (
 .seq (.ops [S_ 3 (.alloc [(.int .i64 0),(.int .i64 0),(.list [] (some none)),(.list [] (some none)),(.list [] (some none))])]) (.seq (.ops [S_ 4 (.load1 T1),
 M_ 5 T0,
 S_ 6 (.indexList 5 T4 T5),
 S_ 7 (.loadN 5 T6),
 N_ (.store 5 T3 T7)]) (.ret)))
def qg0:ACode :=
 .seq (.ops [S_ 21 (.bin .lss .none T20 T19)]) (.seq (.cond T21
 (.skip) (.exit 0)) (.seq (.block 1 (
 .seq (.ops [S_ 22 (.indexList 1 T18 T20),
 S_ 23 (.load1 T22),
 M_ 7 T23]) (.seq (.seq (.ops [M_ 25 T5,
 M_ 26 T7,
 S_ 27 (.lookup .int (.agg []) true T25 T26),
 M_ 24 T27,
 S_ 28 (.extract 0 T24),
 S_ 29 (.extract 1 T24),
 S_ 8 (.alloc []),
 N_ (.store 0 T8 T28),
 M_ 9 T29]) (.seq (.ops [M_ 30 T9]) (.cond T30
 (.seq (.ops [M_ 4 B1_]) (.ret)) (.skip)))) (.ops [M_ 31 T5,
 M_ 32 T7,
 S_ 33 (.build [] []),
 N_ (.mapUpdate .int T31 T32 T33)])))) (.ops [S_ 34 (.bin .add .none T20 (I_ 1)),
 M_ 20 T34])))
def qg1:ACode :=
 .seq (.ops [S_ 53 (.bin .lss .none T52 T51)]) (.seq (.cond T53
 (.skip) (.exit 4)) (.seq (.block 5 (
 .seq (.ops [S_ 54 (.indexList 1 T50 T52),
 S_ 55 (.load1 T54),
 M_ 14 T55]) (.seq (.seq (.ops [M_ 57 T5,
 M_ 58 T14,
 S_ 59 (.lookup .int (.agg []) true T57 T58),
 M_ 56 T59,
 S_ 60 (.extract 0 T56),
 S_ 61 (.extract 1 T56),
 S_ 15 (.alloc []),
 N_ (.store 0 T15 T60),
 M_ 16 T61]) (.seq (.ops [M_ 62 T16]) (.cond T62
 (.seq (.ops [M_ 4 B1_]) (.ret)) (.skip)))) (.ops [M_ 63 T5,
 M_ 64 T14,
 S_ 65 (.build [] []),
 N_ (.mapUpdate .int T63 T64 T65)])))) (.ops [S_ 66 (.bin .add .none T52 (I_ 1)),
 M_ 52 T66])))
def qg2:ACode :=
 .seq (.ops [S_ 38 (.bin .lss .none T37 T36)]) (.seq (.cond T38
 (.skip) (.exit 2)) (.seq (.block 3 (
 .seq (.ops [S_ 39 (.indexList 5 T35 T37),
 S_ 40 (.loadN 5 T39),
 S_ 11 (.alloc [(.int .i64 0),(.int .i64 0),(.list [] (some none)),(.list [] (some none)),(.list [] (some none))]),
 N_ (.store 5 T11 T40)]) (.seq (.ops [S_ 41 (.field 0 T11),
 S_ 42 (.load1 T41),
 S_ 43 (.field 2 T11),
 S_ 44 (.load1 T43),
 S_ 45 (.field 4 T11),
 S_ 46 (.load1 T45),
 S_ 47 (.build [(.int .i64 0),(.int .i64 0),(.list [] (some none)),(.list [] (some none)),(.list [] (some none))] [(0,1,T42),(2,1,T44),(4,1,T46)]),
 S_ 48 (.box T47),
 M_ 12 T48]) (.seq (.freeze 12 (.ops [M_ 49 T12,
 S_ 50 (.call (.val (.func 232 [] [])) [T49]),
 S_ 51 (.len .slice T50),
 M_ 52 (I_ 0)])) (.frame [4,5,35,36,37] (
 .block 4 (
 .gloop [5,35,36,37,50,51,52] qg1))))))) (.ops [S_ 67 (.bin .add .none T37 (I_ 1)),
 M_ 37 T67])))
def fn195:AFn:=.mk [.tmp 4] (
 .seq (.ops [M_ 4 B0_]) (.seq (.ops [S_ 17 (.makeMap),
 M_ 5 T17]) (.seq (.seq (.ops [M_ 18 T1,
 S_ 19 (.len .slice T18),
 M_ 20 (I_ 0)]) (.frame [0,4,5] (
 .block 0 (
 .gloop [0,5,18,19,20] qg0)))) (.seq (.seq (.ops [M_ 35 T0,
 S_ 36 (.len .slice T35),
 M_ 37 (I_ 0)]) (.frame [4] (
 .block 2 (
 .gloop [5,35,36,37] qg2)))) (.seq (.ops [M_ 4 B0_]) (.ret))))))
def qfE:ACode :=
 .seq (.ops [S_ 34 (.bin .lss .none T33 T32)]) (.seq (.cond T34
 (.skip) (.exit 2)) (.seq (.block 3 (
 .seq (.ops [S_ 35 (.indexList 1 T31 T33),
 S_ 36 (.load1 T35),
 M_ 8 T36]) (.seq (.seq (.ops [M_ 37 T8,
 S_ 38 (.bin .lss .none T37 (I_ 0)),
 M_ 39 T38,
 H_ 40 39 false T8,
 H_ 41 39 false T5,
 G_ 42 39 false (.bin .geq .none T40 T41),
 S_ 43 (.pick T39 B1_ T42)]) (.cond T43
 (.seq (.ops [M_ 2 (I_ 3)]) (.ret)) (.skip))) (.seq (.ops [M_ 44 T4,
 M_ 45 T8,
 S_ 46 (.indexList 1 T44 T45),
 S_ 47 (.load1 T46),
 S_ 48 (.bin .add .none T47 (I_ 1)),
 S_ 49 (.indexList 1 T44 T45),
 N_ (.store 1 T49 T48)]) (.draw [M_ 50 T3,
 M_ 51 T5,
 M_ 52 T3,
 M_ 53 T5,
 S_ 54 (.indexList 1 T52 T53),
 S_ 55 (.load1 T54),
 M_ 56 T3,
 M_ 57 T8,
 S_ 58 (.indexList 1 T56 T57),
 S_ 59 (.load1 T58),
 S_ 60 (.minMax true [T55,T59]),
 S_ 61 (.indexList 1 T50 T51),
 N_ (.store 1 T61 T60)]
 []))))) (.ops [S_ 62 (.bin .add .none T33 (I_ 1)),
 M_ 33 T62])))
def qgZ:ACode :=
 .seq (.ops [S_ 26 (.bin .lss .none T25 T24)]) (.seq (.cond T26
 (.skip) (.exit 0)) (.seq (.block 1 (
 .seq (.ops [M_ 27 T25,
 S_ 28 (.indexList 5 T23 T25),
 S_ 29 (.loadN 5 T28),
 S_ 6 (.alloc [(.int .i64 0),(.int .i64 0),(.list [] (some none)),(.list [] (some none)),(.list [] (some none))]),
 M_ 5 T27,
 N_ (.store 5 T6 T29)]) (.seq (.seq (.ops [S_ 30 (.field 3 T6),
 S_ 31 (.load1 T30),
 S_ 32 (.len .slice T31),
 M_ 33 (I_ 0)]) (.frame [0,2,3,4,5,23,24,25] (
 .block 2 (
 .gloop [0,3,4,5,23,24,25,31,32,33] qfE)))) (.ops [M_ 63 T3,
 M_ 64 T5,
 S_ 65 (.indexList 1 T63 T64),
 S_ 66 (.load1 T65),
 S_ 67 (.bin .add .none T66 (I_ 1)),
 S_ 68 (.indexList 1 T63 T64),
 N_ (.store 1 T68 T67)])))) (.ops [S_ 69 (.bin .add .none T25 (I_ 1)),
 M_ 25 T69])))
def qig:ACode :=
 .seq (.ops [S_ 73 (.bin .lss .none T72 T71)]) (.seq (.cond T73
 (.skip) (.exit 4)) (.seq (.block 5 (
 .seq (.ops [M_ 74 T72,
 S_ 75 (.indexList 1 T70 T72),
 S_ 76 (.load1 T75),
 M_ 9 T74,
 M_ 10 T76]) (.seq (.ops [M_ 77 T10,
 S_ 78 (.bin .eql .none T77 (I_ 1)),
 M_ 79 T9,
 M_ 80 T0,
 S_ 81 (.len .slice T80),
 S_ 82 (.bin .sub .none T81 (I_ 1)),
 S_ 83 (.bin .lss .none T79 T82),
 S_ 84 (.bin .neq .bool T78 T83)]) (.cond T84
 (.seq (.ops [M_ 2 (I_ 3)]) (.ret)) (.skip))))) (.ops [S_ 85 (.bin .add .none T72 (I_ 1)),
 M_ 72 T85])))
def qhH:ACode :=
 (.mdraw [0,3,4] [M_ 17 T0,
 S_ 18 (.len .slice T17),
 S_ 19 (.makeSlice (.int .i64 0) T18 T18),
 M_ 20 T0,
 S_ 21 (.len .slice T20),
 S_ 22 (.makeSlice (.int .i64 0) T21 T21),
 M_ 3 T19,
 M_ 4 T22]
 [[],[0],[1,1],[],[3],[4,4],[2,0,1,2],[5,6,0,1,2,3,4,5,6]])
def fn190:AFn:=.mk [.tmp 2] (
 .seq (.ops [M_ 2 (I_ 0)]) (.seq (.seq (.ops [M_ 11 T0,
 S_ 12 (.len .slice T11),
 S_ 13 (.bin .gtr .none T12 (I_ 4096))]) (.cond T13
 (.seq (.ops [M_ 2 (I_ 2)]) (.ret)) (.skip))) (.seq (.seq (.ops [M_ 14 T0,
 S_ 15 (.len .slice T14),
 S_ 16 (.bin .eql .none T15 (I_ 0))]) (.cond T16
 (.seq (.ops [M_ 2 (I_ 3)]) (.ret)) (.skip))) (.seq
 qhH
 (.seq (.seq (.ops [M_ 23 T0,
 S_ 24 (.len .slice T23),
 M_ 25 (I_ 0)]) (.frame [0,2,3,4] (
 .block 0 (
 .gloop [0,3,4,23,24,25] qgZ)))) (.seq (.seq (.ops [M_ 70 T4,
 S_ 71 (.len .slice T70),
 M_ 72 (I_ 0)]) (.frame [0,2,3] (
 .block 4 (
 .gloop [0,3,70,71,72] qig)))) (.seq (.seq (.ops [M_ 86 T3,
 M_ 87 T0,
 S_ 88 (.len .slice T87),
 S_ 89 (.bin .sub .none T88 (I_ 1)),
 S_ 90 (.indexList 1 T86 T89),
 S_ 91 (.load1 T90),
 S_ 92 (.bin .gtr .none T91 (I_ 400))]) (.cond T92
 (.seq (.ops [M_ 2 (I_ 2)]) (.ret)) (.skip))) (.seq (.ops [M_ 2 (I_ 0)]) (.ret)))))))))
def qj5:ACode :=
 .seq (.ops [S_ 49 (.bin .lss .none T48 T47)]) (.seq (.cond T49
 (.skip) (.exit 2)) (.seq (.block 3 (
 .seq (.ops [S_ 50 (.indexList 1 T46 T48),
 S_ 51 (.load1 T50),
 M_ 10 T51]) (.ops [M_ 52 T1,
 M_ 53 T10,
 S_ 54 (.lookup .int (.int .i64 0) false T52 T53),
 S_ 55 (.bin .add .none T54 (I_ 1)),
 N_ (.mapUpdate .int T52 T53 T55)]))) (.ops [S_ 56 (.bin .add .none T48 (I_ 1)),
 M_ 48 T56])))
def qj6:ACode :=
 .seq (.ops [S_ 64 (.bin .lss .none T63 T62)]) (.seq (.cond T64
 (.skip) (.exit 4)) (.seq (.block 5 (
 .seq (.ops [S_ 65 (.indexList 1 T61 T63),
 S_ 66 (.load1 T65),
 M_ 12 T66]) (.ops [M_ 67 T1,
 M_ 68 T12,
 S_ 69 (.lookup .int (.int .i64 0) false T67 T68),
 S_ 70 (.bin .sub .none T69 (I_ 1)),
 N_ (.mapUpdate .int T67 T68 T70)]))) (.ops [S_ 71 (.bin .add .none T63 (I_ 1)),
 M_ 63 T71])))
def qj7:ACode :=
 .seq (.ops [S_ 39 (.bin .lss .none T38 T37)]) (.seq (.cond T39
 (.skip) (.exit 0)) (.seq (.block 1 (
 .seq (.ops [M_ 40 T38,
 S_ 41 (.indexList 1 T36 T38),
 S_ 42 (.load1 T41),
 M_ 6 T40,
 M_ 7 T42]) (.seq (.ops [M_ 43 T0,
 M_ 44 T6,
 S_ 45 (.call (.val (.func 236 [] [])) [T43,T44]),
 M_ 8 T45]) (.seq (.seq (.ops [M_ 46 T8,
 S_ 47 (.len .slice T46),
 M_ 48 (I_ 0)]) (.frame [0,1,2,7,8,36,37,38] (
 .block 2 (
 .gloop [0,1,2,7,8,36,37,38,46,47,48] qj5)))) (.seq (.ops [M_ 57 T7,
 M_ 58 T1,
 M_ 59 T2,
 S_ 60 (.call (.val (.func 196 [] [])) [T57,T58,T59])]) (.seq (.ops [M_ 61 T8,
 S_ 62 (.len .slice T61),
 M_ 63 (I_ 0)]) (.frame [0,1,2,36,37,38] (
 .block 4 (
 .gloop [0,1,2,36,37,38,61,62,63] qj6))))))))) (.ops [S_ 72 (.bin .add .none T38 (I_ 1)),
 M_ 38 T72])))
def fn196:AFn:=.mk [] (
 .seq (.seq (.ops [M_ 13 T0,
 S_ 14 (.nilCheck T13),
 S_ 15 (.field 0 T14),
 S_ 16 (.load1 T15),
 S_ 17 (.bin .eql .none T16 (I_ 0)),
 M_ 18 T17,
 H_ 19 18 true T1,
 H_ 20 18 true T0,
 G_ 21 18 true (.nilCheck T20),
 G_ 22 18 true (.field 1 T21),
 G_ 23 18 true (.load1 T22),
 G_ 24 18 true (.lookup .int (.int .i64 0) false T19 T23),
 G_ 25 18 true (.bin .eql .none T24 (I_ 0)),
 S_ 26 (.pick T18 T25 B0_)]) (.cond T26
 (.ops [M_ 27 T2,
 M_ 28 T0,
 S_ 29 (.nilCheck T28),
 S_ 30 (.field 1 T29),
 S_ 31 (.load1 T30),
 S_ 32 (.build [] []),
 N_ (.mapUpdate .int T27 T31 T32)]) (.skip))) (.seq (.ops [M_ 33 T0,
 S_ 34 (.nilCheck T33),
 S_ 35 (.field 3 T34),
 S_ 36 (.load1 T35),
 S_ 37 (.len .slice T36),
 M_ 38 (I_ 0)]) (.frame [] (
 .block 0 (
 .gloop [0,1,2,36,37,38] qj7)))))
def fn167_k0:RangeK :=
 ⟨[M_ 11 T3],T11,12,13,
 [S_ 14 (.extract 0 T13)],T14,0,1,(some 15),
 [S_ 16 (.extract 0 T15),
 M_ 5 T16],false,[4,12],[2]⟩
def qgX:ACode :=
 .kops [M_ 17 T4,
 M_ 18 T5,
 S_ 19 (.buildSlice 1 [T18]),
 S_ 20 (.append 1 8 T17 T19),
 M_ 4 T20]
def qj3:ACode :=
 .seq (.ops [M_ 21 T4,
 S_ 22 (.call (.val (.func 138 [] [])) [T21])]) (.seq (.freeze 4 (.ops [M_ 23 T4,
 M_ 2 T23])) (.ret))
def fn167:AFn:=.mk [.tmp 2] (
 .seq (.ops [M_ 2 (.val (.list [] (some none)))]) (.seq (.ops [S_ 6 (.makeMap),
 M_ 3 T6]) (.seq (.ops [M_ 7 T0,
 S_ 8 (.makeMap),
 M_ 9 T3,
 S_ 10 (.call (.val (.func 196 [] [])) [T7,T8,T9])]) (.seq (.ops [M_ 4 (.val (.list [] (some none)))]) (.range fn167_k0 qgX qj3)))))
def qdG:ACode :=
 .seq (.ops [S_ 21 (.bin .lss .none T20 T19)]) (.seq (.cond T21
 (.skip) (.exit 0)) (.seq (.block 1 (
 .seq (.ops [S_ 22 (.indexList 5 T18 T20),
 S_ 23 (.loadN 5 T22),
 S_ 9 (.alloc [(.int .i64 0),(.int .i64 0),(.list [] (some none)),(.list [] (some none)),(.list [] (some none))]),
 N_ (.store 5 T9 T23)]) (.seq (.seq (.ops [M_ 24 T2,
 M_ 25 T24,
 G_ 26 25 true (.field 0 T9),
 G_ 27 25 true (.load1 T26),
 G_ 28 25 true (.pcall 191 [T27]),
 S_ 29 (.pick T25 T28 B0_),
 M_ 30 T29,
 H_ 31 30 false T2,
 G_ 32 30 false (.un .not T31),
 H_ 33 30 false T32,
 G_ 34 33 true (.field 0 T9),
 G_ 35 33 true (.load1 T34),
 G_ 36 33 true (.pcall 192 [T35]),
 G_ 37 30 false (.pick T33 T36 B0_),
 S_ 38 (.pick T30 B1_ T37)]) (.cond T38
 (.seq (.ops [M_ 6 (I_ 3)]) (.ret)) (.skip))) (.seq (.ops [S_ 39 (.loadN 5 T9),
 S_ 40 (.makeFunc 194 [] [T3]),
 S_ 41 (.pcall 193 [T39,T40]),
 M_ 10 T41]) (.seq (.ops [M_ 42 T10,
 S_ 43 (.bin .neq .none T42 (I_ 0))]) (.cond T43
 (.seq (.ops [M_ 44 T10,
 M_ 6 T44]) (.ret)) (.skip))))))) (.ops [S_ 45 (.bin .add .none T20 (I_ 1)),
 M_ 20 T45])))
def qie:ACode :=
 .seq (.ops [S_ 54 (.bin .lss .none T53 T52)]) (.seq (.cond T54
 (.skip) (.exit 2)) (.seq (.block 3 (
 .seq (.ops [S_ 55 (.indexList 1 T51 T53),
 S_ 56 (.load1 T55),
 M_ 12 T56]) (.seq (.ops [M_ 57 T1,
 M_ 58 T12,
 S_ 59 (.pcall 151 [T57,T58]),
 S_ 60 (.un .not T59)]) (.cond T60
 (.seq (.ops [M_ 6 (I_ 6)]) (.ret)) (.skip))))) (.ops [S_ 61 (.bin .add .none T53 (I_ 1)),
 M_ 53 T61])))
def fn165:AFn:=.mk [.tmp 6] (
 .seq (.ops [S_ 3 (.box T0),
 M_ 6 (I_ 0)]) (.seq (.seq (.ops [S_ 13 (.load1 T3),
 S_ 14 (.pcall 190 [T13]),
 M_ 7 T14]) (.seq (.ops [M_ 15 T7,
 S_ 16 (.bin .neq .none T15 (I_ 0))]) (.cond T16
 (.seq (.ops [M_ 17 T7,
 M_ 6 T17]) (.ret)) (.skip)))) (.seq (.seq (.freeze 3 (.ops [S_ 18 (.load1 T3),
 S_ 19 (.len .slice T18),
 M_ 20 (I_ 0)])) (.frame [1,3,6] (
 .block 0 (
 .gloop [1,2,3,18,19,20] qdG)))) (.seq (.seq (.ops [S_ 46 (.load1 T3),
 M_ 47 T1,
 S_ 48 (.pcall 195 [T46,T47])]) (.cond T48
 (.seq (.ops [M_ 6 (I_ 7)]) (.ret)) (.skip))) (.seq (.seq (.ops [S_ 49 (.load1 T3),
 S_ 50 (.pcall 160 [T49]),
 S_ 51 (.pcall 167 [T50]),
 S_ 52 (.len .slice T51),
 M_ 53 (I_ 0)]) (.frame [6] (
 .block 2 (
 .gloop [1,51,52,53] qie)))) (.seq (.ops [M_ 6 (I_ 0)]) (.ret)))))))
def fn134:AFn:=.mk [.tmp 2] (
 .seq (.ops [M_ 2 (I_ 0)]) (.seq (.ops [M_ 3 T0,
 S_ 4 (.pcall 165 [T3,(.val (.list [] (some none))),B0_]),
 M_ 2 T4]) (.ret)))
def fn130:AFn:=.mk [.tmp 2,.tmp 3] (
 .seq (.ops [M_ 2 (.val (.list [] (some none))),
 M_ 3 (I_ 0)]) (.seq (.seq (.ops [M_ 5 T0,
 S_ 6 (.pcall 134 [T5]),
 M_ 4 T6]) (.seq (.ops [M_ 7 T4,
 S_ 8 (.bin .neq .none T7 (I_ 0))]) (.cond T8
 (.seq (.ops [M_ 9 T4,
 M_ 2 (.val (.list [] (some none))),
 M_ 3 T9]) (.ret)) (.skip)))) (.seq (.ops [M_ 10 T0,
 S_ 11 (.pcall 160 [T10]),
 S_ 12 (.pcall 159 [T11]),
 M_ 2 T12,
 M_ 3 (I_ 0)]) (.ret))))
def qj1:ACode :=
 .seq (.ops [S_ 91 (.bin .lss .none T90 T89)]) (.seq (.cond T91
 (.skip) (.exit 2)) (.seq (.block 3 (
 .seq (.ops [M_ 92 T90,
 M_ 6 T92]) (.seq (.draw [M_ 93 T0,
 M_ 94 T5,
 S_ 95 (.indexList 5 T93 T94),
 S_ 96 (.field 4 T95),
 S_ 97 (.load1 T96),
 M_ 98 T6,
 S_ 99 (.indexList 2 T97 T98),
 S_ 100 (.field 0 T99),
 S_ 101 (.load1 T100),
 M_ 102 T1,
 M_ 103 T5,
 S_ 104 (.indexList 5 T102 T103),
 S_ 105 (.field 4 T104),
 S_ 106 (.load1 T105),
 M_ 107 T6,
 S_ 108 (.indexList 2 T106 T107),
 S_ 109 (.field 0 T108),
 S_ 110 (.load1 T109),
 S_ 111 (.bin .neq .none T101 T110),
 M_ 112 T111,
 H_ 113 112 false T0,
 H_ 114 112 false T5,
 G_ 115 112 false (.indexList 5 T113 T114),
 G_ 116 112 false (.field 4 T115),
 G_ 117 112 false (.load1 T116),
 H_ 118 112 false T6,
 G_ 119 112 false (.indexList 2 T117 T118),
 G_ 120 112 false (.field 1 T119),
 G_ 121 112 false (.load1 T120),
 H_ 122 112 false T1,
 H_ 123 112 false T5,
 G_ 124 112 false (.indexList 5 T122 T123),
 G_ 125 112 false (.field 4 T124),
 G_ 126 112 false (.load1 T125),
 H_ 127 112 false T6,
 G_ 128 112 false (.indexList 2 T126 T127),
 G_ 129 112 false (.field 1 T128),
 G_ 130 112 false (.load1 T129),
 G_ 131 112 false (.pcall 163 [T121,T130]),
 G_ 132 112 false (.un .not T131),
 S_ 133 (.pick T112 B1_ T132)]
 []) (.cond T133
 (.seq (.ops [M_ 4 B0_]) (.ret)) (.skip))))) (.ops [S_ 134 (.bin .add .none T90 (I_ 1)),
 M_ 90 T134])))
def qj2:ACode :=
 .seq (.ops [S_ 15 (.bin .lss .none T14 T13)]) (.seq (.cond T15
 (.skip) (.exit 0)) (.seq (.block 1 (
 .seq (.ops [M_ 16 T14,
 M_ 5 T16]) (.seq (.seq (.draw [M_ 17 T0,
 M_ 18 T5,
 S_ 19 (.indexList 5 T17 T18),
 S_ 20 (.field 0 T19),
 S_ 21 (.load1 T20),
 M_ 22 T1,
 M_ 23 T5,
 S_ 24 (.indexList 5 T22 T23),
 S_ 25 (.field 0 T24),
 S_ 26 (.load1 T25),
 S_ 27 (.bin .neq .none T21 T26),
 M_ 28 T27,
 H_ 29 28 false T0,
 H_ 30 28 false T5,
 G_ 31 28 false (.indexList 5 T29 T30),
 G_ 32 28 false (.field 1 T31),
 G_ 33 28 false (.load1 T32),
 H_ 34 28 false T1,
 H_ 35 28 false T5,
 G_ 36 28 false (.indexList 5 T34 T35),
 G_ 37 28 false (.field 1 T36),
 G_ 38 28 false (.load1 T37),
 G_ 39 28 false (.bin .neq .none T33 T38),
 S_ 40 (.pick T28 B1_ T39),
 M_ 41 T40,
 H_ 42 41 false T0,
 H_ 43 41 false T5,
 G_ 44 41 false (.indexList 5 T42 T43),
 G_ 45 41 false (.field 2 T44),
 G_ 46 41 false (.load1 T45),
 H_ 47 41 false T1,
 H_ 48 41 false T5,
 G_ 49 41 false (.indexList 5 T47 T48),
 G_ 50 41 false (.field 2 T49),
 G_ 51 41 false (.load1 T50),
 G_ 52 41 false (.pcall 163 [T46,T51]),
 G_ 53 41 false (.un .not T52),
 S_ 54 (.pick T41 B1_ T53),
 M_ 55 T54,
 H_ 56 55 false T0,
 H_ 57 55 false T5,
 G_ 58 55 false (.indexList 5 T56 T57),
 G_ 59 55 false (.field 3 T58),
 G_ 60 55 false (.load1 T59),
 H_ 61 55 false T1,
 H_ 62 55 false T5,
 G_ 63 55 false (.indexList 5 T61 T62),
 G_ 64 55 false (.field 3 T63),
 G_ 65 55 false (.load1 T64),
 G_ 66 55 false (.pcall 163 [T60,T65]),
 G_ 67 55 false (.un .not T66),
 S_ 68 (.pick T55 B1_ T67),
 M_ 69 T68,
 H_ 70 69 false T0,
 H_ 71 69 false T5,
 G_ 72 69 false (.indexList 5 T70 T71),
 G_ 73 69 false (.field 4 T72),
 G_ 74 69 false (.load1 T73),
 G_ 75 69 false (.len .slice T74),
 H_ 76 69 false T1,
 H_ 77 69 false T5,
 G_ 78 69 false (.indexList 5 T76 T77),
 G_ 79 69 false (.field 4 T78),
 G_ 80 69 false (.load1 T79),
 G_ 81 69 false (.len .slice T80),
 G_ 82 69 false (.bin .neq .none T75 T81),
 S_ 83 (.pick T69 B1_ T82)]
 []) (.cond T83
 (.seq (.ops [M_ 4 B0_]) (.ret)) (.skip))) (.seq (.ops [M_ 84 T0,
 M_ 85 T5,
 S_ 86 (.indexList 5 T84 T85),
 S_ 87 (.field 4 T86),
 S_ 88 (.load1 T87),
 S_ 89 (.len .slice T88),
 M_ 90 (I_ 0)]) (.frame [0,1,4,13,14] (
 .block 2 (
 .gloop [0,1,5,13,14,89,90] qj1))))))) (.ops [S_ 135 (.bin .add .none T14 (I_ 1)),
 M_ 14 T135])))
def fn132:AFn:=.mk [.tmp 4] (
 .seq (.ops [M_ 4 B0_]) (.seq (.seq (.ops [M_ 7 T0,
 S_ 8 (.len .slice T7),
 M_ 9 T1,
 S_ 10 (.len .slice T9),
 S_ 11 (.bin .neq .none T8 T10)]) (.cond T11
 (.seq (.ops [M_ 4 B0_]) (.ret)) (.skip))) (.seq (.seq (.ops [M_ 12 T0,
 S_ 13 (.len .slice T12),
 M_ 14 (I_ 0)]) (.frame [4] (
 .block 0 (
 .gloop [0,1,13,14] qj2)))) (.seq (.ops [M_ 4 B1_]) (.ret)))))
def qfC:ACode :=
 .seq (.ops [S_ 136 (.bin .lss .none T135 T134)]) (.seq (.cond T136
 (.skip) (.exit 1)) (.seq (.block 2 (
 .seq (.ops [M_ 137 T135,
 M_ 9 T137]) (.seq (.draw [M_ 138 T0,
 S_ 139 (.nilCheck T138),
 S_ 140 (.field 4 T139),
 S_ 141 (.load1 T140),
 M_ 142 T9,
 S_ 143 (.indexList 2 T141 T142),
 S_ 144 (.field 0 T143),
 S_ 145 (.load1 T144),
 M_ 146 T1,
 S_ 147 (.nilCheck T146),
 S_ 148 (.field 4 T147),
 S_ 149 (.load1 T148),
 M_ 150 T9,
 S_ 151 (.indexList 2 T149 T150),
 S_ 152 (.field 0 T151),
 S_ 153 (.load1 T152),
 S_ 154 (.bin .neq .none T145 T153),
 M_ 155 T154,
 H_ 156 155 false T0,
 G_ 157 155 false (.nilCheck T156),
 G_ 158 155 false (.field 4 T157),
 G_ 159 155 false (.load1 T158),
 H_ 160 155 false T9,
 G_ 161 155 false (.indexList 2 T159 T160),
 G_ 162 155 false (.field 1 T161),
 G_ 163 155 false (.load1 T162),
 G_ 164 155 false (.len .slice T163),
 H_ 165 155 false T1,
 G_ 166 155 false (.nilCheck T165),
 G_ 167 155 false (.field 4 T166),
 G_ 168 155 false (.load1 T167),
 H_ 169 155 false T9,
 G_ 170 155 false (.indexList 2 T168 T169),
 G_ 171 155 false (.field 1 T170),
 G_ 172 155 false (.load1 T171),
 G_ 173 155 false (.len .slice T172),
 G_ 174 155 false (.bin .neq .none T164 T173),
 S_ 175 (.pick T155 B1_ T174)]
 []) (.cond T175
 (.seq (.ops [M_ 6 B0_]) (.ret)) (.skip))))) (.ops [S_ 176 (.bin .add .none T135 (I_ 1)),
 M_ 135 T176])))
def qj4:ACode :=
 .seq (.ops [S_ 184 (.bin .lss .none T183 T182)]) (.seq (.cond T184
 (.skip) (.exit 3)) (.seq (.block 4 (
 .seq (.ops [M_ 185 T183,
 M_ 12 T185]) (.draw [M_ 186 T2,
 M_ 187 T10,
 M_ 188 T12,
 S_ 189 (.indexList 1 T187 T188),
 S_ 190 (.load1 T189),
 M_ 191 T11,
 M_ 192 T12,
 S_ 193 (.indexList 1 T191 T192),
 S_ 194 (.load1 T193),
 N_ (.mapUpdate .int T186 T190 T194)]
 []))) (.ops [S_ 195 (.bin .add .none T183 (I_ 1)),
 M_ 183 T195])))
def qgY:ACode :=
 .seq (.ops [S_ 202 (.bin .lss .none T201 T200)]) (.seq (.cond T202
 (.skip) (.exit 5)) (.seq (.block 6 (
 .seq (.ops [M_ 203 T201,
 M_ 13 T203]) (.seq (.draw [M_ 204 T0,
 S_ 205 (.nilCheck T204),
 S_ 206 (.field 3 T205),
 S_ 207 (.load1 T206),
 M_ 208 T13,
 S_ 209 (.indexList 1 T207 T208),
 S_ 210 (.load1 T209),
 M_ 211 T1,
 S_ 212 (.nilCheck T211),
 S_ 213 (.field 3 T212),
 S_ 214 (.load1 T213),
 M_ 215 T13,
 S_ 216 (.indexList 1 T214 T215),
 S_ 217 (.load1 T216),
 M_ 218 T2,
 S_ 219 (.call (.val (.func 189 [] [])) [T210,T217,T218]),
 S_ 220 (.un .not T219)]
 []) (.cond T220
 (.seq (.ops [M_ 6 B0_]) (.ret)) (.skip))))) (.ops [S_ 221 (.bin .add .none T201 (I_ 1)),
 M_ 201 T221])))
def qfD:ACode :=
 (.seq (.seq (.ops [M_ 130 T0,
 S_ 131 (.nilCheck T130),
 S_ 132 (.field 4 T131),
 S_ 133 (.load1 T132),
 S_ 134 (.len .slice T133),
 M_ 135 (I_ 0)]) (.frame [0,1,2,6] (
 .block 1 (
 .gloop [0,1,2,134,135] qfC)))) (.seq (.ops [M_ 177 T0,
 S_ 178 (.call (.val (.func 232 [] [])) [T177]),
 M_ 179 T1,
 S_ 180 (.call (.val (.func 232 [] [])) [T179]),
 M_ 10 T178,
 M_ 11 T180]) (.seq (.seq (.ops [M_ 181 T10,
 S_ 182 (.len .slice T181),
 M_ 183 (I_ 0)]) (.frame [0,1,2] (
 .block 3 (
 .gloop [0,1,2,10,11,182,183] qj4)))) (.seq (.seq (.ops [M_ 196 T0,
 S_ 197 (.nilCheck T196),
 S_ 198 (.field 3 T197),
 S_ 199 (.load1 T198),
 S_ 200 (.len .slice T199),
 M_ 201 (I_ 0)]) (.frame [6] (
 .block 5 (
 .gloop [0,1,2,200,201] qgY)))) (.seq (.ops [M_ 6 B1_]) (.ret))))))
def fn189:AFn:=.mk [.tmp 6] (
 .seq (.ops [M_ 6 B0_]) (.seq (.seq (.draw [M_ 14 T0,
 S_ 15 (.nilCheck T14),
 S_ 16 (.field 0 T15),
 S_ 17 (.load1 T16),
 M_ 18 T1,
 S_ 19 (.nilCheck T18),
 S_ 20 (.field 0 T19),
 S_ 21 (.load1 T20),
 S_ 22 (.bin .neq .none T17 T21),
 M_ 23 T22,
 H_ 24 23 false T0,
 G_ 25 23 false (.nilCheck T24),
 G_ 26 23 false (.field 3 T25),
 G_ 27 23 false (.load1 T26),
 G_ 28 23 false (.len .slice T27),
 H_ 29 23 false T1,
 G_ 30 23 false (.nilCheck T29),
 G_ 31 23 false (.field 3 T30),
 G_ 32 23 false (.load1 T31),
 G_ 33 23 false (.len .slice T32),
 G_ 34 23 false (.bin .neq .none T28 T33),
 S_ 35 (.pick T23 B1_ T34),
 M_ 36 T35,
 H_ 37 36 false T0,
 G_ 38 36 false (.nilCheck T37),
 G_ 39 36 false (.field 2 T38),
 G_ 40 36 false (.load1 T39),
 G_ 41 36 false (.len .slice T40),
 H_ 42 36 false T1,
 G_ 43 36 false (.nilCheck T42),
 G_ 44 36 false (.field 2 T43),
 G_ 45 36 false (.load1 T44),
 G_ 46 36 false (.len .slice T45),
 G_ 47 36 false (.bin .neq .none T41 T46),
 S_ 48 (.pick T36 B1_ T47),
 M_ 49 T48,
 H_ 50 49 false T0,
 G_ 51 49 false (.nilCheck T50),
 G_ 52 49 false (.field 4 T51),
 G_ 53 49 false (.load1 T52),
 G_ 54 49 false (.len .slice T53),
 H_ 55 49 false T1,
 G_ 56 49 false (.nilCheck T55),
 G_ 57 49 false (.field 4 T56),
 G_ 58 49 false (.load1 T57),
 G_ 59 49 false (.len .slice T58),
 G_ 60 49 false (.bin .neq .none T54 T59),
 S_ 61 (.pick T49 B1_ T60)]
 []) (.cond T61
 (.seq (.ops [M_ 6 B0_]) (.ret)) (.skip))) (.seq (.block 0 (
 .seq (.ops [M_ 63 T0,
 S_ 64 (.nilCheck T63),
 S_ 65 (.field 0 T64),
 S_ 66 (.load1 T65),
 S_ 67 (.bin .eql .none T66 (I_ 0)),
 M_ 62 T67]) (.cond T62
 (.seq (.ops [M_ 69 T2,
 M_ 70 T0,
 S_ 71 (.nilCheck T70),
 S_ 72 (.field 1 T71),
 S_ 73 (.load1 T72),
 S_ 74 (.lookup .int (.int .i64 0) true T69 T73),
 M_ 68 T74,
 S_ 75 (.extract 0 T68),
 S_ 76 (.extract 1 T68),
 M_ 7 T75,
 M_ 8 T76]) (.seq (.draw [M_ 77 T8,
 M_ 78 T77,
 H_ 79 78 true T7,
 H_ 80 78 true T1,
 G_ 81 78 true (.nilCheck T80),
 G_ 82 78 true (.field 1 T81),
 G_ 83 78 true (.load1 T82),
 G_ 84 78 true (.bin .eql .none T79 T83),
 S_ 85 (.pick T78 T84 B0_),
 M_ 86 T85,
 H_ 87 86 false T8,
 G_ 88 86 false (.un .not T87),
 H_ 89 86 false T88,
 H_ 90 89 true T0,
 G_ 91 89 true (.nilCheck T90),
 G_ 92 89 true (.field 1 T91),
 G_ 93 89 true (.load1 T92),
 H_ 94 89 true T1,
 G_ 95 89 true (.nilCheck T94),
 G_ 96 89 true (.field 1 T95),
 G_ 97 89 true (.load1 T96),
 G_ 98 89 true (.bin .eql .none T93 T97),
 G_ 99 86 false (.pick T89 T98 B0_),
 S_ 100 (.pick T86 B1_ T99),
 M_ 6 T100]
 []) (.ret))) (.seq (.draw [M_ 102 T0,
 S_ 103 (.nilCheck T102),
 S_ 104 (.field 1 T103),
 S_ 105 (.load1 T104),
 M_ 106 T1,
 S_ 107 (.nilCheck T106),
 S_ 108 (.field 1 T107),
 S_ 109 (.load1 T108),
 S_ 110 (.bin .neq .none T105 T109),
 M_ 111 T110,
 H_ 112 111 false T0,
 G_ 113 111 false (.nilCheck T112),
 G_ 114 111 false (.field 0 T113),
 G_ 115 111 false (.load1 T114),
 G_ 116 111 false (.bin .eql .none T115 (I_ 9)),
 H_ 117 111 false T116,
 H_ 118 117 true T0,
 G_ 119 117 true (.nilCheck T118),
 G_ 120 117 true (.field 2 T119),
 G_ 121 117 true (.load1 T120),
 H_ 122 117 true T1,
 G_ 123 117 true (.nilCheck T122),
 G_ 124 117 true (.field 2 T123),
 G_ 125 117 true (.load1 T124),
 G_ 126 117 true (.pcall 139 [T121,T125]),
 G_ 127 117 true (.un .not T126),
 G_ 128 111 false (.pick T117 T127 B0_),
 S_ 129 (.pick T111 B1_ T128),
 M_ 101 T129]
 []) (.cond T101
 (.seq (.ops [M_ 6 B0_]) (.ret)) (.skip))))))
 qfD)))
def fn164:AFn:=.mk [.tmp 4] (
 .seq (.ops [M_ 4 B0_]) (.seq (.ops [M_ 5 T0,
 M_ 6 T1,
 S_ 7 (.makeMap),
 S_ 8 (.call (.val (.func 189 [] [])) [T5,T6,T7]),
 M_ 4 T8]) (.ret)))
def fn133:AFn:=.mk [.tmp 4] (
 .seq (.ops [M_ 4 B0_]) (.seq (.ops [M_ 5 T0,
 S_ 6 (.pcall 134 [T5]),
 S_ 7 (.bin .eql .none T6 (I_ 0)),
 M_ 8 T7,
 H_ 9 8 true T1,
 G_ 10 8 true (.pcall 134 [T9]),
 G_ 11 8 true (.bin .eql .none T10 (I_ 0)),
 S_ 12 (.pick T8 T11 B0_),
 M_ 13 T12,
 H_ 14 13 true T0,
 G_ 15 13 true (.pcall 160 [T14]),
 H_ 16 13 true T1,
 G_ 17 13 true (.pcall 160 [T16]),
 G_ 18 13 true (.pcall 164 [T15,T17]),
 S_ 19 (.pick T13 T18 B0_),
 M_ 4 T19]) (.ret)))
def fn162:AFn:=.mk [.tmp 2] (
 .seq (.ops [M_ 2 (.val (.ptr none))]) (.seq (.ops [M_ 3 T0,
 S_ 4 (.pcall 177 [(I_ 0),T3,(.val (.list [] (some none)))]),
 M_ 2 T4]) (.ret)))
def fn161:AFn:=.mk [.tmp 6] (
 .seq (.ops [M_ 6 (.val (.ptr none))]) (.seq (.ops [M_ 7 T0,
 M_ 8 T1,
 S_ 9 (.build [(.int .i64 0),(.int .i64 0),(.list [] (some none)),(.list [] (some none)),(.list [] (some none))] [(0,1,T7),(2,1,T8)]),
 M_ 10 T2,
 S_ 11 (.build [(.int .i64 0),(.int .i64 0),(.list [] (some none)),(.list [] (some none)),(.list [] (some none)),(.list [] (some none))] [(0,5,T9),(5,1,T10)]),
 S_ 12 (.box T11),
 M_ 6 T12]) (.freeze 6 (.ret))))
def fn177:AFn:=.mk [.tmp 6] (
 .seq (.ops [M_ 6 (.val (.ptr none))]) (.seq (.ops [M_ 7 T0,
 M_ 8 T1,
 S_ 9 (.build [(.int .i64 0),(.int .i64 0),(.list [] (some none)),(.list [] (some none)),(.list [] (some none))] [(0,1,T7),(1,1,T8)]),
 M_ 10 T2,
 S_ 11 (.build [(.int .i64 0),(.int .i64 0),(.list [] (some none)),(.list [] (some none)),(.list [] (some none)),(.list [] (some none))] [(0,5,T9),(5,1,T10)]),
 S_ 12 (.box T11),
 M_ 6 T12]) (.freeze 6 (.ret))))
def fn154:AFn:=.mk [.tmp 2] (
 .seq (.ops [M_ 2 (.val (.list [] (some none)))]) (.seq (.ops [S_ 3 (.alloc [(.list [] (some none))])]) (.seq (.ops [M_ 4 T0,
 S_ 5 (.call (.val (.func 183 [] [])) [T4,T3])]) (.seq (.ops [S_ 6 (.load1 T3),
 M_ 2 T6]) (.ret)))))
def qxg:ACode :=
 .seq (.ops [S_ 19 (.bin .lss .none T18 T17)]) (.seq (.cond T19
 (.skip) (.exit 0)) (.seq (.block 1 (
 .seq (.ops [S_ 20 (.indexList 1 T16 T18),
 S_ 21 (.load1 T20),
 M_ 7 T21]) (.draw [S_ 22 (.field 3 T5),
 S_ 23 (.load1 T22),
 M_ 24 T7,
 M_ 25 T1,
 S_ 26 (.call (.val (.func 183 [] [])) [T24,T25]),
 S_ 27 (.buildSlice 1 [T26]),
 S_ 28 (.append 1 8 T23 T27),
 S_ 29 (.field 3 T5),
 N_ (.store 1 T29 T28)]
 [(1,0,1)]))) (.ops [S_ 30 (.bin .add .none T18 (I_ 1)),
 M_ 18 T30])))
def fn183:AFn:=.mk [.tmp 4] (.frame [4] (
 .seq (.ops [M_ 4 (I_ 0)]) (.seq (.ops [M_ 8 T0,
 S_ 9 (.nilCheck T8),
 S_ 10 (.field 0 T9),
 S_ 11 (.loadN 5 T10),
 S_ 5 (.alloc [(.int .i64 0),(.int .i64 0),(.list [] (some none)),(.list [] (some none)),(.list [] (some none))]),
 N_ (.store 5 T5 T11)]) (.seq (.ops [S_ 12 (.field 3 T5),
 N_ (.store 1 T12 (.val (.list [] (some none))))]) (.seq (.seq (.ops [M_ 13 T0,
 S_ 14 (.nilCheck T13),
 S_ 15 (.field 5 T14),
 S_ 16 (.load1 T15),
 S_ 17 (.len .slice T16),
 M_ 18 (I_ 0)]) (.frame [1,5] (
 .block 0 (
 .gloop [1,5,16,17,18] qxg)))) (.seq (.draw [M_ 31 T1,
 M_ 32 T1,
 S_ 33 (.nilCheck T32),
 S_ 34 (.load1 T33),
 S_ 35 (.loadN 5 T5),
 S_ 36 (.buildSlice 5 [T35]),
 S_ 37 (.append 5 88 T34 T36),
 S_ 38 (.nilCheck T31),
 N_ (.store 1 T38 T37)]
 []) (.seq (.ops [M_ 39 T1,
 S_ 40 (.nilCheck T39),
 S_ 41 (.load1 T40),
 S_ 42 (.len .slice T41),
 S_ 43 (.bin .sub .none T42 (I_ 1)),
 M_ 4 T43]) (.ret))))))))
def fn153:AFn:=.mk [.tmp 2] (
 .seq (.ops [M_ 2 (.val (.ptr none))]) (.seq (.ops [M_ 3 T0,
 S_ 4 (.pcall 177 [(I_ 1),T3,(.val (.list [] (some none)))]),
 M_ 2 T4]) (.ret)))
def qfA:ACode :=
 .seq (.ops [S_ 34 (.bin .lss .none T33 T32)]) (.seq (.cond T34
 (.skip) (.exit 2)) (.seq (.block 3 (
 .seq (.ops [S_ 35 (.indexList 1 T31 T33),
 S_ 36 (.load1 T35),
 M_ 8 T36]) (.draw [M_ 37 T6,
 M_ 38 T6,
 S_ 39 (.nilCheck T38),
 S_ 40 (.field 3 T39),
 S_ 41 (.load1 T40),
 M_ 42 T3,
 M_ 43 T8,
 S_ 44 (.indexList 1 T42 T43),
 S_ 45 (.load1 T44),
 S_ 46 (.buildSlice 1 [T45]),
 S_ 47 (.append 1 8 T41 T46),
 S_ 48 (.nilCheck T37),
 S_ 49 (.field 3 T48),
 N_ (.store 1 T49 T47)]
 []))) (.ops [S_ 50 (.bin .add .none T33 (I_ 1)),
 M_ 33 T50])))
def qfB:ACode :=
 .seq (.ops [S_ 55 (.bin .lss .none T54 T53)]) (.seq (.cond T55
 (.skip) (.exit 4)) (.seq (.block 5 (
 .seq (.ops [S_ 56 (.indexList 2 T52 T54),
 S_ 57 (.loadN 2 T56),
 S_ 10 (.alloc [(.int .i64 0),(.list [] (some none))]),
 N_ (.store 2 T10 T57)]) (.draw [M_ 58 T6,
 M_ 59 T6,
 S_ 60 (.nilCheck T59),
 S_ 61 (.field 4 T60),
 S_ 62 (.load1 T61),
 S_ 63 (.field 0 T10),
 S_ 64 (.load1 T63),
 S_ 65 (.field 1 T10),
 S_ 66 (.load1 T65),
 S_ 67 (.hcall (.val (.func 188 [] [])) [T66]),
 S_ 68 (.build [(.int .i64 0),(.list [] (some none))] [(0,1,T64),(1,1,T67)]),
 S_ 69 (.buildSlice 2 [T68]),
 S_ 70 (.append 2 32 T62 T69),
 S_ 71 (.nilCheck T58),
 S_ 72 (.field 4 T71),
 N_ (.store 1 T72 T70)]
 [(4,0,1),(6,0,1)]))) (.ops [S_ 73 (.bin .add .none T54 (I_ 1)),
 M_ 54 T73])))
def qgU:ACode :=
 .seq (.ops [S_ 17 (.bin .lss .none T16 T15)]) (.seq (.cond T17
 (.skip) (.exit 0)) (.seq (.block 1 (
 .seq (.ops [M_ 18 T16,
 S_ 19 (.indexList 5 T14 T16),
 S_ 20 (.loadN 5 T19),
 S_ 5 (.alloc [(.int .i64 0),(.int .i64 0),(.list [] (some none)),(.list [] (some none)),(.list [] (some none))]),
 M_ 4 T18,
 N_ (.store 5 T5 T20)]) (.seq (.draw [S_ 21 (.field 0 T5),
 S_ 22 (.load1 T21),
 S_ 23 (.field 1 T5),
 S_ 24 (.load1 T23),
 S_ 25 (.field 2 T5),
 S_ 26 (.load1 T25),
 S_ 27 (.hcall (.val (.func 188 [] [])) [T26]),
 S_ 28 (.build [(.int .i64 0),(.int .i64 0),(.list [] (some none)),(.list [] (some none)),(.list [] (some none))] [(0,1,T22),(1,1,T24),(2,1,T27)]),
 S_ 29 (.box T28),
 M_ 6 T29]
 [(1,0,1),(3,0,1)]) (.seq (.seq (.ops [S_ 30 (.field 3 T5),
 S_ 31 (.load1 T30),
 S_ 32 (.len .slice T31),
 M_ 33 (I_ 0)]) (.frame [1000000,0,3,4,5,6,14,15,16] (
 .block 2 (
 .gloop [1000000,0,3,4,5,6,14,15,16,31,32,33] qfA)))) (.seq (.seq (.ops [S_ 51 (.field 4 T5),
 S_ 52 (.load1 T51),
 S_ 53 (.len .slice T52),
 M_ 54 (I_ 0)]) (.frame [1000000,0,3,4,6,14,15,16] (
 .block 4 (
 .gloop [1000000,0,3,4,6,14,15,16,52,53,54] qfB)))) (.ops [M_ 74 T3,
 M_ 75 T4,
 M_ 76 T6,
 S_ 77 (.indexList 1 T74 T75),
 N_ (.store 1 T77 T76)])))))) (.ops [S_ 78 (.bin .add .none T16 (I_ 1)),
 M_ 16 T78])))
def fm160:AFn:=.mk [.tmp 2] (
 .seq (.ops [M_ 2 (.val (.ptr none))]) (.seq (.ops [M_ 11 T0,
 S_ 12 (.len .slice T11),
 S_ 13 (.makeSlice (.ptr none) T12 T12),
 M_ 3 T13]) (.seq (.seq (.ops [M_ 14 T0,
 S_ 15 (.len .slice T14),
 M_ 16 (I_ 0)]) (.frame [1000000,0,3] (
 .block 0 (
 .gloop [1000000,0,3,14,15,16] qgU)))) (.seq (.ops [M_ 79 T3,
 M_ 80 T0,
 S_ 81 (.len .slice T80),
 S_ 82 (.bin .sub .none T81 (I_ 1)),
 S_ 83 (.indexList 1 T79 T82),
 S_ 84 (.load1 T83),
 M_ 2 T84]) (.ret)))))
def fn171:AFn:=.mk [.tmp 4] (
 .seq (.ops [S_ 3 (.box T1),
 M_ 4 (I_ 0)]) (.seq (.ops [S_ 7 (.makeMap),
 S_ 5 (.alloc [(.map none)]),
 N_ (.store 1 T5 T7)]) (.seq (.ops [S_ 6 (.alloc [.nilFunc])]) (.seq (.ops [S_ 8 (.makeFunc 207 [] [T5,T3,T6]),
 N_ (.store 1 T6 T8)]) (.seq (.ops [S_ 9 (.load1 T6),
 M_ 10 T0,
 S_ 11 (.hcall T9 [T10])]) (.seq (.ops [S_ 12 (.load1 T3),
 M_ 4 T12]) (.ret)))))))
def qfF:ACode :=
 .seq (.ops [S_ 50 (.bin .lss .none T49 T48)]) (.seq (.cond T50
 (.skip) (.exit 0)) (.seq (.block 1 (
 .seq (.ops [M_ 51 T49,
 M_ 8 T51]) (.ops [M_ 52 T7,
 M_ 53 T0,
 S_ 54 (.nilCheck T53),
 S_ 55 (.field 4 T54),
 S_ 56 (.load1 T55),
 M_ 57 T8,
 S_ 58 (.indexList 2 T56 T57),
 S_ 59 (.field 1 T58),
 S_ 60 (.load1 T59),
 S_ 61 (.hcall T52 [T60])]))) (.ops [S_ 62 (.bin .add .none T49 (I_ 1)),
 M_ 49 T62])))
def qfG:ACode :=
 .seq (.ops [S_ 69 (.bin .lss .none T68 T67)]) (.seq (.cond T69
 (.skip) (.exit 2)) (.seq (.block 3 (
 .seq (.ops [S_ 70 (.indexList 1 T66 T68),
 S_ 71 (.load1 T70),
 M_ 10 T71]) (.ops [S_ 72 (.load1 T3),
 M_ 73 T10,
 S_ 74 (.hcall T72 [T73])]))) (.ops [S_ 75 (.bin .add .none T68 (I_ 1)),
 M_ 68 T75])))
def fn207:AFn:=.mk [] (
 .seq (.seq (.draw [S_ 12 (.load1 T1),
 M_ 13 T0,
 S_ 14 (.nilCheck T13),
 S_ 15 (.field 1 T14),
 S_ 16 (.load1 T15),
 S_ 17 (.lookup .int (.int .i64 0) true T12 T16),
 M_ 11 T17,
 S_ 18 (.extract 0 T11),
 S_ 19 (.extract 1 T11),
 M_ 5 T18,
 M_ 6 T19]
 []) (.seq (.ops [M_ 20 T6,
 M_ 21 T20,
 H_ 22 21 true T0,
 G_ 23 21 true (.nilCheck T22),
 G_ 24 21 true (.field 0 T23),
 G_ 25 21 true (.load1 T24),
 G_ 26 21 true (.bin .eql .none T25 (I_ 0)),
 S_ 27 (.pick T21 T26 B0_)]) (.cond T27
 (.ops [M_ 28 T0,
 M_ 29 T5,
 S_ 30 (.nilCheck T28),
 S_ 31 (.field 1 T30),
 N_ (.store 1 T31 T29)]) (.skip)))) (.seq (.ops [S_ 32 (.makeFunc 208 [] [T2,T1]),
 M_ 7 T32]) (.seq (.seq (.ops [M_ 33 T0,
 S_ 34 (.nilCheck T33),
 S_ 35 (.field 0 T34),
 S_ 36 (.load1 T35),
 S_ 37 (.bin .neq .none T36 (I_ 9))]) (.cond T37
 (.ops [M_ 38 T7,
 M_ 39 T0,
 S_ 40 (.nilCheck T39),
 S_ 41 (.field 2 T40),
 S_ 42 (.load1 T41),
 S_ 43 (.hcall T38 [T42])]) (.skip))) (.seq (.seq (.ops [M_ 44 T0,
 S_ 45 (.nilCheck T44),
 S_ 46 (.field 4 T45),
 S_ 47 (.load1 T46),
 S_ 48 (.len .slice T47),
 M_ 49 (I_ 0)]) (.frame [1000000,0,3] (
 .block 0 (
 .gloop [1000000,0,3,7,48,49] qfF)))) (.seq (.ops [M_ 63 T0,
 S_ 64 (.nilCheck T63),
 S_ 65 (.field 3 T64),
 S_ 66 (.load1 T65),
 S_ 67 (.len .slice T66),
 M_ 68 (I_ 0)]) (.frame [1000000] (
 .block 2 (
 .gloop [1000000,3,66,67,68] qfG))))))))
def qfH:ACode :=
 .seq (.ops [S_ 8 (.bin .lss .none T7 T6)]) (.seq (.cond T8
 (.skip) (.exit 0)) (.seq (.block 1 (
 .seq (.ops [M_ 9 T7,
 M_ 4 T9]) (.seq (.draw [S_ 10 (.load1 T2),
 M_ 11 T0,
 M_ 12 T4,
 S_ 13 (.indexList 1 T11 T12),
 S_ 14 (.load1 T13),
 S_ 15 (.load1 T1),
 N_ (.mapUpdate .int T10 T14 T15)]
 []) (.seq (.ops [M_ 16 T0,
 M_ 17 T4,
 S_ 18 (.load1 T1),
 S_ 19 (.indexList 1 T16 T17),
 N_ (.store 1 T19 T18)]) (.ops [S_ 20 (.load1 T1),
 S_ 21 (.bin .add .none T20 (I_ 1)),
 N_ (.store 1 T1 T21)]))))) (.ops [S_ 22 (.bin .add .none T7 (I_ 1)),
 M_ 7 T22])))
def fn208:AFn:=.mk [] (
 .seq (.ops [M_ 5 T0,
 S_ 6 (.len .slice T5),
 M_ 7 (I_ 0)]) (.frame [1000000] (
 .block 0 (
 .gloop [1000000,0,1,2,6,7] qfH))))
def fn140:AFn:=.mk [.tmp 4,.tmp 5] (
 .seq (.ops [M_ 4 (.val (.list [] (some none))),
 M_ 5 (I_ 0)]) (.seq (.seq (.ops [M_ 8 T0,
 S_ 9 (.pcall 134 [T8]),
 M_ 6 T9]) (.seq (.ops [M_ 10 T6,
 S_ 11 (.bin .neq .none T10 (I_ 0))]) (.cond T11
 (.seq (.ops [M_ 12 T6,
 M_ 4 (.val (.list [] (some none))),
 M_ 5 T12]) (.ret)) (.skip)))) (.seq (.ops [M_ 13 T0,
 S_ 14 (.hcall (.val (.func 160 [] [])) [T13]),
 M_ 7 T14]) (.seq (.seq (.ops [M_ 15 T1,
 S_ 16 (.bin .lss .none T15 (I_ 0)),
 M_ 17 T16,
 H_ 18 17 false T1,
 G_ 19 17 false (.bin .gtr .none T18 (I_ 1048576)),
 S_ 20 (.pick T17 B1_ T19)]) (.cond T20
 (.seq (.ops [M_ 4 (.val (.list [] (some none))),
 M_ 5 (I_ 4)]) (.ret)) (.skip))) (.seq (.seq (.ops [M_ 21 T7,
 M_ 22 T1,
 S_ 23 (.hcall (.val (.func 171 [] [])) [T21,T22]),
 S_ 24 (.bin .gtr .none T23 (I_ 1048576))]) (.cond T24
 (.seq (.ops [M_ 4 (.val (.list [] (some none))),
 M_ 5 (I_ 4)]) (.ret)) (.skip))) (.seq (.view (.ops [M_ 25 T7,
 S_ 26 (.pcall 159 [T25]),
 M_ 4 T26,
 M_ 5 (I_ 0)])) (.ret)))))))
end Go.Abs
