/-
  PARTS OF A PROOF, joined: an abstract machine for quiet code, its evaluation, and what the seat's functions answer on it. Conditions: none.
-/
import Derived.Test.YtbmognfolkhkpaaDoorAbsA
namespace Go.Abs
def fn313:AFn:=.mk [.tmp 6] (
 .seq
 (.ops [⟨some 6,none,.move (.val (.ptr none))⟩])
 (.seq
 (.ops [⟨some 7,none,.move (.tmp 0)⟩,
 ⟨some 8,none,.buildSlice 1 [(.tmp 7)]⟩,
 ⟨some 9,none,.move (.tmp 1)⟩,
 ⟨some 10,none,.move (.tmp 2)⟩,
 ⟨some 11,none,.buildSlice 1 [(.tmp 9),(.tmp 10)]⟩,
 ⟨some 12,none,.build [(.int .i64 0),(.int .i64 0),(.list [] (some none)),(.list [] (some none)),(.list [] (some none))] [(0,1,(.val (.int .i64 4))),(2,1,(.tmp 8)),(3,1,(.tmp 11))]⟩,
 ⟨some 13,none,.box (.tmp 12)⟩,
 ⟨some 6,none,.move (.tmp 13)⟩])
 (.ret)))
def qhb:ACode :=
 .seq
 (.seq
 (.ops [⟨some 11,none,.move (.tmp 7)⟩,
 ⟨some 12,none,.bin .geq .none (.tmp 11) (.val (.int .i64 0))⟩])
 (.cond (.tmp 12)
 (.skip)
 (.exit 0)))
 (.seq
 (.block 1 (
 .draw [⟨some 15,none,.move (.tmp 0)⟩,
 ⟨some 16,none,.move (.tmp 7)⟩,
 ⟨some 17,none,.indexList 1 (.tmp 15) (.tmp 16)⟩,
 ⟨some 18,none,.load1 (.tmp 17)⟩,
 ⟨some 19,none,.move (.tmp 1)⟩,
 ⟨some 20,none,.move (.tmp 7)⟩,
 ⟨some 21,none,.indexList 1 (.tmp 19) (.tmp 20)⟩,
 ⟨some 22,none,.load1 (.tmp 21)⟩,
 ⟨some 23,none,.move (.tmp 2)⟩,
 ⟨some 24,none,.hcall (.val (.func 313 [] [])) [(.tmp 18),(.tmp 22),(.tmp 23)]⟩,
 ⟨some 2,none,.move (.tmp 24)⟩]
 []))
 (.ops [⟨some 13,none,.move (.tmp 7)⟩,
 ⟨some 14,none,.bin .sub .none (.tmp 13) (.val (.int .i64 1))⟩,
 ⟨some 7,none,.move (.tmp 14)⟩]))
def fn297:AFn:=.mk [.tmp 6] (
 .seq
 (.ops [⟨some 6,none,.move (.val (.ptr none))⟩])
 (.seq
 (.seq
 (.ops [⟨some 8,none,.move (.tmp 0)⟩,
 ⟨some 9,none,.len .slice (.tmp 8)⟩,
 ⟨some 10,none,.bin .sub .none (.tmp 9) (.val (.int .i64 1))⟩,
 ⟨some 7,none,.move (.tmp 10)⟩])
 (.frame [1000000,2] (
 .block 0 (
 .gloop [1000000,0,1,2,7] qhb))))
 (.seq
 (.ops [⟨some 25,none,.move (.tmp 2)⟩,
 ⟨some 6,none,.move (.tmp 25)⟩])
 (.ret))))
def fn315:AFn:=.mk [.tmp 2] (
 .seq
 (.ops [⟨some 2,none,.move (.val (.bool false))⟩])
 (.seq
 (.ops [⟨some 3,none,.move (.tmp 0)⟩,
 ⟨some 4,none,.nilCheck (.tmp 3)⟩,
 ⟨some 5,none,.field 0 (.tmp 4)⟩,
 ⟨some 6,none,.load1 (.tmp 5)⟩,
 ⟨some 7,none,.bin .eql .none (.tmp 6) (.val (.int .i64 0))⟩,
 ⟨some 8,none,.move (.tmp 7)⟩,
 ⟨some 9,some (some 8,false),.move (.tmp 0)⟩,
 ⟨some 10,some (some 8,false),.nilCheck (.tmp 9)⟩,
 ⟨some 11,some (some 8,false),.field 0 (.tmp 10)⟩,
 ⟨some 12,some (some 8,false),.load1 (.tmp 11)⟩,
 ⟨some 13,some (some 8,false),.bin .eql .none (.tmp 12) (.val (.int .i64 1))⟩,
 ⟨some 14,none,.pick (.tmp 8) (.val (.bool true)) (.tmp 13)⟩,
 ⟨some 15,none,.move (.tmp 14)⟩,
 ⟨some 16,some (some 15,false),.move (.tmp 0)⟩,
 ⟨some 17,some (some 15,false),.nilCheck (.tmp 16)⟩,
 ⟨some 18,some (some 15,false),.field 0 (.tmp 17)⟩,
 ⟨some 19,some (some 15,false),.load1 (.tmp 18)⟩,
 ⟨some 20,some (some 15,false),.bin .eql .none (.tmp 19) (.val (.int .i64 6))⟩,
 ⟨some 21,some (some 15,false),.move (.tmp 20)⟩,
 ⟨some 22,some (some 21,true),.move (.tmp 0)⟩,
 ⟨some 23,some (some 21,true),.nilCheck (.tmp 22)⟩,
 ⟨some 24,some (some 21,true),.field 3 (.tmp 23)⟩,
 ⟨some 25,some (some 21,true),.load1 (.tmp 24)⟩,
 ⟨some 26,some (some 21,true),.len .slice (.tmp 25)⟩,
 ⟨some 27,some (some 21,true),.bin .eql .none (.tmp 26) (.val (.int .i64 0))⟩,
 ⟨some 28,some (some 15,false),.pick (.tmp 21) (.tmp 27) (.val (.bool false))⟩,
 ⟨some 29,none,.pick (.tmp 15) (.val (.bool true)) (.tmp 28)⟩,
 ⟨some 2,none,.move (.tmp 29)⟩])
 (.ret)))
def qie:ACode :=
 .seq
 (.ops [⟨some 37,none,.bin .lss .none (.tmp 36) (.tmp 35)⟩])
 (.seq
 (.cond (.tmp 37)
 (.skip)
 (.exit 1))
 (.seq
 (.block 2 (
 .seq
 (.ops [⟨some 38,none,.indexList 1 (.tmp 34) (.tmp 36)⟩,
 ⟨some 39,none,.load1 (.tmp 38)⟩,
 ⟨some 5,none,.move (.tmp 39)⟩])
 (.seq
 (.ops [⟨some 40,none,.move (.tmp 5)⟩,
 ⟨some 41,none,.pcall 317 [(.tmp 40)]⟩,
 ⟨some 42,none,.un .not (.tmp 41)⟩])
 (.cond (.tmp 42)
 (.seq
 (.ops [⟨some 2,none,.move (.val (.bool false))⟩])
 (.ret))
 (.skip)))))
 (.ops [⟨some 43,none,.bin .add .none (.tmp 36) (.val (.int .i64 1))⟩,
 ⟨some 36,none,.move (.tmp 43)⟩])))
def fn317:AFn:=.mk [.tmp 2] (
 .seq
 (.ops [⟨some 2,none,.move (.val (.bool false))⟩])
 (.seq
 (.seq
 (.ops [⟨some 6,none,.move (.tmp 0)⟩,
 ⟨some 7,none,.pcall 315 [(.tmp 6)]⟩,
 ⟨some 8,none,.move (.tmp 7)⟩,
 ⟨some 9,some (some 8,false),.move (.tmp 0)⟩,
 ⟨some 10,some (some 8,false),.nilCheck (.tmp 9)⟩,
 ⟨some 11,some (some 8,false),.field 0 (.tmp 10)⟩,
 ⟨some 12,some (some 8,false),.load1 (.tmp 11)⟩,
 ⟨some 13,some (some 8,false),.bin .eql .none (.tmp 12) (.val (.int .i64 2))⟩,
 ⟨some 14,none,.pick (.tmp 8) (.val (.bool true)) (.tmp 13)⟩])
 (.cond (.tmp 14)
 (.seq
 (.ops [⟨some 2,none,.move (.val (.bool true))⟩])
 (.ret))
 (.skip)))
 (.seq
 (.ops [⟨some 15,none,.move (.tmp 0)⟩,
 ⟨some 16,none,.nilCheck (.tmp 15)⟩,
 ⟨some 17,none,.field 3 (.tmp 16)⟩,
 ⟨some 18,none,.load1 (.tmp 17)⟩,
 ⟨some 3,none,.move (.tmp 18)⟩])
 (.seq
 (.seq
 (.ops [⟨some 19,none,.move (.tmp 0)⟩,
 ⟨some 20,none,.nilCheck (.tmp 19)⟩,
 ⟨some 21,none,.field 0 (.tmp 20)⟩,
 ⟨some 22,none,.load1 (.tmp 21)⟩])
 (.block 0 (
 .seq
 (.ops [⟨some 24,none,.bin .eql .none (.tmp 22) (.val (.int .i64 5))⟩,
 ⟨some 23,none,.move (.tmp 24)⟩])
 (.cond (.tmp 23)
 (.ops [⟨some 25,none,.move (.tmp 3)⟩,
 ⟨some 26,none,.move (.tmp 3)⟩,
 ⟨some 27,none,.len .slice (.tmp 26)⟩,
 ⟨some 28,none,.bin .sub .none (.tmp 27) (.val (.int .i64 1))⟩,
 ⟨some 29,none,.slice 1 (.tmp 25) (some (.tmp 28)) none none⟩,
 ⟨some 3,none,.move (.tmp 29)⟩])
 (.seq
 (.seq
 (.ops [⟨some 31,none,.bin .eql .none (.tmp 22) (.val (.int .i64 6))⟩,
 ⟨some 30,none,.move (.tmp 31)⟩])
 (.cond (.tmp 30)
 (.skip)
 (.seq
 (.ops [⟨some 32,none,.bin .eql .none (.tmp 22) (.val (.int .i64 9))⟩,
 ⟨some 30,none,.move (.tmp 32)⟩])
 (.cond (.tmp 30)
 (.skip)
 (.ops [⟨some 33,none,.bin .eql .none (.tmp 22) (.val (.int .i64 4))⟩,
 ⟨some 30,none,.move (.tmp 33)⟩])))))
 (.cond (.tmp 30)
 (.skip)
 (.seq
 (.ops [⟨some 2,none,.move (.val (.bool false))⟩])
 (.ret))))))))
 (.seq
 (.seq
 (.ops [⟨some 34,none,.move (.tmp 3)⟩,
 ⟨some 35,none,.len .slice (.tmp 34)⟩,
 ⟨some 36,none,.move (.val (.int .i64 0))⟩])
 (.frame [2] (
 .block 1 (
 .gloop [34,35,36] qie))))
 (.seq
 (.ops [⟨some 2,none,.move (.val (.bool true))⟩])
 (.ret)))))))
def qdX:ACode :=
 .seq
 (.ops [⟨some 27,none,.bin .lss .none (.tmp 26) (.tmp 25)⟩])
 (.seq
 (.cond (.tmp 27)
 (.skip)
 (.exit 0))
 (.seq
 (.block 1 (
 .seq
 (.ops [⟨some 28,none,.indexList 1 (.tmp 24) (.tmp 26)⟩,
 ⟨some 29,none,.load1 (.tmp 28)⟩,
 ⟨some 7,none,.move (.tmp 29)⟩])
 (.ops [⟨some 30,none,.move (.tmp 5)⟩,
 ⟨some 31,none,.move (.tmp 7)⟩,
 ⟨some 32,none,.move (.tmp 1)⟩,
 ⟨some 33,none,.hcall (.val (.func 314 [] [])) [(.tmp 31),(.tmp 32)]⟩,
 ⟨some 34,none,.append 1 8 (.tmp 30) (.tmp 33)⟩,
 ⟨some 5,none,.move (.tmp 34)⟩])))
 (.ops [⟨some 35,none,.bin .add .none (.tmp 26) (.val (.int .i64 1))⟩,
 ⟨some 26,none,.move (.tmp 35)⟩])))
def fn314:AFn:=.mk [.tmp 4] (
 .seq
 (.ops [⟨some 4,none,.move (.val (.list [] (some none)))⟩])
 (.seq
 (.seq
 (.ops [⟨some 8,none,.move (.tmp 0)⟩,
 ⟨some 9,none,.nilCheck (.tmp 8)⟩,
 ⟨some 10,none,.field 0 (.tmp 9)⟩,
 ⟨some 11,none,.load1 (.tmp 10)⟩,
 ⟨some 12,none,.bin .eql .none (.tmp 11) (.val (.int .i64 0))⟩])
 (.cond (.tmp 12)
 (.seq
 (.seq
 (.ops [⟨some 13,none,.move (.tmp 0)⟩,
 ⟨some 14,none,.nilCheck (.tmp 13)⟩,
 ⟨some 15,none,.field 1 (.tmp 14)⟩,
 ⟨some 16,none,.load1 (.tmp 15)⟩,
 ⟨some 17,none,.move (.tmp 1)⟩,
 ⟨some 18,none,.bin .eql .none (.tmp 16) (.tmp 17)⟩])
 (.cond (.tmp 18)
 (.seq
 (.ops [⟨some 19,none,.move (.tmp 0)⟩,
 ⟨some 20,none,.buildSlice 1 [(.tmp 19)]⟩,
 ⟨some 4,none,.move (.tmp 20)⟩])
 (.ret))
 (.skip)))
 (.seq
 (.ops [⟨some 4,none,.move (.val (.list [] (some none)))⟩])
 (.ret)))
 (.skip)))
 (.seq
 (.ops [⟨some 5,none,.move (.val (.list [] (some none)))⟩])
 (.seq
 (.seq
 (.ops [⟨some 21,none,.move (.tmp 0)⟩,
 ⟨some 22,none,.nilCheck (.tmp 21)⟩,
 ⟨some 23,none,.field 3 (.tmp 22)⟩,
 ⟨some 24,none,.load1 (.tmp 23)⟩,
 ⟨some 25,none,.len .slice (.tmp 24)⟩,
 ⟨some 26,none,.move (.val (.int .i64 0))⟩])
 (.frame [1000000,5] (
 .block 0 (
 .gloop [1000000,1,5,24,25,26] qdX))))
 (.seq
 (.ops [⟨some 36,none,.move (.tmp 5)⟩,
 ⟨some 4,none,.move (.tmp 36)⟩])
 (.ret))))))
def qic:ACode :=
 .seq
 (.ops [⟨some 11,none,.bin .lss .none (.tmp 10) (.tmp 9)⟩])
 (.seq
 (.cond (.tmp 11)
 (.skip)
 (.exit 0))
 (.seq
 (.block 1 (
 .seq
 (.ops [⟨some 12,none,.indexList 1 (.tmp 8) (.tmp 10)⟩,
 ⟨some 13,none,.load1 (.tmp 12)⟩,
 ⟨some 4,none,.move (.tmp 13)⟩])
 (.seq
 (.draw [⟨some 14,none,.move (.tmp 0)⟩,
 ⟨some 15,none,.nilCheck (.tmp 14)⟩,
 ⟨some 16,none,.field 3 (.tmp 15)⟩,
 ⟨some 17,none,.load1 (.tmp 16)⟩,
 ⟨some 18,none,.move (.tmp 0)⟩,
 ⟨some 19,none,.nilCheck (.tmp 18)⟩,
 ⟨some 20,none,.field 2 (.tmp 19)⟩,
 ⟨some 21,none,.load1 (.tmp 20)⟩,
 ⟨some 22,none,.len .slice (.tmp 21)⟩,
 ⟨some 23,none,.indexList 1 (.tmp 17) (.tmp 22)⟩,
 ⟨some 24,none,.load1 (.tmp 23)⟩,
 ⟨some 25,none,.move (.tmp 4)⟩,
 ⟨some 26,none,.pcall 314 [(.tmp 24),(.tmp 25)]⟩,
 ⟨some 27,none,.len .slice (.tmp 26)⟩,
 ⟨some 28,none,.bin .gtr .none (.tmp 27) (.val (.int .i64 0))⟩]
 [])
 (.cond (.tmp 28)
 (.seq
 (.ops [⟨some 2,none,.move (.val (.bool false))⟩])
 (.ret))
 (.skip)))))
 (.ops [⟨some 29,none,.bin .add .none (.tmp 10) (.val (.int .i64 1))⟩,
 ⟨some 10,none,.move (.tmp 29)⟩])))
def fn299:AFn:=.mk [.tmp 2] (
 .seq
 (.ops [⟨some 2,none,.move (.val (.bool false))⟩])
 (.seq
 (.seq
 (.ops [⟨some 5,none,.move (.tmp 0)⟩,
 ⟨some 6,none,.nilCheck (.tmp 5)⟩,
 ⟨some 7,none,.field 2 (.tmp 6)⟩,
 ⟨some 8,none,.load1 (.tmp 7)⟩,
 ⟨some 9,none,.len .slice (.tmp 8)⟩,
 ⟨some 10,none,.move (.val (.int .i64 0))⟩])
 (.frame [2] (
 .block 0 (
 .gloop [0,8,9,10] qic))))
 (.seq
 (.ops [⟨some 2,none,.move (.val (.bool true))⟩])
 (.ret))))
def qdW:ACode :=
 .seq
 (.ops [⟨some 18,none,.bin .lss .none (.tmp 17) (.tmp 16)⟩])
 (.seq
 (.cond (.tmp 18)
 (.skip)
 (.exit 0))
 (.seq
 (.block 1 (
 .seq
 (.ops [⟨some 19,none,.move (.tmp 17)⟩,
 ⟨some 20,none,.indexList 2 (.tmp 15) (.tmp 17)⟩,
 ⟨some 21,none,.loadN 2 (.tmp 20)⟩,
 ⟨some 5,none,.alloc [(.int .i64 0),(.list [] (some none))]⟩,
 ⟨some 4,none,.move (.tmp 19)⟩,
 ⟨none,none,.store 2 (.tmp 5) (.tmp 21)⟩])
 (.block 2 (
 .seq
 (.draw [⟨some 23,none,.field 0 (.tmp 5)⟩,
 ⟨some 24,none,.load1 (.tmp 23)⟩,
 ⟨some 25,none,.move (.tmp 3)⟩,
 ⟨some 26,none,.nilCheck (.tmp 25)⟩,
 ⟨some 27,none,.field 1 (.tmp 26)⟩,
 ⟨some 28,none,.load1 (.tmp 27)⟩,
 ⟨some 29,none,.bin .eql .none (.tmp 24) (.tmp 28)⟩,
 ⟨some 30,none,.move (.tmp 29)⟩,
 ⟨some 31,some (some 30,true),.field 1 (.tmp 5)⟩,
 ⟨some 32,some (some 30,true),.load1 (.tmp 31)⟩,
 ⟨some 33,some (some 30,true),.len .slice (.tmp 32)⟩,
 ⟨some 34,some (some 30,true),.move (.tmp 3)⟩,
 ⟨some 35,some (some 30,true),.nilCheck (.tmp 34)⟩,
 ⟨some 36,some (some 30,true),.field 3 (.tmp 35)⟩,
 ⟨some 37,some (some 30,true),.load1 (.tmp 36)⟩,
 ⟨some 38,some (some 30,true),.len .slice (.tmp 37)⟩,
 ⟨some 39,some (some 30,true),.bin .neq .none (.tmp 33) (.tmp 38)⟩,
 ⟨some 40,none,.pick (.tmp 30) (.tmp 39) (.val (.bool false))⟩,
 ⟨some 22,none,.move (.tmp 40)⟩]
 [])
 (.cond (.tmp 22)
 (.seq
 (.ops [⟨some 2,none,.move (.val (.ptr none))⟩])
 (.ret))
 (.seq
 (.draw [⟨some 42,none,.field 0 (.tmp 5)⟩,
 ⟨some 43,none,.load1 (.tmp 42)⟩,
 ⟨some 44,none,.move (.tmp 3)⟩,
 ⟨some 45,none,.nilCheck (.tmp 44)⟩,
 ⟨some 46,none,.field 1 (.tmp 45)⟩,
 ⟨some 47,none,.load1 (.tmp 46)⟩,
 ⟨some 48,none,.bin .eql .none (.tmp 43) (.tmp 47)⟩,
 ⟨some 41,none,.move (.tmp 48)⟩]
 [])
 (.cond (.tmp 41)
 (.seq
 (.draw [⟨some 49,none,.field 1 (.tmp 5)⟩,
 ⟨some 50,none,.load1 (.tmp 49)⟩,
 ⟨some 51,none,.move (.tmp 3)⟩,
 ⟨some 52,none,.nilCheck (.tmp 51)⟩,
 ⟨some 53,none,.field 3 (.tmp 52)⟩,
 ⟨some 54,none,.load1 (.tmp 53)⟩,
 ⟨some 55,none,.move (.tmp 0)⟩,
 ⟨some 56,none,.nilCheck (.tmp 55)⟩,
 ⟨some 57,none,.field 3 (.tmp 56)⟩,
 ⟨some 58,none,.load1 (.tmp 57)⟩,
 ⟨some 59,none,.move (.tmp 4)⟩,
 ⟨some 60,none,.bin .add .none (.val (.int .i64 1)) (.tmp 59)⟩,
 ⟨some 61,none,.indexList 1 (.tmp 58) (.tmp 60)⟩,
 ⟨some 62,none,.load1 (.tmp 61)⟩,
 ⟨some 63,none,.hcall (.val (.func 297 [] [])) [(.tmp 50),(.tmp 54),(.tmp 62)]⟩,
 ⟨some 2,none,.move (.tmp 63)⟩]
 [])
 (.ret))
 (.seq
 (.ops [⟨some 65,none,.field 0 (.tmp 5)⟩,
 ⟨some 66,none,.load1 (.tmp 65)⟩,
 ⟨some 67,none,.bin .eql .none (.tmp 66) (.val (.int .i64 (-1)))⟩,
 ⟨some 68,none,.move (.tmp 67)⟩,
 ⟨some 69,some (some 68,true),.move (.tmp 3)⟩,
 ⟨some 70,some (some 68,true),.vcall 317 [(.tmp 69)]⟩,
 ⟨some 71,none,.pick (.tmp 68) (.tmp 70) (.val (.bool false))⟩,
 ⟨some 64,none,.move (.tmp 71)⟩])
 (.cond (.tmp 64)
 (.seq
 (.ops [⟨some 72,none,.move (.tmp 0)⟩,
 ⟨some 73,none,.nilCheck (.tmp 72)⟩,
 ⟨some 74,none,.field 3 (.tmp 73)⟩,
 ⟨some 75,none,.load1 (.tmp 74)⟩,
 ⟨some 76,none,.move (.tmp 4)⟩,
 ⟨some 77,none,.bin .add .none (.val (.int .i64 1)) (.tmp 76)⟩,
 ⟨some 78,none,.indexList 1 (.tmp 75) (.tmp 77)⟩,
 ⟨some 79,none,.load1 (.tmp 78)⟩,
 ⟨some 2,none,.move (.tmp 79)⟩])
 (.ret))
 (.skip))))))))))
 (.ops [⟨some 80,none,.bin .add .none (.tmp 17) (.val (.int .i64 1))⟩,
 ⟨some 17,none,.move (.tmp 80)⟩])))
def fn300:AFn:=.mk [.tmp 2] (
 .seq
 (.ops [⟨some 2,none,.move (.val (.ptr none))⟩])
 (.seq
 (.ops [⟨some 6,none,.move (.tmp 0)⟩,
 ⟨some 7,none,.nilCheck (.tmp 6)⟩,
 ⟨some 8,none,.field 3 (.tmp 7)⟩,
 ⟨some 9,none,.load1 (.tmp 8)⟩,
 ⟨some 10,none,.indexList 1 (.tmp 9) (.val (.int .i64 0))⟩,
 ⟨some 11,none,.load1 (.tmp 10)⟩,
 ⟨some 3,none,.move (.tmp 11)⟩])
 (.seq
 (.seq
 (.ops [⟨some 12,none,.move (.tmp 0)⟩,
 ⟨some 13,none,.nilCheck (.tmp 12)⟩,
 ⟨some 14,none,.field 4 (.tmp 13)⟩,
 ⟨some 15,none,.load1 (.tmp 14)⟩,
 ⟨some 16,none,.len .slice (.tmp 15)⟩,
 ⟨some 17,none,.move (.val (.int .i64 0))⟩])
 (.frame [1000000,2] (
 .block 0 (
 .gloop [1000000,0,3,15,16,17] qdW))))
 (.seq
 (.ops [⟨some 2,none,.move (.val (.ptr none))⟩])
 (.ret)))))
def fn318:AFn:=.mk [.tmp 2] (
 .seq
 (.ops [⟨some 2,none,.move (.val (.int .i64 0))⟩])
 (.seq
 (.ops [⟨some 3,none,.move (.tmp 0)⟩,
 ⟨some 4,none,.bin .sub .none (.tmp 3) (.val (.int .i64 (-1073741824)))⟩,
 ⟨some 5,none,.bin .and .none (.tmp 4) (.val (.int .i64 2147483647))⟩,
 ⟨some 6,none,.bin .add .none (.tmp 5) (.val (.int .i64 (-1073741824)))⟩,
 ⟨some 2,none,.move (.tmp 6)⟩])
 (.ret)))
def fn301:AFn:=.mk [.tmp 2] (
 .seq
 (.ops [⟨some 2,none,.move (.val (.ptr none))⟩])
 (.seq
 (.seq
 (.ops [⟨some 8,none,.move (.tmp 0)⟩,
 ⟨some 9,none,.nilCheck (.tmp 8)⟩,
 ⟨some 10,none,.field 1 (.tmp 9)⟩,
 ⟨some 11,none,.load1 (.tmp 10)⟩,
 ⟨some 12,none,.bin .gtr .none (.tmp 11) (.val (.int .i64 6))⟩,
 ⟨some 13,none,.move (.tmp 12)⟩,
 ⟨some 14,some (some 13,false),.move (.tmp 0)⟩,
 ⟨some 15,some (some 13,false),.nilCheck (.tmp 14)⟩,
 ⟨some 16,some (some 13,false),.field 3 (.tmp 15)⟩,
 ⟨some 17,some (some 13,false),.load1 (.tmp 16)⟩,
 ⟨some 18,some (some 13,false),.indexList 1 (.tmp 17) (.val (.int .i64 0))⟩,
 ⟨some 19,some (some 13,false),.load1 (.tmp 18)⟩,
 ⟨some 20,some (some 13,false),.nilCheck (.tmp 19)⟩,
 ⟨some 21,some (some 13,false),.field 0 (.tmp 20)⟩,
 ⟨some 22,some (some 13,false),.load1 (.tmp 21)⟩,
 ⟨some 23,some (some 13,false),.bin .neq .none (.tmp 22) (.val (.int .i64 1))⟩,
 ⟨some 24,none,.pick (.tmp 13) (.val (.bool true)) (.tmp 23)⟩,
 ⟨some 25,none,.move (.tmp 24)⟩,
 ⟨some 26,some (some 25,false),.move (.tmp 0)⟩,
 ⟨some 27,some (some 25,false),.nilCheck (.tmp 26)⟩,
 ⟨some 28,some (some 25,false),.field 3 (.tmp 27)⟩,
 ⟨some 29,some (some 25,false),.load1 (.tmp 28)⟩,
 ⟨some 30,some (some 25,false),.indexList 1 (.tmp 29) (.val (.int .i64 1))⟩,
 ⟨some 31,some (some 25,false),.load1 (.tmp 30)⟩,
 ⟨some 32,some (some 25,false),.nilCheck (.tmp 31)⟩,
 ⟨some 33,some (some 25,false),.field 0 (.tmp 32)⟩,
 ⟨some 34,some (some 25,false),.load1 (.tmp 33)⟩,
 ⟨some 35,some (some 25,false),.bin .neq .none (.tmp 34) (.val (.int .i64 1))⟩,
 ⟨some 36,none,.pick (.tmp 25) (.val (.bool true)) (.tmp 35)⟩])
 (.cond (.tmp 36)
 (.seq
 (.ops [⟨some 2,none,.move (.val (.ptr none))⟩])
 (.ret))
 (.skip)))
 (.seq
 (.draw [⟨some 37,none,.move (.tmp 0)⟩,
 ⟨some 38,none,.nilCheck (.tmp 37)⟩,
 ⟨some 39,none,.field 3 (.tmp 38)⟩,
 ⟨some 40,none,.load1 (.tmp 39)⟩,
 ⟨some 41,none,.indexList 1 (.tmp 40) (.val (.int .i64 0))⟩,
 ⟨some 42,none,.load1 (.tmp 41)⟩,
 ⟨some 43,none,.nilCheck (.tmp 42)⟩,
 ⟨some 44,none,.field 1 (.tmp 43)⟩,
 ⟨some 45,none,.load1 (.tmp 44)⟩,
 ⟨some 46,none,.move (.tmp 0)⟩,
 ⟨some 47,none,.nilCheck (.tmp 46)⟩,
 ⟨some 48,none,.field 3 (.tmp 47)⟩,
 ⟨some 49,none,.load1 (.tmp 48)⟩,
 ⟨some 50,none,.indexList 1 (.tmp 49) (.val (.int .i64 1))⟩,
 ⟨some 51,none,.load1 (.tmp 50)⟩,
 ⟨some 52,none,.nilCheck (.tmp 51)⟩,
 ⟨some 53,none,.field 1 (.tmp 52)⟩,
 ⟨some 54,none,.load1 (.tmp 53)⟩,
 ⟨some 3,none,.move (.tmp 45)⟩,
 ⟨some 4,none,.move (.tmp 54)⟩]
 [])
 (.seq
 (.ops [⟨some 5,none,.move (.val (.int .i64 0))⟩])
 (.seq
 (.ops [⟨some 55,none,.move (.tmp 3)⟩,
 ⟨some 56,none,.move (.tmp 4)⟩,
 ⟨some 57,none,.bin .lss .none (.tmp 55) (.tmp 56)⟩,
 ⟨some 6,none,.move (.tmp 57)⟩])
 (.seq
 (.seq
 (.ops [⟨some 58,none,.move (.tmp 0)⟩,
 ⟨some 59,none,.nilCheck (.tmp 58)⟩,
 ⟨some 60,none,.field 1 (.tmp 59)⟩,
 ⟨some 61,none,.load1 (.tmp 60)⟩])
 (.block 0 (
 .seq
 (.ops [⟨some 63,none,.bin .eql .none (.tmp 61) (.val (.int .i64 0))⟩,
 ⟨some 62,none,.move (.tmp 63)⟩])
 (.cond (.tmp 62)
 (.ops [⟨some 64,none,.move (.tmp 3)⟩,
 ⟨some 65,none,.move (.tmp 4)⟩,
 ⟨some 66,none,.bin .add .none (.tmp 64) (.tmp 65)⟩,
 ⟨some 5,none,.move (.tmp 66)⟩])
 (.seq
 (.ops [⟨some 68,none,.bin .eql .none (.tmp 61) (.val (.int .i64 1))⟩,
 ⟨some 67,none,.move (.tmp 68)⟩])
 (.cond (.tmp 67)
 (.ops [⟨some 69,none,.move (.tmp 3)⟩,
 ⟨some 70,none,.move (.tmp 4)⟩,
 ⟨some 71,none,.bin .sub .none (.tmp 69) (.tmp 70)⟩,
 ⟨some 5,none,.move (.tmp 71)⟩])
 (.seq
 (.ops [⟨some 73,none,.bin .eql .none (.tmp 61) (.val (.int .i64 2))⟩,
 ⟨some 72,none,.move (.tmp 73)⟩])
 (.cond (.tmp 72)
 (.ops [⟨some 74,none,.move (.tmp 3)⟩,
 ⟨some 75,none,.move (.tmp 4)⟩,
 ⟨some 76,none,.bin .mul .none (.tmp 74) (.tmp 75)⟩,
 ⟨some 5,none,.move (.tmp 76)⟩])
 (.seq
 (.seq
 (.ops [⟨some 78,none,.bin .eql .none (.tmp 61) (.val (.int .i64 3))⟩,
 ⟨some 77,none,.move (.tmp 78)⟩])
 (.cond (.tmp 77)
 (.skip)
 (.ops [⟨some 79,none,.bin .eql .none (.tmp 61) (.val (.int .i64 4))⟩,
 ⟨some 77,none,.move (.tmp 79)⟩])))
 (.cond (.tmp 77)
 (.seq
 (.seq
 (.ops [⟨some 80,none,.move (.tmp 4)⟩,
 ⟨some 81,none,.bin .eql .none (.tmp 80) (.val (.int .i64 0))⟩])
 (.cond (.tmp 81)
 (.seq
 (.ops [⟨some 2,none,.move (.val (.ptr none))⟩])
 (.ret))
 (.skip)))
 (.seq
 (.ops [⟨some 82,none,.move (.tmp 3)⟩,
 ⟨some 83,none,.move (.tmp 4)⟩,
 ⟨some 84,none,.bin .quo .none (.tmp 82) (.tmp 83)⟩,
 ⟨some 5,none,.move (.tmp 84)⟩])
 (.seq
 (.ops [⟨some 85,none,.move (.tmp 0)⟩,
 ⟨some 86,none,.nilCheck (.tmp 85)⟩,
 ⟨some 87,none,.field 1 (.tmp 86)⟩,
 ⟨some 88,none,.load1 (.tmp 87)⟩,
 ⟨some 89,none,.bin .eql .none (.tmp 88) (.val (.int .i64 4))⟩])
 (.cond (.tmp 89)
 (.ops [⟨some 90,none,.move (.tmp 3)⟩,
 ⟨some 91,none,.move (.tmp 4)⟩,
 ⟨some 92,none,.bin .rem .none (.tmp 90) (.tmp 91)⟩,
 ⟨some 5,none,.move (.tmp 92)⟩])
 (.skip)))))
 (.seq
 (.ops [⟨some 94,none,.bin .eql .none (.tmp 61) (.val (.int .i64 6))⟩,
 ⟨some 93,none,.move (.tmp 94)⟩])
 (.cond (.tmp 93)
 (.ops [⟨some 95,none,.move (.tmp 3)⟩,
 ⟨some 96,none,.move (.tmp 4)⟩,
 ⟨some 97,none,.bin .eql .none (.tmp 95) (.tmp 96)⟩,
 ⟨some 6,none,.move (.tmp 97)⟩])
 (.skip)))))))))))))
 (.seq
 (.seq
 (.ops [⟨some 98,none,.move (.tmp 0)⟩,
 ⟨some 99,none,.nilCheck (.tmp 98)⟩,
 ⟨some 100,none,.field 1 (.tmp 99)⟩,
 ⟨some 101,none,.load1 (.tmp 100)⟩,
 ⟨some 102,none,.bin .lss .none (.tmp 101) (.val (.int .i64 5))⟩])
 (.cond (.tmp 102)
 (.seq
 (.ops [⟨some 103,none,.move (.tmp 5)⟩,
 ⟨some 104,none,.pcall 318 [(.tmp 103)]⟩,
 ⟨some 105,none,.build [(.int .i64 0),(.int .i64 0),(.list [] (some none)),(.list [] (some none)),(.list [] (some none))] [(0,1,(.val (.int .i64 1))),(1,1,(.tmp 104))]⟩,
 ⟨some 106,none,.box (.tmp 105)⟩,
 ⟨some 2,none,.move (.tmp 106)⟩])
 (.ret))
 (.skip)))
 (.seq
 (.ops [⟨some 107,none,.build [(.int .i64 0),(.int .i64 0),(.list [] (some none)),(.list [] (some none)),(.list [] (some none))] [(0,1,(.val (.int .i64 6)))]⟩,
 ⟨some 108,none,.box (.tmp 107)⟩,
 ⟨some 7,none,.move (.tmp 108)⟩])
 (.seq
 (.seq
 (.ops [⟨some 109,none,.move (.tmp 6)⟩])
 (.cond (.tmp 109)
 (.ops [⟨some 110,none,.move (.tmp 7)⟩,
 ⟨some 111,none,.nilCheck (.tmp 110)⟩,
 ⟨some 112,none,.field 1 (.tmp 111)⟩,
 ⟨none,none,.store 1 (.tmp 112) (.val (.int .i64 1))⟩])
 (.skip)))
 (.seq
 (.ops [⟨some 113,none,.move (.tmp 7)⟩,
 ⟨some 2,none,.move (.tmp 113)⟩])
 (.ret)))))))))))
def qid:ACode :=
 .seq
 (.ops [⟨some 28,none,.bin .lss .none (.tmp 27) (.tmp 26)⟩])
 (.seq
 (.cond (.tmp 28)
 (.skip)
 (.exit 0))
 (.seq
 (.block 1 (
 .seq
 (.ops [⟨some 29,none,.move (.tmp 27)⟩,
 ⟨some 30,none,.indexList 1 (.tmp 25) (.tmp 27)⟩,
 ⟨some 31,none,.load1 (.tmp 30)⟩,
 ⟨some 4,none,.move (.tmp 29)⟩,
 ⟨some 5,none,.move (.tmp 31)⟩])
 (.seq
 (.ops [⟨some 32,none,.move (.tmp 5)⟩,
 ⟨some 33,none,.move (.tmp 0)⟩,
 ⟨some 34,none,.nilCheck (.tmp 33)⟩,
 ⟨some 35,none,.field 1 (.tmp 34)⟩,
 ⟨some 36,none,.load1 (.tmp 35)⟩,
 ⟨some 37,none,.bin .eql .none (.tmp 32) (.tmp 36)⟩])
 (.cond (.tmp 37)
 (.seq
 (.ops [⟨some 38,none,.move (.tmp 3)⟩,
 ⟨some 39,none,.nilCheck (.tmp 38)⟩,
 ⟨some 40,none,.field 3 (.tmp 39)⟩,
 ⟨some 41,none,.load1 (.tmp 40)⟩,
 ⟨some 42,none,.move (.tmp 4)⟩,
 ⟨some 43,none,.indexList 1 (.tmp 41) (.tmp 42)⟩,
 ⟨some 44,none,.load1 (.tmp 43)⟩,
 ⟨some 2,none,.move (.tmp 44)⟩])
 (.ret))
 (.skip)))))
 (.ops [⟨some 45,none,.bin .add .none (.tmp 27) (.val (.int .i64 1))⟩,
 ⟨some 27,none,.move (.tmp 45)⟩])))
def fn302:AFn:=.mk [.tmp 2] (
 .seq
 (.ops [⟨some 2,none,.move (.val (.ptr none))⟩])
 (.seq
 (.ops [⟨some 6,none,.move (.tmp 0)⟩,
 ⟨some 7,none,.nilCheck (.tmp 6)⟩,
 ⟨some 8,none,.field 3 (.tmp 7)⟩,
 ⟨some 9,none,.load1 (.tmp 8)⟩,
 ⟨some 10,none,.indexList 1 (.tmp 9) (.val (.int .i64 0))⟩,
 ⟨some 11,none,.load1 (.tmp 10)⟩,
 ⟨some 3,none,.move (.tmp 11)⟩])
 (.seq
 (.seq
 (.ops [⟨some 12,none,.move (.tmp 3)⟩,
 ⟨some 13,none,.nilCheck (.tmp 12)⟩,
 ⟨some 14,none,.field 0 (.tmp 13)⟩,
 ⟨some 15,none,.load1 (.tmp 14)⟩,
 ⟨some 16,none,.bin .neq .none (.tmp 15) (.val (.int .i64 9))⟩,
 ⟨some 17,none,.move (.tmp 16)⟩,
 ⟨some 18,some (some 17,false),.move (.tmp 3)⟩,
 ⟨some 19,some (some 17,false),.vcall 317 [(.tmp 18)]⟩,
 ⟨some 20,some (some 17,false),.un .not (.tmp 19)⟩,
 ⟨some 21,none,.pick (.tmp 17) (.val (.bool true)) (.tmp 20)⟩])
 (.cond (.tmp 21)
 (.seq
 (.ops [⟨some 2,none,.move (.val (.ptr none))⟩])
 (.ret))
 (.skip)))
 (.seq
 (.seq
 (.ops [⟨some 22,none,.move (.tmp 3)⟩,
 ⟨some 23,none,.nilCheck (.tmp 22)⟩,
 ⟨some 24,none,.field 2 (.tmp 23)⟩,
 ⟨some 25,none,.load1 (.tmp 24)⟩,
 ⟨some 26,none,.len .slice (.tmp 25)⟩,
 ⟨some 27,none,.move (.val (.int .i64 0))⟩])
 (.frame [1000000,2] (
 .block 0 (
 .gloop [1000000,0,3,25,26,27] qid))))
 (.seq
 (.ops [⟨some 2,none,.move (.val (.ptr none))⟩])
 (.ret))))))
def fn319:AFn:=.mk [.tmp 2] (
 .seq
 (.ops [⟨some 2,none,.move (.val (.int .i64 0))⟩])
 (.seq
 (.seq
 (.ops [⟨some 3,none,.move (.tmp 0)⟩,
 ⟨some 4,none,.nilCheck (.tmp 3)⟩,
 ⟨some 5,none,.field 0 (.tmp 4)⟩,
 ⟨some 6,none,.load1 (.tmp 5)⟩])
 (.block 0 (
 .seq
 (.seq
 (.ops [⟨some 8,none,.bin .eql .none (.tmp 6) (.val (.int .i64 3))⟩,
 ⟨some 7,none,.move (.tmp 8)⟩])
 (.cond (.tmp 7)
 (.skip)
 (.seq
 (.ops [⟨some 9,none,.bin .eql .none (.tmp 6) (.val (.int .i64 6))⟩,
 ⟨some 7,none,.move (.tmp 9)⟩])
 (.cond (.tmp 7)
 (.skip)
 (.seq
 (.ops [⟨some 10,none,.bin .eql .none (.tmp 6) (.val (.int .i64 8))⟩,
 ⟨some 7,none,.move (.tmp 10)⟩])
 (.cond (.tmp 7)
 (.skip)
 (.seq
 (.ops [⟨some 11,none,.bin .eql .none (.tmp 6) (.val (.int .i64 9))⟩,
 ⟨some 7,none,.move (.tmp 11)⟩])
 (.cond (.tmp 7)
 (.skip)
 (.seq
 (.ops [⟨some 12,none,.bin .eql .none (.tmp 6) (.val (.int .i64 10))⟩,
 ⟨some 7,none,.move (.tmp 12)⟩])
 (.cond (.tmp 7)
 (.skip)
 (.ops [⟨some 13,none,.bin .eql .none (.tmp 6) (.val (.int .i64 11))⟩,
 ⟨some 7,none,.move (.tmp 13)⟩])))))))))))
 (.cond (.tmp 7)
 (.seq
 (.ops [⟨some 14,none,.move (.tmp 0)⟩,
 ⟨some 15,none,.nilCheck (.tmp 14)⟩,
 ⟨some 16,none,.field 3 (.tmp 15)⟩,
 ⟨some 17,none,.load1 (.tmp 16)⟩,
 ⟨some 18,none,.len .slice (.tmp 17)⟩,
 ⟨some 2,none,.move (.tmp 18)⟩])
 (.ret))
 (.seq
 (.seq
 (.ops [⟨some 20,none,.bin .eql .none (.tmp 6) (.val (.int .i64 7))⟩,
 ⟨some 19,none,.move (.tmp 20)⟩])
 (.cond (.tmp 19)
 (.skip)
 (.ops [⟨some 21,none,.bin .eql .none (.tmp 6) (.val (.int .i64 12))⟩,
 ⟨some 19,none,.move (.tmp 21)⟩])))
 (.cond (.tmp 19)
 (.seq
 (.ops [⟨some 2,none,.move (.val (.int .i64 1))⟩])
 (.ret))
 (.skip)))))))
 (.seq
 (.ops [⟨some 2,none,.move (.val (.int .i64 0))⟩])
 (.ret))))
def qtD:ACode :=
 .seq
 (.ops [⟨some 12,none,.bin .lss .none (.tmp 11) (.tmp 10)⟩])
 (.seq
 (.cond (.tmp 12)
 (.skip)
 (.exit 0))
 (.seq
 (.block 1 (
 .seq
 (.ops [⟨some 13,none,.indexList 1 (.tmp 9) (.tmp 11)⟩,
 ⟨some 14,none,.load1 (.tmp 13)⟩,
 ⟨some 5,none,.move (.tmp 14)⟩])
 (.ops [⟨some 15,none,.move (.tmp 3)⟩,
 ⟨some 16,none,.move (.tmp 5)⟩,
 ⟨some 17,none,.minMax true [(.tmp 15),(.tmp 16)]⟩,
 ⟨some 3,none,.move (.tmp 17)⟩])))
 (.ops [⟨some 18,none,.bin .add .none (.tmp 11) (.val (.int .i64 1))⟩,
 ⟨some 11,none,.move (.tmp 18)⟩])))
def qtE:ACode :=
 .seq
 (.ops [⟨some 25,none,.bin .lss .none (.tmp 24) (.tmp 23)⟩])
 (.seq
 (.cond (.tmp 25)
 (.skip)
 (.exit 2))
 (.seq
 (.block 3 (
 .seq
 (.ops [⟨some 26,none,.indexList 1 (.tmp 22) (.tmp 24)⟩,
 ⟨some 27,none,.load1 (.tmp 26)⟩,
 ⟨some 7,none,.move (.tmp 27)⟩])
 (.ops [⟨some 28,none,.move (.tmp 3)⟩,
 ⟨some 29,none,.move (.tmp 7)⟩,
 ⟨some 30,none,.pcall 256 [(.tmp 29)]⟩,
 ⟨some 31,none,.minMax true [(.tmp 28),(.tmp 30)]⟩,
 ⟨some 3,none,.move (.tmp 31)⟩])))
 (.ops [⟨some 32,none,.bin .add .none (.tmp 24) (.val (.int .i64 1))⟩,
 ⟨some 24,none,.move (.tmp 32)⟩])))
def fn256:AFn:=.mk [.tmp 2] (
 .seq
 (.ops [⟨some 2,none,.move (.val (.int .i64 0))⟩])
 (.seq
 (.ops [⟨some 3,none,.move (.val (.int .i64 (-1)))⟩])
 (.seq
 (.seq
 (.ops [⟨some 8,none,.move (.tmp 0)⟩,
 ⟨some 9,none,.call (.val (.func 232 [] [])) [(.tmp 8)]⟩,
 ⟨some 10,none,.len .slice (.tmp 9)⟩,
 ⟨some 11,none,.move (.val (.int .i64 0))⟩])
 (.frame [0,3] (
 .block 0 (
 .gloop [0,3,9,10,11] qtD))))
 (.seq
 (.seq
 (.ops [⟨some 19,none,.move (.tmp 0)⟩,
 ⟨some 20,none,.nilCheck (.tmp 19)⟩,
 ⟨some 21,none,.field 3 (.tmp 20)⟩,
 ⟨some 22,none,.load1 (.tmp 21)⟩,
 ⟨some 23,none,.len .slice (.tmp 22)⟩,
 ⟨some 24,none,.move (.val (.int .i64 0))⟩])
 (.frame [3] (
 .block 2 (
 .gloop [3,22,23,24] qtE))))
 (.seq
 (.ops [⟨some 33,none,.move (.tmp 3)⟩,
 ⟨some 2,none,.move (.tmp 33)⟩])
 (.ret))))))
def qtF:ACode :=
 .seq
 (.ops [⟨some 37,none,.bin .lss .none (.tmp 36) (.tmp 35)⟩])
 (.seq
 (.cond (.tmp 37)
 (.skip)
 (.exit 0))
 (.seq
 (.block 1 (
 .seq
 (.ops [⟨some 38,none,.indexList 1 (.tmp 34) (.tmp 36)⟩,
 ⟨some 39,none,.load1 (.tmp 38)⟩,
 ⟨some 8,none,.move (.tmp 39)⟩])
 (.seq
 (.ops [⟨some 40,none,.move (.tmp 8)⟩,
 ⟨some 41,none,.vcall 317 [(.tmp 40)]⟩,
 ⟨some 42,none,.un .not (.tmp 41)⟩])
 (.cond (.tmp 42)
 (.seq
 (.ops [⟨some 6,none,.move (.val (.ptr none))⟩])
 (.ret))
 (.skip)))))
 (.ops [⟨some 43,none,.bin .add .none (.tmp 36) (.val (.int .i64 1))⟩,
 ⟨some 36,none,.move (.tmp 43)⟩])))
def fn303:AFn:=.mk [.tmp 6] (
 .seq
 (.ops [⟨some 6,none,.move (.val (.ptr none))⟩])
 (.seq
 (.seq
 (.ops [⟨some 11,none,.move (.tmp 2)⟩,
 ⟨some 12,none,.bin .lss .none (.tmp 11) (.val (.int .i64 0))⟩,
 ⟨some 13,none,.move (.tmp 12)⟩,
 ⟨some 14,some (some 13,false),.move (.tmp 2)⟩,
 ⟨some 15,some (some 13,false),.move (.tmp 1)⟩,
 ⟨some 16,some (some 13,false),.vcall 319 [(.tmp 15)]⟩,
 ⟨some 17,some (some 13,false),.bin .geq .none (.tmp 14) (.tmp 16)⟩,
 ⟨some 18,none,.pick (.tmp 13) (.val (.bool true)) (.tmp 17)⟩,
 ⟨some 19,none,.move (.tmp 18)⟩,
 ⟨some 20,some (some 19,false),.move (.tmp 1)⟩,
 ⟨some 21,some (some 19,false),.nilCheck (.tmp 20)⟩,
 ⟨some 22,some (some 19,false),.field 3 (.tmp 21)⟩,
 ⟨some 23,some (some 19,false),.load1 (.tmp 22)⟩,
 ⟨some 24,some (some 19,false),.move (.tmp 2)⟩,
 ⟨some 25,some (some 19,false),.indexList 1 (.tmp 23) (.tmp 24)⟩,
 ⟨some 26,some (some 19,false),.load1 (.tmp 25)⟩,
 ⟨some 27,some (some 19,false),.vcall 315 [(.tmp 26)]⟩,
 ⟨some 28,none,.pick (.tmp 19) (.val (.bool true)) (.tmp 27)⟩])
 (.cond (.tmp 28)
 (.seq
 (.ops [⟨some 6,none,.move (.val (.ptr none))⟩])
 (.ret))
 (.skip)))
 (.seq
 (.seq
 (.ops [⟨some 29,none,.move (.tmp 1)⟩,
 ⟨some 30,none,.nilCheck (.tmp 29)⟩,
 ⟨some 31,none,.field 3 (.tmp 30)⟩,
 ⟨some 32,none,.load1 (.tmp 31)⟩,
 ⟨some 33,none,.move (.tmp 2)⟩,
 ⟨some 34,none,.slice 1 (.tmp 32) none (some (.tmp 33)) none⟩,
 ⟨some 35,none,.len .slice (.tmp 34)⟩,
 ⟨some 36,none,.move (.val (.int .i64 0))⟩])
 (.frame [1000000,0,1,2,6] (
 .block 0 (
 .gloop [1000000,0,1,2,34,35,36] qtF))))
 (.seq
 (.ops [⟨some 44,none,.move (.tmp 0)⟩,
 ⟨some 45,none,.nilCheck (.tmp 44)⟩,
 ⟨some 46,none,.field 1 (.tmp 45)⟩,
 ⟨some 47,none,.load1 (.tmp 46)⟩,
 ⟨some 48,none,.vcall 256 [(.tmp 47)]⟩,
 ⟨some 49,none,.bin .add .none (.tmp 48) (.val (.int .i64 1))⟩,
 ⟨some 9,none,.move (.tmp 49)⟩])
 (.seq
 (.ops [⟨some 50,none,.move (.tmp 1)⟩,
 ⟨some 51,none,.nilCheck (.tmp 50)⟩,
 ⟨some 52,none,.loadN 5 (.tmp 51)⟩,
 ⟨some 10,none,.alloc [(.int .i64 0),(.int .i64 0),(.list [] (some none)),(.list [] (some none)),(.list [] (some none))]⟩,
 ⟨none,none,.store 5 (.tmp 10) (.tmp 52)⟩])
 (.seq
 (.ops [⟨some 53,none,.move (.tmp 1)⟩,
 ⟨some 54,none,.nilCheck (.tmp 53)⟩,
 ⟨some 55,none,.field 3 (.tmp 54)⟩,
 ⟨some 56,none,.load1 (.tmp 55)⟩,
 ⟨some 57,none,.append 1 8 (.val (.list [] (some none))) (.tmp 56)⟩,
 ⟨some 58,none,.field 3 (.tmp 10)⟩,
 ⟨none,none,.store 1 (.tmp 58) (.tmp 57)⟩])
 (.seq
 (.ops [⟨some 59,none,.field 3 (.tmp 10)⟩,
 ⟨some 60,none,.load1 (.tmp 59)⟩,
 ⟨some 61,none,.move (.tmp 2)⟩,
 ⟨some 62,none,.move (.tmp 9)⟩,
 ⟨some 63,none,.build [(.int .i64 0),(.int .i64 0),(.list [] (some none)),(.list [] (some none)),(.list [] (some none))] [(0,1,(.val (.int .i64 0))),(1,1,(.tmp 62))]⟩,
 ⟨some 64,none,.box (.tmp 63)⟩,
 ⟨some 65,none,.indexList 1 (.tmp 60) (.tmp 61)⟩,
 ⟨none,none,.store 1 (.tmp 65) (.tmp 64)⟩])
 (.seq
 (.ops [⟨some 66,none,.move (.tmp 9)⟩,
 ⟨some 67,none,.move (.tmp 1)⟩,
 ⟨some 68,none,.nilCheck (.tmp 67)⟩,
 ⟨some 69,none,.field 3 (.tmp 68)⟩,
 ⟨some 70,none,.load1 (.tmp 69)⟩,
 ⟨some 71,none,.move (.tmp 2)⟩,
 ⟨some 72,none,.indexList 1 (.tmp 70) (.tmp 71)⟩,
 ⟨some 73,none,.load1 (.tmp 72)⟩,
 ⟨some 74,none,.hcall (.val (.func 313 [] [])) [(.tmp 66),(.tmp 73),(.tmp 10)]⟩,
 ⟨some 6,none,.move (.tmp 74)⟩])
 (.ret)))))))))
def qtG:ACode :=
 .seq
 (.ops [⟨some 24,none,.bin .lss .none (.tmp 23) (.tmp 22)⟩])
 (.seq
 (.cond (.tmp 24)
 (.skip)
 (.exit 2))
 (.seq
 (.block 3 (
 .seq
 (.ops [⟨some 25,none,.move (.tmp 23)⟩,
 ⟨some 26,none,.indexList 1 (.tmp 21) (.tmp 23)⟩,
 ⟨some 27,none,.load1 (.tmp 26)⟩,
 ⟨some 7,none,.move (.tmp 25)⟩,
 ⟨some 8,none,.move (.tmp 27)⟩])
 (.seq
 (.ops [⟨some 28,none,.move (.tmp 8)⟩,
 ⟨some 29,none,.move (.tmp 1)⟩,
 ⟨some 30,none,.bin .eql .none (.tmp 28) (.tmp 29)⟩,
 ⟨some 31,none,.move (.tmp 30)⟩,
 ⟨some 32,some (some 31,true),.move (.tmp 6)⟩,
 ⟨some 33,some (some 31,true),.nilCheck (.tmp 32)⟩,
 ⟨some 34,some (some 31,true),.field 0 (.tmp 33)⟩,
 ⟨some 35,some (some 31,true),.load1 (.tmp 34)⟩,
 ⟨some 36,some (some 31,true),.bin .eql .none (.tmp 35) (.val (.int .i64 4))⟩,
 ⟨some 37,some (some 31,true),.move (.tmp 36)⟩,
 ⟨some 38,some (some 37,false),.move (.tmp 6)⟩,
 ⟨some 39,some (some 37,false),.nilCheck (.tmp 38)⟩,
 ⟨some 40,some (some 37,false),.field 0 (.tmp 39)⟩,
 ⟨some 41,some (some 37,false),.load1 (.tmp 40)⟩,
 ⟨some 42,some (some 37,false),.bin .eql .none (.tmp 41) (.val (.int .i64 5))⟩,
 ⟨some 43,some (some 31,true),.pick (.tmp 37) (.val (.bool true)) (.tmp 42)⟩,
 ⟨some 44,none,.pick (.tmp 31) (.tmp 43) (.val (.bool false))⟩,
 ⟨some 45,none,.move (.tmp 44)⟩,
 ⟨some 46,some (some 45,true),.move (.tmp 6)⟩,
 ⟨some 47,some (some 45,true),.nilCheck (.tmp 46)⟩,
 ⟨some 48,some (some 45,true),.field 3 (.tmp 47)⟩,
 ⟨some 49,some (some 45,true),.load1 (.tmp 48)⟩,
 ⟨some 50,some (some 45,true),.move (.tmp 7)⟩,
 ⟨some 51,some (some 45,true),.indexList 1 (.tmp 49) (.tmp 50)⟩,
 ⟨some 52,some (some 45,true),.load1 (.tmp 51)⟩,
 ⟨some 53,some (some 45,true),.nilCheck (.tmp 52)⟩,
 ⟨some 54,some (some 45,true),.field 0 (.tmp 53)⟩,
 ⟨some 55,some (some 45,true),.load1 (.tmp 54)⟩,
 ⟨some 56,some (some 45,true),.bin .eql .none (.tmp 55) (.val (.int .i64 2))⟩,
 ⟨some 57,none,.pick (.tmp 45) (.tmp 56) (.val (.bool false))⟩])
 (.cond (.tmp 57)
 (.seq
 (.ops [⟨some 58,none,.move (.tmp 6)⟩,
 ⟨some 59,none,.nilCheck (.tmp 58)⟩,
 ⟨some 60,none,.field 3 (.tmp 59)⟩,
 ⟨some 61,none,.load1 (.tmp 60)⟩,
 ⟨some 62,none,.move (.tmp 7)⟩,
 ⟨some 63,none,.indexList 1 (.tmp 61) (.tmp 62)⟩,
 ⟨some 64,none,.load1 (.tmp 63)⟩,
 ⟨some 4,none,.move (.tmp 64)⟩])
 (.ret))
 (.skip)))))
 (.ops [⟨some 65,none,.bin .add .none (.tmp 23) (.val (.int .i64 1))⟩,
 ⟨some 23,none,.move (.tmp 65)⟩])))
def qtH:ACode :=
 .seq
 (.ops [⟨some 15,none,.bin .lss .none (.tmp 14) (.tmp 13)⟩])
 (.seq
 (.cond (.tmp 15)
 (.skip)
 (.exit 0))
 (.seq
 (.block 1 (
 .seq
 (.ops [⟨some 16,none,.indexList 1 (.tmp 12) (.tmp 14)⟩,
 ⟨some 17,none,.load1 (.tmp 16)⟩,
 ⟨some 6,none,.move (.tmp 17)⟩])
 (.seq
 (.ops [⟨some 18,none,.move (.tmp 6)⟩,
 ⟨some 19,none,.nilCheck (.tmp 18)⟩,
 ⟨some 20,none,.field 2 (.tmp 19)⟩,
 ⟨some 21,none,.load1 (.tmp 20)⟩,
 ⟨some 22,none,.len .slice (.tmp 21)⟩,
 ⟨some 23,none,.move (.val (.int .i64 0))⟩])
 (.frame [1000000,1,4,12,13,14] (
 .block 2 (
 .gloop [1000000,1,6,12,13,14,21,22,23] qtG))))))
 (.ops [⟨some 66,none,.bin .add .none (.tmp 14) (.val (.int .i64 1))⟩,
 ⟨some 14,none,.move (.tmp 66)⟩])))
def fn320:AFn:=.mk [.tmp 4] (
 .seq
 (.ops [⟨some 4,none,.move (.val (.ptr none))⟩])
 (.seq
 (.seq
 (.ops [⟨some 9,none,.move (.tmp 0)⟩,
 ⟨some 10,none,.nilCheck (.tmp 9)⟩,
 ⟨some 11,none,.field 0 (.tmp 10)⟩,
 ⟨some 12,none,.load1 (.tmp 11)⟩,
 ⟨some 13,none,.len .slice (.tmp 12)⟩,
 ⟨some 14,none,.move (.val (.int .i64 0))⟩])
 (.frame [1000000,4] (
 .block 0 (
 .gloop [1000000,1,12,13,14] qtH))))
 (.seq
 (.ops [⟨some 4,none,.move (.val (.ptr none))⟩])
 (.ret))))
def fm159:AFn:=.mk [.tmp 2] (
 .seq
 (.ops [⟨some 2,none,.move (.val (.list [] (some none)))⟩])
 (.seq
 (.ops [⟨some 3,none,.alloc [(.list [] (some none))]⟩])
 (.seq
 (.ops [⟨some 4,none,.alloc [.nilFunc]⟩])
 (.seq
 (.ops [⟨some 5,none,.makeFunc 187 [] [(.tmp 4),(.tmp 3)]⟩,
 ⟨none,none,.store 1 (.tmp 4) (.tmp 5)⟩])
 (.seq
 (.ops [⟨some 6,none,.load1 (.tmp 4)⟩,
 ⟨some 7,none,.move (.tmp 0)⟩,
 ⟨some 8,none,.hcall (.tmp 6) [(.tmp 7)]⟩])
 (.seq
 (.ops [⟨some 9,none,.load1 (.tmp 3)⟩,
 ⟨some 2,none,.move (.tmp 9)⟩])
 (.ret)))))))
def qg0:ACode :=
 .seq
 (.ops [⟨some 30,none,.bin .lss .none (.tmp 29) (.tmp 28)⟩])
 (.seq
 (.cond (.tmp 30)
 (.skip)
 (.exit 0))
 (.seq
 (.block 1 (
 .seq
 (.ops [⟨some 31,none,.indexList 1 (.tmp 27) (.tmp 29)⟩,
 ⟨some 32,none,.load1 (.tmp 31)⟩,
 ⟨some 7,none,.move (.tmp 32)⟩])
 (.draw [⟨some 33,none,.field 3 (.tmp 5)⟩,
 ⟨some 34,none,.load1 (.tmp 33)⟩,
 ⟨some 35,none,.load1 (.tmp 1)⟩,
 ⟨some 36,none,.move (.tmp 7)⟩,
 ⟨some 37,none,.hcall (.tmp 35) [(.tmp 36)]⟩,
 ⟨some 38,none,.buildSlice 1 [(.tmp 37)]⟩,
 ⟨some 39,none,.append 1 8 (.tmp 34) (.tmp 38)⟩,
 ⟨some 40,none,.field 3 (.tmp 5)⟩,
 ⟨none,none,.store 1 (.tmp 40) (.tmp 39)⟩]
 [(1,0,1)])))
 (.ops [⟨some 41,none,.bin .add .none (.tmp 29) (.val (.int .i64 1))⟩,
 ⟨some 29,none,.move (.tmp 41)⟩])))
def qg1:ACode :=
 .seq
 (.ops [⟨some 48,none,.bin .lss .none (.tmp 47) (.tmp 46)⟩])
 (.seq
 (.cond (.tmp 48)
 (.skip)
 (.exit 2))
 (.seq
 (.block 3 (
 .seq
 (.ops [⟨some 49,none,.indexList 2 (.tmp 45) (.tmp 47)⟩,
 ⟨some 50,none,.loadN 2 (.tmp 49)⟩,
 ⟨some 9,none,.alloc [(.int .i64 0),(.list [] (some none))]⟩,
 ⟨none,none,.store 2 (.tmp 9) (.tmp 50)⟩])
 (.draw [⟨some 51,none,.field 4 (.tmp 5)⟩,
 ⟨some 52,none,.load1 (.tmp 51)⟩,
 ⟨some 53,none,.field 0 (.tmp 9)⟩,
 ⟨some 54,none,.load1 (.tmp 53)⟩,
 ⟨some 55,none,.field 1 (.tmp 9)⟩,
 ⟨some 56,none,.load1 (.tmp 55)⟩,
 ⟨some 57,none,.pcall 188 [(.tmp 56)]⟩,
 ⟨some 58,none,.build [(.int .i64 0),(.list [] (some none))] [(0,1,(.tmp 54)),(1,1,(.tmp 57))]⟩,
 ⟨some 59,none,.buildSlice 2 [(.tmp 58)]⟩,
 ⟨some 60,none,.append 2 32 (.tmp 52) (.tmp 59)⟩,
 ⟨some 61,none,.field 4 (.tmp 5)⟩,
 ⟨none,none,.store 1 (.tmp 61) (.tmp 60)⟩]
 [])))
 (.ops [⟨some 62,none,.bin .add .none (.tmp 47) (.val (.int .i64 1))⟩,
 ⟨some 47,none,.move (.tmp 62)⟩])))
def fm187:AFn:=.mk [.tmp 4] (
 .seq
 (.ops [⟨some 4,none,.move (.val (.int .i64 0))⟩])
 (.seq
 (.draw [⟨some 10,none,.move (.tmp 0)⟩,
 ⟨some 11,none,.nilCheck (.tmp 10)⟩,
 ⟨some 12,none,.field 0 (.tmp 11)⟩,
 ⟨some 13,none,.load1 (.tmp 12)⟩,
 ⟨some 14,none,.move (.tmp 0)⟩,
 ⟨some 15,none,.nilCheck (.tmp 14)⟩,
 ⟨some 16,none,.field 1 (.tmp 15)⟩,
 ⟨some 17,none,.load1 (.tmp 16)⟩,
 ⟨some 18,none,.move (.tmp 0)⟩,
 ⟨some 19,none,.nilCheck (.tmp 18)⟩,
 ⟨some 20,none,.field 2 (.tmp 19)⟩,
 ⟨some 21,none,.load1 (.tmp 20)⟩,
 ⟨some 22,none,.pcall 188 [(.tmp 21)]⟩,
 ⟨some 23,none,.build [(.int .i64 0),(.int .i64 0),(.list [] (some none)),(.list [] (some none)),(.list [] (some none))] [(0,1,(.tmp 13)),(1,1,(.tmp 17)),(2,1,(.tmp 22))]⟩,
 ⟨some 5,none,.alloc [(.int .i64 0),(.int .i64 0),(.list [] (some none)),(.list [] (some none)),(.list [] (some none))]⟩,
 ⟨none,none,.store 5 (.tmp 5) (.tmp 23)⟩]
 [(3,0,1),(7,0,1),(11,0,1)])
 (.seq
 (.seq
 (.ops [⟨some 24,none,.move (.tmp 0)⟩,
 ⟨some 25,none,.nilCheck (.tmp 24)⟩,
 ⟨some 26,none,.field 3 (.tmp 25)⟩,
 ⟨some 27,none,.load1 (.tmp 26)⟩,
 ⟨some 28,none,.len .slice (.tmp 27)⟩,
 ⟨some 29,none,.move (.val (.int .i64 0))⟩])
 (.frame [1000000,0,2,5] (
 .block 0 (
 .gloop [1000000,0,1,2,5,27,28,29] qg0))))
 (.seq
 (.seq
 (.ops [⟨some 42,none,.move (.tmp 0)⟩,
 ⟨some 43,none,.nilCheck (.tmp 42)⟩,
 ⟨some 44,none,.field 4 (.tmp 43)⟩,
 ⟨some 45,none,.load1 (.tmp 44)⟩,
 ⟨some 46,none,.len .slice (.tmp 45)⟩,
 ⟨some 47,none,.move (.val (.int .i64 0))⟩])
 (.frame [1000000,2,5] (
 .block 2 (
 .gloop [1000000,2,5,45,46,47] qg1))))
 (.seq
 (.ops [⟨some 63,none,.load1 (.tmp 2)⟩,
 ⟨some 64,none,.loadN 5 (.tmp 5)⟩,
 ⟨some 65,none,.buildSlice 5 [(.tmp 64)]⟩,
 ⟨some 66,none,.append 5 88 (.tmp 63) (.tmp 65)⟩,
 ⟨none,none,.store 1 (.tmp 2) (.tmp 66)⟩])
 (.seq
 (.ops [⟨some 67,none,.load1 (.tmp 2)⟩,
 ⟨some 68,none,.len .slice (.tmp 67)⟩,
 ⟨some 69,none,.bin .sub .none (.tmp 68) (.val (.int .i64 1))⟩,
 ⟨some 4,none,.move (.tmp 69)⟩])
 (.ret)))))))
def fn316:AFn:=.mk [.tmp 2] (
 .seq
 (.ops [⟨some 2,none,.move (.val (.ptr none))⟩])
 (.seq
 (.ops [⟨some 3,none,.move (.tmp 0)⟩,
 ⟨some 4,none,.hcall (.val (.func 159 [] [])) [(.tmp 3)]⟩,
 ⟨some 5,none,.hcall (.val (.func 160 [] [])) [(.tmp 4)]⟩,
 ⟨some 2,none,.move (.tmp 5)⟩])
 (.ret)))
def fn304:AFn:=.mk [.tmp 4] (
 .seq
 (.ops [⟨some 4,none,.move (.val (.ptr none))⟩])
 (.seq
 (.ops [⟨some 7,none,.move (.tmp 0)⟩,
 ⟨some 8,none,.move (.tmp 1)⟩,
 ⟨some 9,none,.nilCheck (.tmp 8)⟩,
 ⟨some 10,none,.field 1 (.tmp 9)⟩,
 ⟨some 11,none,.load1 (.tmp 10)⟩,
 ⟨some 12,none,.hcall (.val (.func 320 [] [])) [(.tmp 7),(.tmp 11)]⟩,
 ⟨some 5,none,.move (.tmp 12)⟩])
 (.seq
 (.seq
 (.ops [⟨some 13,none,.move (.tmp 5)⟩,
 ⟨some 14,none,.bin .eql .pointer (.tmp 13) (.val (.ptr none))⟩])
 (.cond (.tmp 14)
 (.seq
 (.ops [⟨some 4,none,.move (.val (.ptr none))⟩])
 (.ret))
 (.skip)))
 (.seq
 (.ops [⟨some 15,none,.move (.tmp 5)⟩,
 ⟨some 16,none,.hcall (.val (.func 316 [] [])) [(.tmp 15)]⟩,
 ⟨some 6,none,.move (.tmp 16)⟩])
 (.seq
 (.ops [⟨some 17,none,.move (.tmp 6)⟩,
 ⟨some 18,none,.move (.tmp 0)⟩,
 ⟨some 19,none,.nilCheck (.tmp 18)⟩,
 ⟨some 20,none,.field 1 (.tmp 19)⟩,
 ⟨some 21,none,.load1 (.tmp 20)⟩,
 ⟨some 22,none,.vcall 256 [(.tmp 21)]⟩,
 ⟨some 23,none,.bin .add .none (.tmp 22) (.val (.int .i64 1))⟩,
 ⟨some 24,none,.hcall (.val (.func 171 [] [])) [(.tmp 17),(.tmp 23)]⟩])
 (.seq
 (.ops [⟨some 25,none,.move (.tmp 6)⟩,
 ⟨some 4,none,.move (.tmp 25)⟩])
 (.ret)))))))
def qhc:ACode :=
 .seq
 (.ops [⟨some 42,none,.bin .lss .none (.tmp 41) (.tmp 40)⟩])
 (.seq
 (.cond (.tmp 42)
 (.skip)
 (.exit 1))
 (.seq
 (.block 2 (
 .seq
 (.ops [⟨some 43,none,.indexList 1 (.tmp 39) (.tmp 41)⟩,
 ⟨some 44,none,.load1 (.tmp 43)⟩,
 ⟨some 10,none,.move (.tmp 44)⟩])
 (.ops [⟨some 45,none,.move (.tmp 10)⟩,
 ⟨some 46,none,.move (.tmp 5)⟩,
 ⟨some 47,none,.hcall (.val (.func 316 [] [])) [(.tmp 46)]⟩,
 ⟨some 48,none,.nilCheck (.tmp 47)⟩,
 ⟨some 49,none,.loadN 5 (.tmp 48)⟩,
 ⟨some 50,none,.nilCheck (.tmp 45)⟩,
 ⟨none,none,.store 5 (.tmp 50) (.tmp 49)⟩])))
 (.ops [⟨some 51,none,.bin .add .none (.tmp 41) (.val (.int .i64 1))⟩,
 ⟨some 41,none,.move (.tmp 51)⟩])))
def fn298:AFn:=.mk [.tmp 4] (
 .seq
 (.ops [⟨some 4,none,.move (.val (.ptr none))⟩])
 (.seq
 (.draw [⟨some 11,none,.move (.tmp 1)⟩,
 ⟨some 12,none,.nilCheck (.tmp 11)⟩,
 ⟨some 13,none,.field 3 (.tmp 12)⟩,
 ⟨some 14,none,.load1 (.tmp 13)⟩,
 ⟨some 15,none,.indexList 1 (.tmp 14) (.val (.int .i64 0))⟩,
 ⟨some 16,none,.load1 (.tmp 15)⟩,
 ⟨some 17,none,.move (.tmp 1)⟩,
 ⟨some 18,none,.nilCheck (.tmp 17)⟩,
 ⟨some 19,none,.field 3 (.tmp 18)⟩,
 ⟨some 20,none,.load1 (.tmp 19)⟩,
 ⟨some 21,none,.indexList 1 (.tmp 20) (.val (.int .i64 1))⟩,
 ⟨some 22,none,.load1 (.tmp 21)⟩,
 ⟨some 5,none,.move (.tmp 16)⟩,
 ⟨some 6,none,.move (.tmp 22)⟩]
 [])
 (.seq
 (.ops [⟨some 23,none,.move (.tmp 1)⟩,
 ⟨some 24,none,.nilCheck (.tmp 23)⟩,
 ⟨some 25,none,.field 2 (.tmp 24)⟩,
 ⟨some 26,none,.load1 (.tmp 25)⟩,
 ⟨some 27,none,.indexList 1 (.tmp 26) (.val (.int .i64 0))⟩,
 ⟨some 28,none,.load1 (.tmp 27)⟩,
 ⟨some 7,none,.move (.tmp 28)⟩])
 (.seq
 (.ops [⟨some 29,none,.move (.tmp 6)⟩,
 ⟨some 30,none,.move (.tmp 7)⟩,
 ⟨some 31,none,.hcall (.val (.func 314 [] [])) [(.tmp 29),(.tmp 30)]⟩,
 ⟨some 8,none,.move (.tmp 31)⟩])
 (.seq
 (.block 0 (
 .seq
 (.ops [⟨some 33,none,.move (.tmp 0)⟩,
 ⟨some 34,none,.bin .eql .none (.tmp 33) (.val (.int .i64 2))⟩,
 ⟨some 35,none,.move (.tmp 34)⟩,
 ⟨some 36,some (some 35,true),.move (.tmp 5)⟩,
 ⟨some 37,some (some 35,true),.vcall 315 [(.tmp 36)]⟩,
 ⟨some 38,none,.pick (.tmp 35) (.tmp 37) (.val (.bool false))⟩,
 ⟨some 32,none,.move (.tmp 38)⟩])
 (.cond (.tmp 32)
 (.seq
 (.seq
 (.ops [⟨some 39,none,.move (.tmp 8)⟩,
 ⟨some 40,none,.len .slice (.tmp 39)⟩,
 ⟨some 41,none,.move (.val (.int .i64 0))⟩])
 (.frame [1000000,6] (
 .block 1 (
 .gloop [1000000,5,6,39,40,41] qhc))))
 (.seq
 (.ops [⟨some 52,none,.move (.tmp 6)⟩,
 ⟨some 4,none,.move (.tmp 52)⟩])
 (.ret)))
 (.seq
 (.ops [⟨some 54,none,.move (.tmp 0)⟩,
 ⟨some 55,none,.bin .eql .none (.tmp 54) (.val (.int .i64 3))⟩,
 ⟨some 56,none,.move (.tmp 55)⟩,
 ⟨some 57,some (some 56,true),.move (.tmp 8)⟩,
 ⟨some 58,some (some 56,true),.len .slice (.tmp 57)⟩,
 ⟨some 59,some (some 56,true),.bin .eql .none (.tmp 58) (.val (.int .i64 0))⟩,
 ⟨some 60,none,.pick (.tmp 56) (.tmp 59) (.val (.bool false))⟩,
 ⟨some 61,none,.move (.tmp 60)⟩,
 ⟨some 62,some (some 61,true),.move (.tmp 5)⟩,
 ⟨some 63,some (some 61,true),.vcall 317 [(.tmp 62)]⟩,
 ⟨some 64,none,.pick (.tmp 61) (.tmp 63) (.val (.bool false))⟩,
 ⟨some 53,none,.move (.tmp 64)⟩])
 (.cond (.tmp 53)
 (.seq
 (.ops [⟨some 65,none,.move (.tmp 6)⟩,
 ⟨some 4,none,.move (.tmp 65)⟩])
 (.ret))
 (.seq
 (.ops [⟨some 67,none,.move (.tmp 0)⟩,
 ⟨some 68,none,.bin .eql .none (.tmp 67) (.val (.int .i64 8))⟩,
 ⟨some 69,none,.move (.tmp 68)⟩,
 ⟨some 70,some (some 69,true),.move (.tmp 5)⟩,
 ⟨some 71,some (some 69,true),.nilCheck (.tmp 70)⟩,
 ⟨some 72,some (some 69,true),.field 0 (.tmp 71)⟩,
 ⟨some 73,some (some 69,true),.load1 (.tmp 72)⟩,
 ⟨some 74,some (some 69,true),.bin .eql .none (.tmp 73) (.val (.int .i64 4))⟩,
 ⟨some 75,none,.pick (.tmp 69) (.tmp 74) (.val (.bool false))⟩,
 ⟨some 66,none,.move (.tmp 75)⟩])
 (.cond (.tmp 66)
 (.seq
 (.draw [⟨some 76,none,.move (.tmp 5)⟩,
 ⟨some 77,none,.nilCheck (.tmp 76)⟩,
 ⟨some 78,none,.field 2 (.tmp 77)⟩,
 ⟨some 79,none,.load1 (.tmp 78)⟩,
 ⟨some 80,none,.indexList 1 (.tmp 79) (.val (.int .i64 0))⟩,
 ⟨some 81,none,.load1 (.tmp 80)⟩,
 ⟨some 82,none,.move (.tmp 5)⟩,
 ⟨some 83,none,.nilCheck (.tmp 82)⟩,
 ⟨some 84,none,.field 3 (.tmp 83)⟩,
 ⟨some 85,none,.load1 (.tmp 84)⟩,
 ⟨some 86,none,.indexList 1 (.tmp 85) (.val (.int .i64 0))⟩,
 ⟨some 87,none,.load1 (.tmp 86)⟩,
 ⟨some 88,none,.move (.tmp 7)⟩,
 ⟨some 89,none,.move (.tmp 5)⟩,
 ⟨some 90,none,.nilCheck (.tmp 89)⟩,
 ⟨some 91,none,.field 3 (.tmp 90)⟩,
 ⟨some 92,none,.load1 (.tmp 91)⟩,
 ⟨some 93,none,.indexList 1 (.tmp 92) (.val (.int .i64 1))⟩,
 ⟨some 94,none,.load1 (.tmp 93)⟩,
 ⟨some 95,none,.move (.tmp 6)⟩,
 ⟨some 96,none,.hcall (.val (.func 313 [] [])) [(.tmp 88),(.tmp 94),(.tmp 95)]⟩,
 ⟨some 97,none,.hcall (.val (.func 313 [] [])) [(.tmp 81),(.tmp 87),(.tmp 96)]⟩,
 ⟨some 4,none,.move (.tmp 97)⟩]
 [(3,0,1),(5,0,1),(9,0,1),(11,0,1)])
 (.ret))
 (.seq
 (.ops [⟨some 99,none,.move (.tmp 0)⟩,
 ⟨some 100,none,.bin .eql .none (.tmp 99) (.val (.int .i64 9))⟩,
 ⟨some 101,none,.move (.tmp 100)⟩,
 ⟨some 102,some (some 101,true),.move (.tmp 5)⟩,
 ⟨some 103,some (some 101,true),.nilCheck (.tmp 102)⟩,
 ⟨some 104,some (some 101,true),.field 0 (.tmp 103)⟩,
 ⟨some 105,some (some 101,true),.load1 (.tmp 104)⟩,
 ⟨some 106,some (some 101,true),.bin .eql .none (.tmp 105) (.val (.int .i64 7))⟩,
 ⟨some 107,none,.pick (.tmp 101) (.tmp 106) (.val (.bool false))⟩,
 ⟨some 108,none,.move (.tmp 107)⟩,
 ⟨some 109,some (some 108,true),.move (.tmp 5)⟩,
 ⟨some 110,some (some 108,true),.nilCheck (.tmp 109)⟩,
 ⟨some 111,some (some 108,true),.field 4 (.tmp 110)⟩,
 ⟨some 112,some (some 108,true),.load1 (.tmp 111)⟩,
 ⟨some 113,some (some 108,true),.len .slice (.tmp 112)⟩,
 ⟨some 114,some (some 108,true),.bin .eql .none (.tmp 113) (.val (.int .i64 1))⟩,
 ⟨some 115,none,.pick (.tmp 108) (.tmp 114) (.val (.bool false))⟩,
 ⟨some 98,none,.move (.tmp 115)⟩])
 (.cond (.tmp 98)
 (.seq
 (.draw [⟨some 116,none,.move (.tmp 5)⟩,
 ⟨some 117,none,.nilCheck (.tmp 116)⟩,
 ⟨some 118,none,.field 4 (.tmp 117)⟩,
 ⟨some 119,none,.load1 (.tmp 118)⟩,
 ⟨some 120,none,.move (.tmp 5)⟩,
 ⟨some 121,none,.nilCheck (.tmp 120)⟩,
 ⟨some 122,none,.field 3 (.tmp 121)⟩,
 ⟨some 123,none,.load1 (.tmp 122)⟩,
 ⟨some 124,none,.indexList 1 (.tmp 123) (.val (.int .i64 0))⟩,
 ⟨some 125,none,.load1 (.tmp 124)⟩,
 ⟨some 126,none,.move (.tmp 7)⟩,
 ⟨some 127,none,.move (.tmp 5)⟩,
 ⟨some 128,none,.nilCheck (.tmp 127)⟩,
 ⟨some 129,none,.field 3 (.tmp 128)⟩,
 ⟨some 130,none,.load1 (.tmp 129)⟩,
 ⟨some 131,none,.indexList 1 (.tmp 130) (.val (.int .i64 1))⟩,
 ⟨some 132,none,.load1 (.tmp 131)⟩,
 ⟨some 133,none,.move (.tmp 6)⟩,
 ⟨some 134,none,.hcall (.val (.func 313 [] [])) [(.tmp 126),(.tmp 132),(.tmp 133)]⟩,
 ⟨some 135,none,.buildSlice 1 [(.tmp 125),(.tmp 134)]⟩,
 ⟨some 136,none,.build [(.int .i64 0),(.int .i64 0),(.list [] (some none)),(.list [] (some none)),(.list [] (some none))] [(0,1,(.val (.int .i64 7))),(4,1,(.tmp 119)),(3,1,(.tmp 135))]⟩,
 ⟨some 137,none,.box (.tmp 136)⟩,
 ⟨some 4,none,.move (.tmp 137)⟩]
 [(3,0,1),(7,0,1),(9,0,1)])
 (.ret))
 (.seq
 (.ops [⟨some 139,none,.move (.tmp 0)⟩,
 ⟨some 140,none,.bin .eql .none (.tmp 139) (.val (.int .i64 11))⟩,
 ⟨some 141,none,.move (.tmp 140)⟩,
 ⟨some 142,some (some 141,true),.move (.tmp 5)⟩,
 ⟨some 143,some (some 141,true),.nilCheck (.tmp 142)⟩,
 ⟨some 144,some (some 141,true),.field 0 (.tmp 143)⟩,
 ⟨some 145,some (some 141,true),.load1 (.tmp 144)⟩,
 ⟨some 146,some (some 141,true),.bin .eql .none (.tmp 145) (.val (.int .i64 2))⟩,
 ⟨some 147,none,.pick (.tmp 141) (.tmp 146) (.val (.bool false))⟩,
 ⟨some 148,none,.move (.tmp 147)⟩,
 ⟨some 149,some (some 148,true),.move (.tmp 8)⟩,
 ⟨some 150,some (some 148,true),.len .slice (.tmp 149)⟩,
 ⟨some 151,some (some 148,true),.bin .eql .none (.tmp 150) (.val (.int .i64 1))⟩,
 ⟨some 152,none,.pick (.tmp 148) (.tmp 151) (.val (.bool false))⟩,
 ⟨some 138,none,.move (.tmp 152)⟩])
 (.cond (.tmp 138)
 (.seq
 (.draw [⟨some 153,none,.move (.tmp 8)⟩,
 ⟨some 154,none,.indexList 1 (.tmp 153) (.val (.int .i64 0))⟩,
 ⟨some 155,none,.load1 (.tmp 154)⟩,
 ⟨some 156,none,.move (.tmp 5)⟩,
 ⟨some 157,none,.nilCheck (.tmp 156)⟩,
 ⟨some 158,none,.loadN 5 (.tmp 157)⟩,
 ⟨some 159,none,.nilCheck (.tmp 155)⟩,
 ⟨none,none,.store 5 (.tmp 159) (.tmp 158)⟩]
 [])
 (.seq
 (.ops [⟨some 160,none,.move (.tmp 6)⟩,
 ⟨some 4,none,.move (.tmp 160)⟩])
 (.ret)))
 (.skip))))))))))))
 (.seq
 (.ops [⟨some 4,none,.move (.val (.ptr none))⟩])
 (.ret)))))))
def fn294:AFn:=.mk [.tmp 6] (
 .seq
 (.ops [⟨some 4,none,.box (.tmp 1)⟩,
 ⟨some 6,none,.move (.val (.ptr none))⟩])
 (.seq
 (.seq
 (.ops [⟨some 7,none,.field 2 (.tmp 4)⟩,
 ⟨some 8,none,.load1 (.tmp 7)⟩,
 ⟨some 9,none,.bin .neq .none (.tmp 8) (.val (.int .i64 0))⟩,
 ⟨some 10,none,.move (.tmp 9)⟩,
 ⟨some 11,some (some 10,true),.field 0 (.tmp 4)⟩,
 ⟨some 12,some (some 10,true),.load1 (.tmp 11)⟩,
 ⟨some 13,some (some 10,true),.bin .neq .none (.tmp 12) (.val (.int .i64 10))⟩,
 ⟨some 14,none,.pick (.tmp 10) (.tmp 13) (.val (.bool false))⟩])
 (.cond (.tmp 14)
 (.seq
 (.ops [⟨some 6,none,.move (.val (.ptr none))⟩])
 (.ret))
 (.skip)))
 (.seq
 (.block 0 (
 .seq
 (.draw [⟨some 16,none,.field 0 (.tmp 4)⟩,
 ⟨some 17,none,.load1 (.tmp 16)⟩,
 ⟨some 18,none,.bin .eql .none (.tmp 17) (.val (.int .i64 1))⟩,
 ⟨some 19,none,.move (.tmp 18)⟩,
 ⟨some 20,some (some 19,true),.move (.tmp 2)⟩,
 ⟨some 21,some (some 19,true),.nilCheck (.tmp 20)⟩,
 ⟨some 22,some (some 19,true),.field 0 (.tmp 21)⟩,
 ⟨some 23,some (some 19,true),.load1 (.tmp 22)⟩,
 ⟨some 24,some (some 19,true),.bin .eql .none (.tmp 23) (.val (.int .i64 3))⟩,
 ⟨some 25,none,.pick (.tmp 19) (.tmp 24) (.val (.bool false))⟩,
 ⟨some 26,none,.move (.tmp 25)⟩,
 ⟨some 27,some (some 26,true),.move (.tmp 2)⟩,
 ⟨some 28,some (some 26,true),.nilCheck (.tmp 27)⟩,
 ⟨some 29,some (some 26,true),.field 3 (.tmp 28)⟩,
 ⟨some 30,some (some 26,true),.load1 (.tmp 29)⟩,
 ⟨some 31,some (some 26,true),.indexList 1 (.tmp 30) (.val (.int .i64 0))⟩,
 ⟨some 32,some (some 26,true),.load1 (.tmp 31)⟩,
 ⟨some 33,some (some 26,true),.nilCheck (.tmp 32)⟩,
 ⟨some 34,some (some 26,true),.field 0 (.tmp 33)⟩,
 ⟨some 35,some (some 26,true),.load1 (.tmp 34)⟩,
 ⟨some 36,some (some 26,true),.bin .eql .none (.tmp 35) (.val (.int .i64 2))⟩,
 ⟨some 37,none,.pick (.tmp 26) (.tmp 36) (.val (.bool false))⟩,
 ⟨some 38,none,.move (.tmp 37)⟩,
 ⟨some 39,some (some 38,true),.move (.tmp 2)⟩,
 ⟨some 40,some (some 38,true),.nilCheck (.tmp 39)⟩,
 ⟨some 41,some (some 38,true),.field 3 (.tmp 40)⟩,
 ⟨some 42,some (some 38,true),.load1 (.tmp 41)⟩,
 ⟨some 43,some (some 38,true),.indexList 1 (.tmp 42) (.val (.int .i64 0))⟩,
 ⟨some 44,some (some 38,true),.load1 (.tmp 43)⟩,
 ⟨some 45,some (some 38,true),.nilCheck (.tmp 44)⟩,
 ⟨some 46,some (some 38,true),.field 2 (.tmp 45)⟩,
 ⟨some 47,some (some 38,true),.load1 (.tmp 46)⟩,
 ⟨some 48,some (some 38,true),.len .slice (.tmp 47)⟩,
 ⟨some 49,some (some 38,true),.move (.tmp 2)⟩,
 ⟨some 50,some (some 38,true),.nilCheck (.tmp 49)⟩,
 ⟨some 51,some (some 38,true),.field 3 (.tmp 50)⟩,
 ⟨some 52,some (some 38,true),.load1 (.tmp 51)⟩,
 ⟨some 53,some (some 38,true),.len .slice (.tmp 52)⟩,
 ⟨some 54,some (some 38,true),.bin .sub .none (.tmp 53) (.val (.int .i64 1))⟩,
 ⟨some 55,some (some 38,true),.bin .eql .none (.tmp 48) (.tmp 54)⟩,
 ⟨some 56,none,.pick (.tmp 38) (.tmp 55) (.val (.bool false))⟩,
 ⟨some 15,none,.move (.tmp 56)⟩]
 [])
 (.cond (.tmp 15)
 (.seq
 (.draw [⟨some 57,none,.move (.tmp 2)⟩,
 ⟨some 58,none,.nilCheck (.tmp 57)⟩,
 ⟨some 59,none,.field 3 (.tmp 58)⟩,
 ⟨some 60,none,.load1 (.tmp 59)⟩,
 ⟨some 61,none,.indexList 1 (.tmp 60) (.val (.int .i64 0))⟩,
 ⟨some 62,none,.load1 (.tmp 61)⟩,
 ⟨some 63,none,.nilCheck (.tmp 62)⟩,
 ⟨some 64,none,.field 2 (.tmp 63)⟩,
 ⟨some 65,none,.load1 (.tmp 64)⟩,
 ⟨some 66,none,.move (.tmp 2)⟩,
 ⟨some 67,none,.nilCheck (.tmp 66)⟩,
 ⟨some 68,none,.field 3 (.tmp 67)⟩,
 ⟨some 69,none,.load1 (.tmp 68)⟩,
 ⟨some 70,none,.slice 1 (.tmp 69) (some (.val (.int .i64 1))) none none⟩,
 ⟨some 71,none,.move (.tmp 2)⟩,
 ⟨some 72,none,.nilCheck (.tmp 71)⟩,
 ⟨some 73,none,.field 3 (.tmp 72)⟩,
 ⟨some 74,none,.load1 (.tmp 73)⟩,
 ⟨some 75,none,.indexList 1 (.tmp 74) (.val (.int .i64 0))⟩,
 ⟨some 76,none,.load1 (.tmp 75)⟩,
 ⟨some 77,none,.nilCheck (.tmp 76)⟩,
 ⟨some 78,none,.field 3 (.tmp 77)⟩,
 ⟨some 79,none,.load1 (.tmp 78)⟩,
 ⟨some 80,none,.indexList 1 (.tmp 79) (.val (.int .i64 0))⟩,
 ⟨some 81,none,.load1 (.tmp 80)⟩,
 ⟨some 82,none,.hcall (.val (.func 297 [] [])) [(.tmp 65),(.tmp 70),(.tmp 81)]⟩,
 ⟨some 6,none,.move (.tmp 82)⟩]
 [])
 (.ret))
 (.seq
 (.ops [⟨some 84,none,.move (.tmp 2)⟩,
 ⟨some 85,none,.nilCheck (.tmp 84)⟩,
 ⟨some 86,none,.field 0 (.tmp 85)⟩,
 ⟨some 87,none,.load1 (.tmp 86)⟩,
 ⟨some 88,none,.bin .eql .none (.tmp 87) (.val (.int .i64 4))⟩,
 ⟨some 89,none,.move (.tmp 88)⟩,
 ⟨some 90,some (some 89,true),.field 0 (.tmp 4)⟩,
 ⟨some 91,some (some 89,true),.load1 (.tmp 90)⟩,
 ⟨some 92,some (some 89,true),.bin .neq .none (.tmp 91) (.val (.int .i64 10))⟩,
 ⟨some 93,none,.pick (.tmp 89) (.tmp 92) (.val (.bool false))⟩,
 ⟨some 83,none,.move (.tmp 93)⟩])
 (.cond (.tmp 83)
 (.seq
 (.ops [⟨some 94,none,.field 0 (.tmp 4)⟩,
 ⟨some 95,none,.load1 (.tmp 94)⟩,
 ⟨some 96,none,.move (.tmp 2)⟩,
 ⟨some 97,none,.hcall (.val (.func 298 [] [])) [(.tmp 95),(.tmp 96)]⟩,
 ⟨some 6,none,.move (.tmp 97)⟩])
 (.ret))
 (.seq
 (.ops [⟨some 99,none,.field 0 (.tmp 4)⟩,
 ⟨some 100,none,.load1 (.tmp 99)⟩,
 ⟨some 101,none,.bin .eql .none (.tmp 100) (.val (.int .i64 4))⟩,
 ⟨some 102,none,.move (.tmp 101)⟩,
 ⟨some 103,some (some 102,true),.move (.tmp 2)⟩,
 ⟨some 104,some (some 102,true),.nilCheck (.tmp 103)⟩,
 ⟨some 105,some (some 102,true),.field 0 (.tmp 104)⟩,
 ⟨some 106,some (some 102,true),.load1 (.tmp 105)⟩,
 ⟨some 107,some (some 102,true),.bin .eql .none (.tmp 106) (.val (.int .i64 5))⟩,
 ⟨some 108,none,.pick (.tmp 102) (.tmp 107) (.val (.bool false))⟩,
 ⟨some 109,none,.move (.tmp 108)⟩,
 ⟨some 110,some (some 109,true),.move (.tmp 2)⟩,
 ⟨some 111,some (some 109,true),.vcall 299 [(.tmp 110)]⟩,
 ⟨some 112,none,.pick (.tmp 109) (.tmp 111) (.val (.bool false))⟩,
 ⟨some 98,none,.move (.tmp 112)⟩])
 (.cond (.tmp 98)
 (.seq
 (.draw [⟨some 113,none,.move (.tmp 2)⟩,
 ⟨some 114,none,.nilCheck (.tmp 113)⟩,
 ⟨some 115,none,.field 3 (.tmp 114)⟩,
 ⟨some 116,none,.load1 (.tmp 115)⟩,
 ⟨some 117,none,.move (.tmp 2)⟩,
 ⟨some 118,none,.nilCheck (.tmp 117)⟩,
 ⟨some 119,none,.field 2 (.tmp 118)⟩,
 ⟨some 120,none,.load1 (.tmp 119)⟩,
 ⟨some 121,none,.len .slice (.tmp 120)⟩,
 ⟨some 122,none,.indexList 1 (.tmp 116) (.tmp 121)⟩,
 ⟨some 123,none,.load1 (.tmp 122)⟩,
 ⟨some 6,none,.move (.tmp 123)⟩]
 [])
 (.ret))
 (.seq
 (.ops [⟨some 125,none,.field 0 (.tmp 4)⟩,
 ⟨some 126,none,.load1 (.tmp 125)⟩,
 ⟨some 127,none,.bin .eql .none (.tmp 126) (.val (.int .i64 5))⟩,
 ⟨some 128,none,.move (.tmp 127)⟩,
 ⟨some 129,some (some 128,true),.move (.tmp 2)⟩,
 ⟨some 130,some (some 128,true),.nilCheck (.tmp 129)⟩,
 ⟨some 131,some (some 128,true),.field 0 (.tmp 130)⟩,
 ⟨some 132,some (some 128,true),.load1 (.tmp 131)⟩,
 ⟨some 133,some (some 128,true),.bin .eql .none (.tmp 132) (.val (.int .i64 7))⟩,
 ⟨some 134,none,.pick (.tmp 128) (.tmp 133) (.val (.bool false))⟩,
 ⟨some 135,none,.move (.tmp 134)⟩,
 ⟨some 136,some (some 135,true),.move (.tmp 2)⟩,
 ⟨some 137,some (some 135,true),.nilCheck (.tmp 136)⟩,
 ⟨some 138,some (some 135,true),.field 3 (.tmp 137)⟩,
 ⟨some 139,some (some 135,true),.load1 (.tmp 138)⟩,
 ⟨some 140,some (some 135,true),.indexList 1 (.tmp 139) (.val (.int .i64 0))⟩,
 ⟨some 141,some (some 135,true),.load1 (.tmp 140)⟩,
 ⟨some 142,some (some 135,true),.nilCheck (.tmp 141)⟩,
 ⟨some 143,some (some 135,true),.field 0 (.tmp 142)⟩,
 ⟨some 144,some (some 135,true),.load1 (.tmp 143)⟩,
 ⟨some 145,some (some 135,true),.bin .eql .none (.tmp 144) (.val (.int .i64 6))⟩,
 ⟨some 146,none,.pick (.tmp 135) (.tmp 145) (.val (.bool false))⟩,
 ⟨some 124,none,.move (.tmp 146)⟩])
 (.cond (.tmp 124)
 (.seq
 (.ops [⟨some 147,none,.move (.tmp 2)⟩,
 ⟨some 148,none,.hcall (.val (.func 300 [] [])) [(.tmp 147)]⟩,
 ⟨some 6,none,.move (.tmp 148)⟩])
 (.ret))
 (.seq
 (.ops [⟨some 150,none,.field 0 (.tmp 4)⟩,
 ⟨some 151,none,.load1 (.tmp 150)⟩,
 ⟨some 152,none,.bin .eql .none (.tmp 151) (.val (.int .i64 6))⟩,
 ⟨some 153,none,.move (.tmp 152)⟩,
 ⟨some 154,some (some 153,true),.move (.tmp 2)⟩,
 ⟨some 155,some (some 153,true),.nilCheck (.tmp 154)⟩,
 ⟨some 156,some (some 153,true),.field 0 (.tmp 155)⟩,
 ⟨some 157,some (some 153,true),.load1 (.tmp 156)⟩,
 ⟨some 158,some (some 153,true),.bin .eql .none (.tmp 157) (.val (.int .i64 8))⟩,
 ⟨some 159,none,.pick (.tmp 153) (.tmp 158) (.val (.bool false))⟩,
 ⟨some 160,none,.move (.tmp 159)⟩,
 ⟨some 161,some (some 160,true),.move (.tmp 2)⟩,
 ⟨some 162,some (some 160,true),.nilCheck (.tmp 161)⟩,
 ⟨some 163,some (some 160,true),.field 3 (.tmp 162)⟩,
 ⟨some 164,some (some 160,true),.load1 (.tmp 163)⟩,
 ⟨some 165,some (some 160,true),.len .slice (.tmp 164)⟩,
 ⟨some 166,some (some 160,true),.bin .eql .none (.tmp 165) (.val (.int .i64 2))⟩,
 ⟨some 167,none,.pick (.tmp 160) (.tmp 166) (.val (.bool false))⟩,
 ⟨some 149,none,.move (.tmp 167)⟩])
 (.cond (.tmp 149)
 (.seq
 (.ops [⟨some 168,none,.move (.tmp 2)⟩,
 ⟨some 169,none,.hcall (.val (.func 301 [] [])) [(.tmp 168)]⟩,
 ⟨some 6,none,.move (.tmp 169)⟩])
 (.ret))
 (.seq
 (.ops [⟨some 171,none,.field 0 (.tmp 4)⟩,
 ⟨some 172,none,.load1 (.tmp 171)⟩,
 ⟨some 173,none,.bin .eql .none (.tmp 172) (.val (.int .i64 7))⟩,
 ⟨some 174,none,.move (.tmp 173)⟩,
 ⟨some 175,some (some 174,true),.move (.tmp 2)⟩,
 ⟨some 176,some (some 174,true),.nilCheck (.tmp 175)⟩,
 ⟨some 177,some (some 174,true),.field 0 (.tmp 176)⟩,
 ⟨some 178,some (some 174,true),.load1 (.tmp 177)⟩,
 ⟨some 179,some (some 174,true),.bin .eql .none (.tmp 178) (.val (.int .i64 10))⟩,
 ⟨some 180,none,.pick (.tmp 174) (.tmp 179) (.val (.bool false))⟩,
 ⟨some 170,none,.move (.tmp 180)⟩])
 (.cond (.tmp 170)
 (.seq
 (.ops [⟨some 181,none,.move (.tmp 2)⟩,
 ⟨some 182,none,.hcall (.val (.func 302 [] [])) [(.tmp 181)]⟩,
 ⟨some 6,none,.move (.tmp 182)⟩])
 (.ret))
 (.seq
 (.ops [⟨some 184,none,.field 0 (.tmp 4)⟩,
 ⟨some 185,none,.load1 (.tmp 184)⟩,
 ⟨some 186,none,.bin .eql .none (.tmp 185) (.val (.int .i64 10))⟩,
 ⟨some 183,none,.move (.tmp 186)⟩])
 (.cond (.tmp 183)
 (.seq
 (.ops [⟨some 187,none,.move (.tmp 0)⟩,
 ⟨some 188,none,.move (.tmp 2)⟩,
 ⟨some 189,none,.field 2 (.tmp 4)⟩,
 ⟨some 190,none,.load1 (.tmp 189)⟩,
 ⟨some 191,none,.hcall (.val (.func 303 [] [])) [(.tmp 187),(.tmp 188),(.tmp 190)]⟩,
 ⟨some 6,none,.move (.tmp 191)⟩])
 (.ret))
 (.seq
 (.ops [⟨some 193,none,.field 0 (.tmp 4)⟩,
 ⟨some 194,none,.load1 (.tmp 193)⟩,
 ⟨some 195,none,.bin .eql .none (.tmp 194) (.val (.int .i64 12))⟩,
 ⟨some 196,none,.move (.tmp 195)⟩,
 ⟨some 197,some (some 196,true),.move (.tmp 2)⟩,
 ⟨some 198,some (some 196,true),.nilCheck (.tmp 197)⟩,
 ⟨some 199,some (some 196,true),.field 0 (.tmp 198)⟩,
 ⟨some 200,some (some 196,true),.load1 (.tmp 199)⟩,
 ⟨some 201,some (some 196,true),.bin .eql .none (.tmp 200) (.val (.int .i64 0))⟩,
 ⟨some 202,none,.pick (.tmp 196) (.tmp 201) (.val (.bool false))⟩,
 ⟨some 192,none,.move (.tmp 202)⟩])
 (.cond (.tmp 192)
 (.seq
 (.ops [⟨some 203,none,.move (.tmp 0)⟩,
 ⟨some 204,none,.move (.tmp 2)⟩,
 ⟨some 205,none,.hcall (.val (.func 304 [] [])) [(.tmp 203),(.tmp 204)]⟩,
 ⟨some 6,none,.move (.tmp 205)⟩])
 (.ret))
 (.skip))))))))))))))))))
 (.seq
 (.ops [⟨some 6,none,.move (.val (.ptr none))⟩])
 (.ret)))))
def qg8:ACode :=
 .seq
 (.ops [⟨some 32,none,.bin .lss .none (.tmp 31) (.tmp 30)⟩])
 (.seq
 (.cond (.tmp 32)
 (.skip)
 (.exit 2))
 (.seq
 (.block 3 (
 .seq
 (.ops [⟨some 33,none,.indexList 1 (.tmp 29) (.tmp 31)⟩,
 ⟨some 34,none,.load1 (.tmp 33)⟩,
 ⟨some 8,none,.move (.tmp 34)⟩])
 (.draw [⟨some 35,none,.move (.tmp 6)⟩,
 ⟨some 36,none,.move (.tmp 6)⟩,
 ⟨some 37,none,.nilCheck (.tmp 36)⟩,
 ⟨some 38,none,.field 3 (.tmp 37)⟩,
 ⟨some 39,none,.load1 (.tmp 38)⟩,
 ⟨some 40,none,.move (.tmp 3)⟩,
 ⟨some 41,none,.nilCheck (.tmp 40)⟩,
 ⟨some 42,none,.field 0 (.tmp 41)⟩,
 ⟨some 43,none,.load1 (.tmp 42)⟩,
 ⟨some 44,none,.move (.tmp 8)⟩,
 ⟨some 45,none,.indexList 1 (.tmp 43) (.tmp 44)⟩,
 ⟨some 46,none,.load1 (.tmp 45)⟩,
 ⟨some 47,none,.buildSlice 1 [(.tmp 46)]⟩,
 ⟨some 48,none,.append 1 8 (.tmp 39) (.tmp 47)⟩,
 ⟨some 49,none,.nilCheck (.tmp 35)⟩,
 ⟨some 50,none,.field 3 (.tmp 49)⟩,
 ⟨none,none,.store 1 (.tmp 50) (.tmp 48)⟩]
 [])))
 (.ops [⟨some 51,none,.bin .add .none (.tmp 31) (.val (.int .i64 1))⟩,
 ⟨some 31,none,.move (.tmp 51)⟩])))
def qg9:ACode :=
 .seq
 (.ops [⟨some 56,none,.bin .lss .none (.tmp 55) (.tmp 54)⟩])
 (.seq
 (.cond (.tmp 56)
 (.skip)
 (.exit 4))
 (.seq
 (.block 5 (
 .seq
 (.ops [⟨some 57,none,.indexList 2 (.tmp 53) (.tmp 55)⟩,
 ⟨some 58,none,.loadN 2 (.tmp 57)⟩,
 ⟨some 10,none,.alloc [(.int .i64 0),(.list [] (some none))]⟩,
 ⟨none,none,.store 2 (.tmp 10) (.tmp 58)⟩])
 (.draw [⟨some 59,none,.move (.tmp 6)⟩,
 ⟨some 60,none,.move (.tmp 6)⟩,
 ⟨some 61,none,.nilCheck (.tmp 60)⟩,
 ⟨some 62,none,.field 4 (.tmp 61)⟩,
 ⟨some 63,none,.load1 (.tmp 62)⟩,
 ⟨some 64,none,.field 0 (.tmp 10)⟩,
 ⟨some 65,none,.load1 (.tmp 64)⟩,
 ⟨some 66,none,.field 1 (.tmp 10)⟩,
 ⟨some 67,none,.load1 (.tmp 66)⟩,
 ⟨some 68,none,.append 1 8 (.val (.list [] (some none))) (.tmp 67)⟩,
 ⟨some 69,none,.build [(.int .i64 0),(.list [] (some none))] [(0,1,(.tmp 65)),(1,1,(.tmp 68))]⟩,
 ⟨some 70,none,.buildSlice 2 [(.tmp 69)]⟩,
 ⟨some 71,none,.append 2 32 (.tmp 63) (.tmp 70)⟩,
 ⟨some 72,none,.nilCheck (.tmp 59)⟩,
 ⟨some 73,none,.field 4 (.tmp 72)⟩,
 ⟨none,none,.store 1 (.tmp 73) (.tmp 71)⟩]
 [(4,0,1),(6,0,1)])))
 (.ops [⟨some 74,none,.bin .add .none (.tmp 55) (.val (.int .i64 1))⟩,
 ⟨some 55,none,.move (.tmp 74)⟩])))
def qha:ACode :=
 .seq
 (.ops [⟨some 16,none,.bin .lss .none (.tmp 15) (.tmp 14)⟩])
 (.seq
 (.cond (.tmp 16)
 (.skip)
 (.exit 0))
 (.seq
 (.block 1 (
 .seq
 (.ops [⟨some 17,none,.indexList 5 (.tmp 13) (.tmp 15)⟩,
 ⟨some 18,none,.loadN 5 (.tmp 17)⟩,
 ⟨some 5,none,.alloc [(.int .i64 0),(.int .i64 0),(.list [] (some none)),(.list [] (some none)),(.list [] (some none))]⟩,
 ⟨none,none,.store 5 (.tmp 5) (.tmp 18)⟩])
 (.seq
 (.draw [⟨some 19,none,.field 0 (.tmp 5)⟩,
 ⟨some 20,none,.load1 (.tmp 19)⟩,
 ⟨some 21,none,.field 1 (.tmp 5)⟩,
 ⟨some 22,none,.load1 (.tmp 21)⟩,
 ⟨some 23,none,.field 2 (.tmp 5)⟩,
 ⟨some 24,none,.load1 (.tmp 23)⟩,
 ⟨some 25,none,.append 1 8 (.val (.list [] (some none))) (.tmp 24)⟩,
 ⟨some 26,none,.build [(.int .i64 0),(.int .i64 0),(.list [] (some none)),(.list [] (some none)),(.list [] (some none))] [(0,1,(.tmp 20)),(1,1,(.tmp 22)),(2,1,(.tmp 25))]⟩,
 ⟨some 27,none,.box (.tmp 26)⟩,
 ⟨some 6,none,.move (.tmp 27)⟩]
 [(1,0,1),(3,0,1)])
 (.seq
 (.seq
 (.ops [⟨some 28,none,.field 3 (.tmp 5)⟩,
 ⟨some 29,none,.load1 (.tmp 28)⟩,
 ⟨some 30,none,.len .slice (.tmp 29)⟩,
 ⟨some 31,none,.move (.val (.int .i64 0))⟩])
 (.frame [1000000,0,3,5,6,13,14,15] (
 .block 2 (
 .gloop [1000000,0,3,5,6,13,14,15,29,30,31] qg8))))
 (.seq
 (.seq
 (.ops [⟨some 52,none,.field 4 (.tmp 5)⟩,
 ⟨some 53,none,.load1 (.tmp 52)⟩,
 ⟨some 54,none,.len .slice (.tmp 53)⟩,
 ⟨some 55,none,.move (.val (.int .i64 0))⟩])
 (.frame [1000000,0,3,6,13,14,15] (
 .block 4 (
 .gloop [1000000,0,3,6,13,14,15,53,54,55] qg9))))
 (.ops [⟨some 75,none,.move (.tmp 3)⟩,
 ⟨some 76,none,.move (.tmp 3)⟩,
 ⟨some 77,none,.nilCheck (.tmp 76)⟩,
 ⟨some 78,none,.field 0 (.tmp 77)⟩,
 ⟨some 79,none,.load1 (.tmp 78)⟩,
 ⟨some 80,none,.move (.tmp 6)⟩,
 ⟨some 81,none,.buildSlice 1 [(.tmp 80)]⟩,
 ⟨some 82,none,.append 1 8 (.tmp 79) (.tmp 81)⟩,
 ⟨some 83,none,.nilCheck (.tmp 75)⟩,
 ⟨some 84,none,.field 0 (.tmp 83)⟩,
 ⟨none,none,.store 1 (.tmp 84) (.tmp 82)⟩]))))))
 (.ops [⟨some 85,none,.bin .add .none (.tmp 15) (.val (.int .i64 1))⟩,
 ⟨some 15,none,.move (.tmp 85)⟩])))
def fn293:AFn:=.mk [.tmp 2] (
 .seq
 (.ops [⟨some 2,none,.move (.val (.ptr none))⟩])
 (.seq
 (.ops [⟨some 11,none,.build [(.list [] (some none)),(.ptr none)] []⟩,
 ⟨some 12,none,.box (.tmp 11)⟩,
 ⟨some 3,none,.move (.tmp 12)⟩])
 (.seq
 (.seq
 (.ops [⟨some 13,none,.move (.tmp 0)⟩,
 ⟨some 14,none,.len .slice (.tmp 13)⟩,
 ⟨some 15,none,.move (.val (.int .i64 0))⟩])
 (.frame [1000000,0,3] (
 .block 0 (
 .gloop [1000000,0,3,13,14,15] qha))))
 (.seq
 (.ops [⟨some 86,none,.move (.tmp 3)⟩,
 ⟨some 87,none,.move (.tmp 3)⟩,
 ⟨some 88,none,.nilCheck (.tmp 87)⟩,
 ⟨some 89,none,.field 0 (.tmp 88)⟩,
 ⟨some 90,none,.load1 (.tmp 89)⟩,
 ⟨some 91,none,.move (.tmp 0)⟩,
 ⟨some 92,none,.len .slice (.tmp 91)⟩,
 ⟨some 93,none,.bin .sub .none (.tmp 92) (.val (.int .i64 1))⟩,
 ⟨some 94,none,.indexList 1 (.tmp 90) (.tmp 93)⟩,
 ⟨some 95,none,.load1 (.tmp 94)⟩,
 ⟨some 96,none,.nilCheck (.tmp 86)⟩,
 ⟨some 97,none,.field 1 (.tmp 96)⟩,
 ⟨none,none,.store 1 (.tmp 97) (.tmp 95)⟩])
 (.seq
 (.ops [⟨some 98,none,.move (.tmp 3)⟩,
 ⟨some 2,none,.move (.tmp 98)⟩])
 (.ret))))))
def fn283:AFn:=.mk [.tmp 4,.tmp 5] (
 .seq
 (.ops [⟨some 3,none,.box (.tmp 1)⟩,
 ⟨some 4,none,.move (.val (.list [] (some none)))⟩,
 ⟨some 5,none,.move (.val (.int .i64 0))⟩])
 (.seq
 (.seq
 (.ops [⟨some 11,none,.move (.tmp 0)⟩,
 ⟨some 12,none,.pcall 134 [(.tmp 11)]⟩,
 ⟨some 6,none,.move (.tmp 12)⟩])
 (.seq
 (.ops [⟨some 13,none,.move (.tmp 6)⟩,
 ⟨some 14,none,.bin .neq .none (.tmp 13) (.val (.int .i64 0))⟩])
 (.cond (.tmp 14)
 (.seq
 (.ops [⟨some 15,none,.move (.tmp 6)⟩,
 ⟨some 4,none,.move (.val (.list [] (some none)))⟩,
 ⟨some 5,none,.move (.tmp 15)⟩])
 (.ret))
 (.skip))))
 (.seq
 (.seq
 (.ops [⟨some 16,none,.field 0 (.tmp 3)⟩,
 ⟨some 17,none,.load1 (.tmp 16)⟩,
 ⟨some 18,none,.bin .lss .none (.tmp 17) (.val (.int .i64 1))⟩,
 ⟨some 19,none,.move (.tmp 18)⟩,
 ⟨some 20,some (some 19,false),.field 0 (.tmp 3)⟩,
 ⟨some 21,some (some 19,false),.load1 (.tmp 20)⟩,
 ⟨some 22,some (some 19,false),.bin .gtr .none (.tmp 21) (.val (.int .i64 12))⟩,
 ⟨some 23,none,.pick (.tmp 19) (.val (.bool true)) (.tmp 22)⟩])
 (.cond (.tmp 23)
 (.seq
 (.ops [⟨some 4,none,.move (.val (.list [] (some none)))⟩,
 ⟨some 5,none,.move (.val (.int .i64 4))⟩])
 (.ret))
 (.skip)))
 (.seq
 (.seq
 (.ops [⟨some 24,none,.field 1 (.tmp 3)⟩,
 ⟨some 25,none,.load1 (.tmp 24)⟩,
 ⟨some 26,none,.bin .lss .none (.tmp 25) (.val (.int .i64 0))⟩,
 ⟨some 27,none,.move (.tmp 26)⟩,
 ⟨some 28,some (some 27,false),.field 1 (.tmp 3)⟩,
 ⟨some 29,some (some 27,false),.load1 (.tmp 28)⟩,
 ⟨some 30,some (some 27,false),.move (.tmp 0)⟩,
 ⟨some 31,some (some 27,false),.len .slice (.tmp 30)⟩,
 ⟨some 32,some (some 27,false),.bin .geq .none (.tmp 29) (.tmp 31)⟩,
 ⟨some 33,none,.pick (.tmp 27) (.val (.bool true)) (.tmp 32)⟩])
 (.cond (.tmp 33)
 (.seq
 (.ops [⟨some 4,none,.move (.val (.list [] (some none)))⟩,
 ⟨some 5,none,.move (.val (.int .i64 12))⟩])
 (.ret))
 (.skip)))
 (.seq
 (.ops [⟨some 34,none,.move (.tmp 0)⟩,
 ⟨some 35,none,.hcall (.val (.func 293 [] [])) [(.tmp 34)]⟩,
 ⟨some 7,none,.move (.tmp 35)⟩])
 (.seq
 (.draw [⟨some 36,none,.move (.tmp 7)⟩,
 ⟨some 37,none,.nilCheck (.tmp 36)⟩,
 ⟨some 38,none,.field 0 (.tmp 37)⟩,
 ⟨some 39,none,.load1 (.tmp 38)⟩,
 ⟨some 40,none,.field 1 (.tmp 3)⟩,
 ⟨some 41,none,.load1 (.tmp 40)⟩,
 ⟨some 42,none,.indexList 1 (.tmp 39) (.tmp 41)⟩,
 ⟨some 43,none,.load1 (.tmp 42)⟩,
 ⟨some 8,none,.move (.tmp 43)⟩]
 [])
 (.seq
 (.ops [⟨some 44,none,.move (.tmp 7)⟩,
 ⟨some 45,none,.loadN 3 (.tmp 3)⟩,
 ⟨some 46,none,.move (.tmp 8)⟩,
 ⟨some 47,none,.hcall (.val (.func 294 [] [])) [(.tmp 44),(.tmp 45),(.tmp 46)]⟩,
 ⟨some 9,none,.move (.tmp 47)⟩])
 (.seq
 (.seq
 (.ops [⟨some 48,none,.move (.tmp 9)⟩,
 ⟨some 49,none,.bin .eql .pointer (.tmp 48) (.val (.ptr none))⟩])
 (.cond (.tmp 49)
 (.seq
 (.ops [⟨some 4,none,.move (.val (.list [] (some none)))⟩,
 ⟨some 5,none,.move (.val (.int .i64 12))⟩])
 (.ret))
 (.skip)))
 (.seq
 (.ops [⟨some 50,none,.move (.tmp 8)⟩,
 ⟨some 51,none,.move (.tmp 9)⟩,
 ⟨some 52,none,.nilCheck (.tmp 51)⟩,
 ⟨some 53,none,.loadN 5 (.tmp 52)⟩,
 ⟨some 54,none,.nilCheck (.tmp 50)⟩,
 ⟨none,none,.store 5 (.tmp 54) (.tmp 53)⟩])
 (.seq
 (.view (.ops [⟨some 55,none,.move (.tmp 7)⟩,
 ⟨some 56,none,.nilCheck (.tmp 55)⟩,
 ⟨some 57,none,.field 1 (.tmp 56)⟩,
 ⟨some 58,none,.load1 (.tmp 57)⟩,
 ⟨some 59,none,.pcall 159 [(.tmp 58)]⟩,
 ⟨some 10,none,.move (.tmp 59)⟩]))
 (.seq
 (.seq
 (.ops [⟨some 60,none,.move (.tmp 10)⟩,
 ⟨some 61,none,.pcall 134 [(.tmp 60)]⟩,
 ⟨some 62,none,.bin .neq .none (.tmp 61) (.val (.int .i64 0))⟩])
 (.cond (.tmp 62)
 (.seq
 (.ops [⟨some 4,none,.move (.val (.list [] (some none)))⟩,
 ⟨some 5,none,.move (.val (.int .i64 2))⟩])
 (.ret))
 (.skip)))
 (.seq
 (.ops [⟨some 63,none,.move (.tmp 10)⟩,
 ⟨some 4,none,.move (.tmp 63)⟩,
 ⟨some 5,none,.move (.val (.int .i64 0))⟩])
 (.ret)))))))))))))
end Go.Abs
namespace Go.Abs
def qg7:ACode :=
 .seq
 (.ops [⟨some 31,none,.bin .lss .none (.tmp 30) (.tmp 29)⟩])
 (.seq
 (.cond (.tmp 31)
 (.skip)
 (.exit 0))
 (.seq
 (.block 1 (
 .seq
 (.ops [⟨some 32,none,.move (.tmp 30)⟩,
 ⟨some 33,none,.indexList 5 (.tmp 28) (.tmp 30)⟩,
 ⟨some 34,none,.loadN 5 (.tmp 33)⟩,
 ⟨some 6,none,.alloc [(.int .i64 0),(.int .i64 0),(.list [] (some none)),(.list [] (some none)),(.list [] (some none))]⟩,
 ⟨some 5,none,.move (.tmp 32)⟩,
 ⟨none,none,.store 5 (.tmp 6) (.tmp 34)⟩])
 (.seq
 (.seq
 (.ops [⟨some 35,none,.field 0 (.tmp 6)⟩,
 ⟨some 36,none,.load1 (.tmp 35)⟩,
 ⟨some 37,none,.bin .neq .none (.tmp 36) (.val (.int .i64 4))⟩])
 (.cond (.tmp 37)
 (.exit 1)
 (.skip)))
 (.seq
 (.ops [⟨some 39,none,.move (.tmp 0)⟩,
 ⟨some 40,none,.move (.tmp 5)⟩,
 ⟨some 41,none,.build [(.int .i64 0),(.int .i64 0),(.int .i64 0)] [(0,1,(.val (.int .i64 3))),(1,1,(.tmp 40))]⟩,
 ⟨some 42,none,.pcall 283 [(.tmp 39),(.tmp 41)]⟩,
 ⟨some 38,none,.move (.tmp 42)⟩,
 ⟨some 43,none,.extract 0 (.tmp 38)⟩,
 ⟨some 44,none,.extract 1 (.tmp 38)⟩,
 ⟨some 7,none,.move (.tmp 43)⟩,
 ⟨some 8,none,.move (.tmp 44)⟩])
 (.seq
 (.ops [⟨some 45,none,.move (.tmp 8)⟩,
 ⟨some 46,none,.bin .eql .none (.tmp 45) (.val (.int .i64 0))⟩,
 ⟨some 47,none,.move (.tmp 46)⟩,
 ⟨some 48,some (some 47,true),.move (.tmp 3)⟩,
 ⟨some 49,some (some 47,true),.field 3 (.tmp 6)⟩,
 ⟨some 50,some (some 47,true),.load1 (.tmp 49)⟩,
 ⟨some 51,some (some 47,true),.indexList 1 (.tmp 50) (.val (.int .i64 0))⟩,
 ⟨some 52,some (some 47,true),.load1 (.tmp 51)⟩,
 ⟨some 53,some (some 47,true),.indexList 1 (.tmp 48) (.tmp 52)⟩,
 ⟨some 54,some (some 47,true),.load1 (.tmp 53)⟩,
 ⟨some 55,some (some 47,true),.bin .neq .none (.tmp 54) (.val (.int .i64 0))⟩,
 ⟨some 56,none,.pick (.tmp 47) (.tmp 55) (.val (.bool false))⟩])
 (.cond (.tmp 56)
 (.seq
 (.ops [⟨some 2,none,.move (.val (.bool false))⟩])
 (.ret))
 (.skip)))))))
 (.ops [⟨some 57,none,.bin .add .none (.tmp 30) (.val (.int .i64 1))⟩,
 ⟨some 30,none,.move (.tmp 57)⟩])))
def fn272:AFn:=.mk [.tmp 2] (
 .seq
 (.ops [⟨some 2,none,.move (.val (.bool false))⟩])
 (.seq
 (.ops [⟨some 10,none,.move (.tmp 0)⟩,
 ⟨some 11,none,.pcall 144 [(.tmp 10)]⟩,
 ⟨some 9,none,.move (.tmp 11)⟩,
 ⟨some 12,none,.extract 0 (.tmp 9)⟩,
 ⟨some 13,none,.extract 1 (.tmp 9)⟩,
 ⟨some 3,none,.move (.tmp 12)⟩,
 ⟨some 4,none,.move (.tmp 13)⟩])
 (.seq
 (.seq
 (.ops [⟨some 14,none,.move (.tmp 4)⟩,
 ⟨some 15,none,.bin .neq .none (.tmp 14) (.val (.int .i64 0))⟩,
 ⟨some 16,none,.move (.tmp 15)⟩,
 ⟨some 17,some (some 16,false),.move (.tmp 3)⟩,
 ⟨some 18,some (some 16,false),.len .slice (.tmp 17)⟩,
 ⟨some 19,some (some 16,false),.move (.tmp 0)⟩,
 ⟨some 20,some (some 16,false),.len .slice (.tmp 19)⟩,
 ⟨some 21,some (some 16,false),.bin .neq .none (.tmp 18) (.tmp 20)⟩,
 ⟨some 22,none,.pick (.tmp 16) (.val (.bool true)) (.tmp 21)⟩])
 (.cond (.tmp 22)
 (.seq
 (.ops [⟨some 23,none,.pcall 145 []⟩,
 ⟨some 24,none,.move (.tmp 23)⟩,
 ⟨some 25,some (some 24,true),.move (.tmp 4)⟩,
 ⟨some 26,some (some 24,true),.bin .neq .none (.tmp 25) (.val (.int .i64 0))⟩,
 ⟨some 27,none,.pick (.tmp 24) (.tmp 26) (.val (.bool false))⟩,
 ⟨some 2,none,.move (.tmp 27)⟩])
 (.ret))
 (.skip)))
 (.seq
 (.seq
 (.ops [⟨some 28,none,.move (.tmp 0)⟩,
 ⟨some 29,none,.len .slice (.tmp 28)⟩,
 ⟨some 30,none,.move (.val (.int .i64 0))⟩])
 (.frame [2] (
 .block 0 (
 .gloop [0,3,28,29,30] qg7))))
 (.seq
 (.ops [⟨some 58,none,.pcall 145 []⟩,
 ⟨some 2,none,.move (.tmp 58)⟩])
 (.ret))))))
end Go.Abs
