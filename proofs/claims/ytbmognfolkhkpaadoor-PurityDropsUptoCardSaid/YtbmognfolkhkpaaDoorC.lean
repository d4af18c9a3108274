/-
  PARTS OF A PROOF, joined: an abstract machine for quiet code, its evaluation, and what the seat's functions answer on it. Conditions: none.
-/
import Derived.Test.YtbmognfolkhkpaaDoorAbsA
namespace Go.Abs
def fn259:AFn:=.mk [.tmp 6] (
 .seq
 (.ops [⟨some 6,none,.move (.val (.bool false))⟩])
 (.seq
 (.ops [⟨some 7,none,.move (.tmp 0)⟩,
 ⟨some 8,none,.move (.tmp 1)⟩,
 ⟨some 9,none,.bin .geq .none (.tmp 7) (.tmp 8)⟩,
 ⟨some 10,none,.move (.tmp 9)⟩,
 ⟨some 11,some (some 10,true),.move (.tmp 0)⟩,
 ⟨some 12,some (some 10,true),.move (.tmp 2)⟩,
 ⟨some 13,some (some 10,true),.bin .leq .none (.tmp 11) (.tmp 12)⟩,
 ⟨some 14,none,.pick (.tmp 10) (.tmp 13) (.val (.bool false))⟩,
 ⟨some 6,none,.move (.tmp 14)⟩])
 (.ret)))
def fn191:AFn:=.mk [.tmp 2] (
 .seq
 (.ops [⟨some 2,none,.move (.val (.bool false))⟩])
 (.seq
 (.ops [⟨some 3,none,.move (.tmp 0)⟩,
 ⟨some 4,none,.bin .eql .none (.tmp 3) (.val (.int .i64 2))⟩,
 ⟨some 5,none,.move (.tmp 4)⟩,
 ⟨some 6,some (some 5,false),.move (.tmp 0)⟩,
 ⟨some 7,some (some 5,false),.bin .eql .none (.tmp 6) (.val (.int .i64 5))⟩,
 ⟨some 8,none,.pick (.tmp 5) (.val (.bool true)) (.tmp 7)⟩,
 ⟨some 9,none,.move (.tmp 8)⟩,
 ⟨some 10,some (some 9,false),.move (.tmp 0)⟩,
 ⟨some 11,some (some 9,false),.bin .eql .none (.tmp 10) (.val (.int .i64 12))⟩,
 ⟨some 12,none,.pick (.tmp 9) (.val (.bool true)) (.tmp 11)⟩,
 ⟨some 13,none,.move (.tmp 12)⟩,
 ⟨some 14,some (some 13,false),.move (.tmp 0)⟩,
 ⟨some 15,some (some 13,false),.bin .eql .none (.tmp 14) (.val (.int .i64 13))⟩,
 ⟨some 16,none,.pick (.tmp 13) (.val (.bool true)) (.tmp 15)⟩,
 ⟨some 2,none,.move (.tmp 16)⟩])
 (.ret)))
def fn192:AFn:=.mk [.tmp 2] (
 .seq
 (.ops [⟨some 2,none,.move (.val (.bool false))⟩])
 (.seq
 (.ops [⟨some 3,none,.move (.tmp 0)⟩,
 ⟨some 4,none,.bin .eql .none (.tmp 3) (.val (.int .i64 14))⟩,
 ⟨some 5,none,.move (.tmp 4)⟩,
 ⟨some 6,some (some 5,false),.move (.tmp 0)⟩,
 ⟨some 7,some (some 5,false),.bin .eql .none (.tmp 6) (.val (.int .i64 15))⟩,
 ⟨some 8,none,.pick (.tmp 5) (.val (.bool true)) (.tmp 7)⟩,
 ⟨some 9,none,.move (.tmp 8)⟩,
 ⟨some 10,some (some 9,false),.move (.tmp 0)⟩,
 ⟨some 11,some (some 9,false),.bin .eql .none (.tmp 10) (.val (.int .i64 16))⟩,
 ⟨some 12,none,.pick (.tmp 9) (.val (.bool true)) (.tmp 11)⟩,
 ⟨some 2,none,.move (.tmp 12)⟩])
 (.ret)))
def fn151:AFn:=.mk [.tmp 4] (
 .seq
 (.ops [⟨some 4,none,.move (.val (.bool false))⟩])
 (.seq
 (.ops [⟨some 5,none,.move (.tmp 0)⟩,
 ⟨some 6,none,.move (.tmp 1)⟩,
 ⟨some 7,none,.pcall 181 [(.tmp 5),(.tmp 6)]⟩,
 ⟨some 8,none,.bin .geq .none (.tmp 7) (.val (.int .i64 0))⟩,
 ⟨some 4,none,.move (.tmp 8)⟩])
 (.ret)))
def qh6:ACode :=
 .seq
 (.ops [⟨some 9,none,.bin .lss .none (.tmp 8) (.tmp 7)⟩])
 (.seq
 (.cond (.tmp 9)
 (.skip)
 (.exit 0))
 (.seq
 (.block 1 (
 .seq
 (.ops [⟨some 10,none,.move (.tmp 8)⟩,
 ⟨some 5,none,.move (.tmp 10)⟩])
 (.seq
 (.ops [⟨some 11,none,.move (.tmp 1)⟩,
 ⟨some 12,none,.move (.tmp 0)⟩,
 ⟨some 13,none,.move (.tmp 5)⟩,
 ⟨some 14,none,.indexList 1 (.tmp 12) (.tmp 13)⟩,
 ⟨some 15,none,.load1 (.tmp 14)⟩,
 ⟨some 16,none,.bin .eql .none (.tmp 11) (.tmp 15)⟩])
 (.cond (.tmp 16)
 (.seq
 (.ops [⟨some 17,none,.move (.tmp 5)⟩,
 ⟨some 4,none,.move (.tmp 17)⟩])
 (.ret))
 (.skip)))))
 (.ops [⟨some 18,none,.bin .add .none (.tmp 8) (.val (.int .i64 1))⟩,
 ⟨some 8,none,.move (.tmp 18)⟩])))
def fn181:AFn:=.mk [.tmp 4] (
 .seq
 (.ops [⟨some 4,none,.move (.val (.int .i64 0))⟩])
 (.seq
 (.seq
 (.ops [⟨some 6,none,.move (.tmp 0)⟩,
 ⟨some 7,none,.len .slice (.tmp 6)⟩,
 ⟨some 8,none,.move (.val (.int .i64 0))⟩])
 (.frame [4] (
 .block 0 (
 .gloop [0,1,7,8] qh6))))
 (.seq
 (.ops [⟨some 4,none,.move (.val (.int .i64 (-1)))⟩])
 (.ret))))
def qh3:ACode :=
 .seq
 (.ops [⟨some 14,none,.bin .lss .none (.tmp 13) (.tmp 12)⟩])
 (.seq
 (.cond (.tmp 14)
 (.skip)
 (.exit 0))
 (.seq
 (.block 1 (
 .seq
 (.ops [⟨some 15,none,.move (.tmp 13)⟩,
 ⟨some 5,none,.move (.tmp 15)⟩])
 (.seq
 (.draw [⟨some 16,none,.move (.tmp 0)⟩,
 ⟨some 17,none,.move (.tmp 5)⟩,
 ⟨some 18,none,.indexList 1 (.tmp 16) (.tmp 17)⟩,
 ⟨some 19,none,.load1 (.tmp 18)⟩,
 ⟨some 20,none,.move (.tmp 1)⟩,
 ⟨some 21,none,.move (.tmp 5)⟩,
 ⟨some 22,none,.indexList 1 (.tmp 20) (.tmp 21)⟩,
 ⟨some 23,none,.load1 (.tmp 22)⟩,
 ⟨some 24,none,.bin .neq .none (.tmp 19) (.tmp 23)⟩]
 [])
 (.cond (.tmp 24)
 (.seq
 (.ops [⟨some 4,none,.move (.val (.bool false))⟩])
 (.ret))
 (.skip)))))
 (.ops [⟨some 25,none,.bin .add .none (.tmp 13) (.val (.int .i64 1))⟩,
 ⟨some 13,none,.move (.tmp 25)⟩])))
def fn139:AFn:=.mk [.tmp 4] (
 .seq
 (.ops [⟨some 4,none,.move (.val (.bool false))⟩])
 (.seq
 (.seq
 (.ops [⟨some 6,none,.move (.tmp 0)⟩,
 ⟨some 7,none,.len .slice (.tmp 6)⟩,
 ⟨some 8,none,.move (.tmp 1)⟩,
 ⟨some 9,none,.len .slice (.tmp 8)⟩,
 ⟨some 10,none,.bin .neq .none (.tmp 7) (.tmp 9)⟩])
 (.cond (.tmp 10)
 (.seq
 (.ops [⟨some 4,none,.move (.val (.bool false))⟩])
 (.ret))
 (.skip)))
 (.seq
 (.seq
 (.ops [⟨some 11,none,.move (.tmp 0)⟩,
 ⟨some 12,none,.len .slice (.tmp 11)⟩,
 ⟨some 13,none,.move (.val (.int .i64 0))⟩])
 (.frame [4] (
 .block 0 (
 .gloop [0,1,12,13] qh3))))
 (.seq
 (.ops [⟨some 4,none,.move (.val (.bool true))⟩])
 (.ret)))))
def qtw:ACode :=
 .seq
 (.ops [⟨some 14,none,.bin .lss .none (.tmp 13) (.tmp 12)⟩])
 (.seq
 (.cond (.tmp 14)
 (.skip)
 (.exit 0))
 (.seq
 (.block 1 (
 .seq
 (.ops [⟨some 15,none,.move (.tmp 13)⟩,
 ⟨some 5,none,.move (.tmp 15)⟩])
 (.seq
 (.draw [⟨some 16,none,.move (.tmp 0)⟩,
 ⟨some 17,none,.move (.tmp 5)⟩,
 ⟨some 18,none,.indexList 1 (.tmp 16) (.tmp 17)⟩,
 ⟨some 19,none,.load1 (.tmp 18)⟩,
 ⟨some 20,none,.move (.tmp 1)⟩,
 ⟨some 21,none,.move (.tmp 5)⟩,
 ⟨some 22,none,.indexList 1 (.tmp 20) (.tmp 21)⟩,
 ⟨some 23,none,.load1 (.tmp 22)⟩,
 ⟨some 24,none,.bin .neq .none (.tmp 19) (.tmp 23)⟩]
 [])
 (.cond (.tmp 24)
 (.seq
 (.ops [⟨some 4,none,.move (.val (.bool false))⟩])
 (.ret))
 (.skip)))))
 (.ops [⟨some 25,none,.bin .add .none (.tmp 13) (.val (.int .i64 1))⟩,
 ⟨some 13,none,.move (.tmp 25)⟩])))
def fn163:AFn:=.mk [.tmp 4] (
 .seq
 (.ops [⟨some 4,none,.move (.val (.bool false))⟩])
 (.seq
 (.seq
 (.ops [⟨some 6,none,.move (.tmp 0)⟩,
 ⟨some 7,none,.len .slice (.tmp 6)⟩,
 ⟨some 8,none,.move (.tmp 1)⟩,
 ⟨some 9,none,.len .slice (.tmp 8)⟩,
 ⟨some 10,none,.bin .neq .none (.tmp 7) (.tmp 9)⟩])
 (.cond (.tmp 10)
 (.seq
 (.ops [⟨some 4,none,.move (.val (.bool false))⟩])
 (.ret))
 (.skip)))
 (.seq
 (.seq
 (.ops [⟨some 11,none,.move (.tmp 0)⟩,
 ⟨some 12,none,.len .slice (.tmp 11)⟩,
 ⟨some 13,none,.move (.val (.int .i64 0))⟩])
 (.frame [4] (
 .block 0 (
 .gloop [0,1,12,13] qtw))))
 (.seq
 (.ops [⟨some 4,none,.move (.val (.bool true))⟩])
 (.ret)))))
def qeG:ACode :=
 .seq
 (.ops [⟨some 37,none,.bin .lss .none (.tmp 36) (.tmp 35)⟩])
 (.seq
 (.cond (.tmp 37)
 (.skip)
 (.exit 0))
 (.seq
 (.block 1 (
 .seq
 (.ops [⟨some 38,none,.indexList 2 (.tmp 34) (.tmp 36)⟩,
 ⟨some 39,none,.loadN 2 (.tmp 38)⟩,
 ⟨some 5,none,.alloc [(.int .i64 0),(.list [] (some none))]⟩,
 ⟨none,none,.store 2 (.tmp 5) (.tmp 39)⟩])
 (.ops [⟨some 40,none,.move (.tmp 3)⟩,
 ⟨some 41,none,.field 1 (.tmp 5)⟩,
 ⟨some 42,none,.load1 (.tmp 41)⟩,
 ⟨some 43,none,.append 1 8 (.tmp 40) (.tmp 42)⟩,
 ⟨some 3,none,.move (.tmp 43)⟩])))
 (.ops [⟨some 44,none,.bin .add .none (.tmp 36) (.val (.int .i64 1))⟩,
 ⟨some 36,none,.move (.tmp 44)⟩])))
def qiO:ACode :=
 (.seq
 (.seq
 (.ops [⟨some 31,none,.move (.tmp 0)⟩,
 ⟨some 32,none,.nilCheck (.tmp 31)⟩,
 ⟨some 33,none,.field 4 (.tmp 32)⟩,
 ⟨some 34,none,.load1 (.tmp 33)⟩,
 ⟨some 35,none,.len .slice (.tmp 34)⟩,
 ⟨some 36,none,.move (.val (.int .i64 0))⟩])
 (.frame [3] (
 .block 0 (
 .gloop [3,34,35,36] qeG))))
 (.seq
 (.ops [⟨some 45,none,.move (.tmp 3)⟩,
 ⟨some 2,none,.move (.tmp 45)⟩])
 (.ret)))
def qrL:ACode :=
 (.ops [⟨some 25,none,.move (.tmp 3)⟩,
 ⟨some 26,none,.move (.tmp 0)⟩,
 ⟨some 27,none,.nilCheck (.tmp 26)⟩,
 ⟨some 28,none,.field 2 (.tmp 27)⟩,
 ⟨some 29,none,.load1 (.tmp 28)⟩,
 ⟨some 30,none,.append 1 8 (.tmp 25) (.tmp 29)⟩,
 ⟨some 3,none,.move (.tmp 30)⟩])
def fn232:AFn:=.mk [.tmp 2] (
 .seq
 (.ops [⟨some 2,none,.move (.val (.list [] (some none)))⟩])
 (.seq
 (.ops [⟨some 3,none,.move (.val (.list [] (some none)))⟩])
 (.seq
 (.seq
 (.ops [⟨some 6,none,.move (.tmp 0)⟩,
 ⟨some 7,none,.nilCheck (.tmp 6)⟩,
 ⟨some 8,none,.field 0 (.tmp 7)⟩,
 ⟨some 9,none,.load1 (.tmp 8)⟩,
 ⟨some 10,none,.bin .eql .none (.tmp 9) (.val (.int .i64 2))⟩,
 ⟨some 11,none,.move (.tmp 10)⟩,
 ⟨some 12,some (some 11,false),.move (.tmp 0)⟩,
 ⟨some 13,some (some 11,false),.nilCheck (.tmp 12)⟩,
 ⟨some 14,some (some 11,false),.field 0 (.tmp 13)⟩,
 ⟨some 15,some (some 11,false),.load1 (.tmp 14)⟩,
 ⟨some 16,some (some 11,false),.bin .eql .none (.tmp 15) (.val (.int .i64 4))⟩,
 ⟨some 17,none,.pick (.tmp 11) (.val (.bool true)) (.tmp 16)⟩,
 ⟨some 18,none,.move (.tmp 17)⟩,
 ⟨some 19,some (some 18,false),.move (.tmp 0)⟩,
 ⟨some 20,some (some 18,false),.nilCheck (.tmp 19)⟩,
 ⟨some 21,some (some 18,false),.field 0 (.tmp 20)⟩,
 ⟨some 22,some (some 18,false),.load1 (.tmp 21)⟩,
 ⟨some 23,some (some 18,false),.bin .eql .none (.tmp 22) (.val (.int .i64 5))⟩,
 ⟨some 24,none,.pick (.tmp 18) (.val (.bool true)) (.tmp 23)⟩])
 (.cond (.tmp 24)
 qrL
 (.skip)))
 qiO)))
def fn236:AFn:=.mk [.tmp 4] (
 .seq
 (.ops [⟨some 4,none,.move (.val (.list [] (some none)))⟩])
 (.seq
 (.block 0 (
 .seq
 (.seq
 (.ops [⟨some 6,none,.move (.tmp 0)⟩,
 ⟨some 7,none,.nilCheck (.tmp 6)⟩,
 ⟨some 8,none,.field 0 (.tmp 7)⟩,
 ⟨some 9,none,.load1 (.tmp 8)⟩,
 ⟨some 10,none,.bin .eql .none (.tmp 9) (.val (.int .i64 2))⟩,
 ⟨some 5,none,.move (.tmp 10)⟩])
 (.cond (.tmp 5)
 (.skip)
 (.seq
 (.ops [⟨some 11,none,.move (.tmp 0)⟩,
 ⟨some 12,none,.nilCheck (.tmp 11)⟩,
 ⟨some 13,none,.field 0 (.tmp 12)⟩,
 ⟨some 14,none,.load1 (.tmp 13)⟩,
 ⟨some 15,none,.bin .eql .none (.tmp 14) (.val (.int .i64 5))⟩,
 ⟨some 5,none,.move (.tmp 15)⟩])
 (.cond (.tmp 5)
 (.skip)
 (.ops [⟨some 16,none,.move (.tmp 0)⟩,
 ⟨some 17,none,.nilCheck (.tmp 16)⟩,
 ⟨some 18,none,.field 0 (.tmp 17)⟩,
 ⟨some 19,none,.load1 (.tmp 18)⟩,
 ⟨some 20,none,.bin .eql .none (.tmp 19) (.val (.int .i64 4))⟩,
 ⟨some 21,none,.move (.tmp 20)⟩,
 ⟨some 22,some (some 21,true),.move (.tmp 1)⟩,
 ⟨some 23,some (some 21,true),.bin .eql .none (.tmp 22) (.val (.int .i64 1))⟩,
 ⟨some 24,none,.pick (.tmp 21) (.tmp 23) (.val (.bool false))⟩,
 ⟨some 5,none,.move (.tmp 24)⟩])))))
 (.cond (.tmp 5)
 (.seq
 (.ops [⟨some 25,none,.move (.tmp 0)⟩,
 ⟨some 26,none,.nilCheck (.tmp 25)⟩,
 ⟨some 27,none,.field 2 (.tmp 26)⟩,
 ⟨some 28,none,.load1 (.tmp 27)⟩,
 ⟨some 4,none,.move (.tmp 28)⟩])
 (.ret))
 (.seq
 (.ops [⟨some 30,none,.move (.tmp 0)⟩,
 ⟨some 31,none,.nilCheck (.tmp 30)⟩,
 ⟨some 32,none,.field 4 (.tmp 31)⟩,
 ⟨some 33,none,.load1 (.tmp 32)⟩,
 ⟨some 34,none,.len .slice (.tmp 33)⟩,
 ⟨some 35,none,.bin .gtr .none (.tmp 34) (.val (.int .i64 0))⟩,
 ⟨some 36,none,.move (.tmp 35)⟩,
 ⟨some 37,some (some 36,true),.move (.tmp 1)⟩,
 ⟨some 38,some (some 36,true),.bin .gtr .none (.tmp 37) (.val (.int .i64 0))⟩,
 ⟨some 39,none,.pick (.tmp 36) (.tmp 38) (.val (.bool false))⟩,
 ⟨some 40,none,.move (.tmp 39)⟩,
 ⟨some 41,some (some 40,true),.move (.tmp 1)⟩,
 ⟨some 42,some (some 40,true),.move (.tmp 0)⟩,
 ⟨some 43,some (some 40,true),.nilCheck (.tmp 42)⟩,
 ⟨some 44,some (some 40,true),.field 4 (.tmp 43)⟩,
 ⟨some 45,some (some 40,true),.load1 (.tmp 44)⟩,
 ⟨some 46,some (some 40,true),.len .slice (.tmp 45)⟩,
 ⟨some 47,some (some 40,true),.bin .leq .none (.tmp 41) (.tmp 46)⟩,
 ⟨some 48,none,.pick (.tmp 40) (.tmp 47) (.val (.bool false))⟩,
 ⟨some 29,none,.move (.tmp 48)⟩])
 (.cond (.tmp 29)
 (.seq
 (.ops [⟨some 49,none,.move (.tmp 0)⟩,
 ⟨some 50,none,.nilCheck (.tmp 49)⟩,
 ⟨some 51,none,.field 4 (.tmp 50)⟩,
 ⟨some 52,none,.load1 (.tmp 51)⟩,
 ⟨some 53,none,.move (.tmp 1)⟩,
 ⟨some 54,none,.bin .sub .none (.tmp 53) (.val (.int .i64 1))⟩,
 ⟨some 55,none,.indexList 2 (.tmp 52) (.tmp 54)⟩,
 ⟨some 56,none,.field 1 (.tmp 55)⟩,
 ⟨some 57,none,.load1 (.tmp 56)⟩,
 ⟨some 4,none,.move (.tmp 57)⟩])
 (.ret))
 (.skip))))))
 (.seq
 (.ops [⟨some 4,none,.move (.val (.list [] (some none)))⟩])
 (.ret))))
def qhE:ACode :=
 (.seq
 (.ops [⟨some 87,none,.field 3 (.tmp 1)⟩,
 ⟨some 88,none,.load1 (.tmp 87)⟩,
 ⟨some 89,none,.len .slice (.tmp 88)⟩,
 ⟨some 90,none,.move (.tmp 3)⟩,
 ⟨some 91,none,.bin .eql .none (.tmp 89) (.tmp 90)⟩,
 ⟨some 92,none,.move (.tmp 91)⟩,
 ⟨some 93,some (some 92,true),.field 2 (.tmp 1)⟩,
 ⟨some 94,some (some 92,true),.load1 (.tmp 93)⟩,
 ⟨some 95,some (some 92,true),.len .slice (.tmp 94)⟩,
 ⟨some 96,some (some 92,true),.move (.tmp 4)⟩,
 ⟨some 97,some (some 92,true),.bin .eql .none (.tmp 95) (.tmp 96)⟩,
 ⟨some 98,none,.pick (.tmp 92) (.tmp 97) (.val (.bool false))⟩,
 ⟨some 99,none,.move (.tmp 98)⟩,
 ⟨some 100,some (some 99,true),.field 4 (.tmp 1)⟩,
 ⟨some 101,some (some 99,true),.load1 (.tmp 100)⟩,
 ⟨some 102,some (some 99,true),.len .slice (.tmp 101)⟩,
 ⟨some 103,some (some 99,true),.bin .eql .none (.tmp 102) (.val (.int .i64 0))⟩,
 ⟨some 104,none,.pick (.tmp 99) (.tmp 103) (.val (.bool false))⟩,
 ⟨some 105,none,.move (.tmp 104)⟩,
 ⟨some 106,some (some 105,true),.move (.tmp 5)⟩,
 ⟨some 107,some (some 105,true),.move (.tmp 106)⟩,
 ⟨some 108,some (some 107,false),.field 1 (.tmp 1)⟩,
 ⟨some 109,some (some 107,false),.load1 (.tmp 108)⟩,
 ⟨some 110,some (some 107,false),.bin .eql .none (.tmp 109) (.val (.int .i64 0))⟩,
 ⟨some 111,some (some 105,true),.pick (.tmp 107) (.val (.bool true)) (.tmp 110)⟩,
 ⟨some 112,none,.pick (.tmp 105) (.tmp 111) (.val (.bool false))⟩,
 ⟨some 2,none,.move (.tmp 112)⟩])
 (.ret))
def fn234:AFn:=.mk [.tmp 2] (
 .seq
 (.ops [⟨some 1,none,.box (.tmp 0)⟩,
 ⟨some 2,none,.move (.val (.bool false))⟩])
 (.seq
 (.ops [⟨some 3,none,.move (.val (.int .i64 0))⟩,
 ⟨some 4,none,.move (.val (.int .i64 0))⟩,
 ⟨some 5,none,.move (.val (.bool false))⟩])
 (.seq
 (.seq
 (.ops [⟨some 6,none,.field 0 (.tmp 1)⟩,
 ⟨some 7,none,.load1 (.tmp 6)⟩])
 (.block 0 (
 .seq
 (.seq
 (.ops [⟨some 9,none,.bin .eql .none (.tmp 7) (.val (.int .i64 0))⟩,
 ⟨some 8,none,.move (.tmp 9)⟩])
 (.cond (.tmp 8)
 (.skip)
 (.seq
 (.ops [⟨some 10,none,.bin .eql .none (.tmp 7) (.val (.int .i64 1))⟩,
 ⟨some 8,none,.move (.tmp 10)⟩])
 (.cond (.tmp 8)
 (.skip)
 (.ops [⟨some 11,none,.bin .eql .none (.tmp 7) (.val (.int .i64 17))⟩,
 ⟨some 8,none,.move (.tmp 11)⟩])))))
 (.cond (.tmp 8)
 (.ops [⟨some 5,none,.move (.val (.bool true))⟩])
 (.seq
 (.ops [⟨some 13,none,.bin .eql .none (.tmp 7) (.val (.int .i64 2))⟩,
 ⟨some 12,none,.move (.tmp 13)⟩])
 (.cond (.tmp 12)
 (.draw [⟨some 14,none,.field 2 (.tmp 1)⟩,
 ⟨some 15,none,.load1 (.tmp 14)⟩,
 ⟨some 16,none,.len .slice (.tmp 15)⟩,
 ⟨some 3,none,.move (.val (.int .i64 1))⟩,
 ⟨some 4,none,.move (.tmp 16)⟩] [])
 (.seq
 (.ops [⟨some 18,none,.bin .eql .none (.tmp 7) (.val (.int .i64 3))⟩,
 ⟨some 17,none,.move (.tmp 18)⟩])
 (.cond (.tmp 17)
 (.ops [⟨some 19,none,.field 3 (.tmp 1)⟩,
 ⟨some 20,none,.load1 (.tmp 19)⟩,
 ⟨some 21,none,.len .slice (.tmp 20)⟩,
 ⟨some 22,none,.minMax true [(.val (.int .i64 1)),(.tmp 21)]⟩,
 ⟨some 3,none,.move (.tmp 22)⟩])
 (.seq
 (.ops [⟨some 24,none,.bin .eql .none (.tmp 7) (.val (.int .i64 4))⟩,
 ⟨some 23,none,.move (.tmp 24)⟩])
 (.cond (.tmp 23)
 (.ops [⟨some 3,none,.move (.val (.int .i64 2))⟩,
 ⟨some 4,none,.move (.val (.int .i64 1))⟩])
 (.seq
 (.ops [⟨some 26,none,.bin .eql .none (.tmp 7) (.val (.int .i64 5))⟩,
 ⟨some 25,none,.move (.tmp 26)⟩])
 (.cond (.tmp 25)
 (.draw [⟨some 27,none,.field 2 (.tmp 1)⟩,
 ⟨some 28,none,.load1 (.tmp 27)⟩,
 ⟨some 29,none,.len .slice (.tmp 28)⟩,
 ⟨some 30,none,.bin .add .none (.tmp 29) (.val (.int .i64 1))⟩,
 ⟨some 31,none,.field 2 (.tmp 1)⟩,
 ⟨some 32,none,.load1 (.tmp 31)⟩,
 ⟨some 33,none,.len .slice (.tmp 32)⟩,
 ⟨some 34,none,.minMax true [(.val (.int .i64 1)),(.tmp 33)]⟩,
 ⟨some 3,none,.move (.tmp 30)⟩,
 ⟨some 4,none,.move (.tmp 34)⟩] [])
 (.seq
 (.ops [⟨some 36,none,.bin .eql .none (.tmp 7) (.val (.int .i64 6))⟩,
 ⟨some 35,none,.move (.tmp 36)⟩])
 (.cond (.tmp 35)
 (.ops [⟨some 37,none,.field 3 (.tmp 1)⟩,
 ⟨some 38,none,.load1 (.tmp 37)⟩,
 ⟨some 39,none,.len .slice (.tmp 38)⟩,
 ⟨some 3,none,.move (.tmp 39)⟩,
 ⟨some 5,none,.move (.val (.bool true))⟩])
 (.seq
 (.seq
 (.ops [⟨some 41,none,.bin .eql .none (.tmp 7) (.val (.int .i64 7))⟩,
 ⟨some 40,none,.move (.tmp 41)⟩])
 (.cond (.tmp 40)
 (.skip)
 (.ops [⟨some 42,none,.bin .eql .none (.tmp 7) (.val (.int .i64 13))⟩,
 ⟨some 40,none,.move (.tmp 42)⟩])))
 (.cond (.tmp 40)
 (.seq
 (.ops [⟨some 43,none,.loadN 5 (.tmp 1)⟩,
 ⟨some 44,none,.pcall 258 [(.tmp 43)]⟩,
 ⟨some 45,none,.move (.tmp 44)⟩,
 ⟨some 46,some (some 45,true),.field 2 (.tmp 1)⟩,
 ⟨some 47,some (some 45,true),.load1 (.tmp 46)⟩,
 ⟨some 48,some (some 45,true),.len .slice (.tmp 47)⟩,
 ⟨some 49,some (some 45,true),.bin .eql .none (.tmp 48) (.val (.int .i64 0))⟩,
 ⟨some 50,none,.pick (.tmp 45) (.tmp 49) (.val (.bool false))⟩,
 ⟨some 51,none,.move (.tmp 50)⟩,
 ⟨some 52,some (some 51,true),.field 1 (.tmp 1)⟩,
 ⟨some 53,some (some 51,true),.load1 (.tmp 52)⟩,
 ⟨some 54,some (some 51,true),.bin .eql .none (.tmp 53) (.val (.int .i64 0))⟩,
 ⟨some 55,none,.pick (.tmp 51) (.tmp 54) (.val (.bool false))⟩,
 ⟨some 2,none,.move (.tmp 55)⟩])
 (.ret))
 (.seq
 (.ops [⟨some 57,none,.bin .eql .none (.tmp 7) (.val (.int .i64 8))⟩,
 ⟨some 56,none,.move (.tmp 57)⟩])
 (.cond (.tmp 56)
 (.seq
 (.seq
 (.ops [⟨some 58,none,.field 1 (.tmp 1)⟩,
 ⟨some 59,none,.load1 (.tmp 58)⟩,
 ⟨some 60,none,.pcall 259 [(.tmp 59),(.val (.int .i64 0)),(.val (.int .i64 11))]⟩,
 ⟨some 61,none,.un .not (.tmp 60)⟩])
 (.cond (.tmp 61)
 (.seq
 (.ops [⟨some 2,none,.move (.val (.bool false))⟩])
 (.ret))
 (.skip)))
 (.ops [⟨some 62,none,.field 1 (.tmp 1)⟩,
 ⟨some 63,none,.load1 (.tmp 62)⟩,
 ⟨some 64,none,.indexArr 12 1 (.val (.vptr [(.int .i64 2),(.int .i64 2),(.int .i64 2),(.int .i64 2),(.int .i64 2),(.int .i64 2),(.int .i64 2),(.int .i64 1),(.int .i64 2),(.int .i64 1),(.int .i64 2),(.int .i64 3)] 0)) (.tmp 63)⟩,
 ⟨some 65,none,.load1 (.tmp 64)⟩,
 ⟨some 3,none,.move (.tmp 65)⟩,
 ⟨some 5,none,.move (.val (.bool true))⟩]))
 (.seq
 (.ops [⟨some 67,none,.bin .eql .none (.tmp 7) (.val (.int .i64 9))⟩,
 ⟨some 66,none,.move (.tmp 67)⟩])
 (.cond (.tmp 66)
 (.draw [⟨some 68,none,.field 2 (.tmp 1)⟩,
 ⟨some 69,none,.load1 (.tmp 68)⟩,
 ⟨some 70,none,.len .slice (.tmp 69)⟩,
 ⟨some 71,none,.field 2 (.tmp 1)⟩,
 ⟨some 72,none,.load1 (.tmp 71)⟩,
 ⟨some 73,none,.len .slice (.tmp 72)⟩,
 ⟨some 3,none,.move (.tmp 70)⟩,
 ⟨some 4,none,.move (.tmp 73)⟩] [])
 (.seq
 (.seq
 (.ops [⟨some 75,none,.bin .eql .none (.tmp 7) (.val (.int .i64 10))⟩,
 ⟨some 74,none,.move (.tmp 75)⟩])
 (.cond (.tmp 74)
 (.skip)
 (.ops [⟨some 76,none,.bin .eql .none (.tmp 7) (.val (.int .i64 12))⟩,
 ⟨some 74,none,.move (.tmp 76)⟩])))
 (.cond (.tmp 74)
 (.ops [⟨some 3,none,.move (.val (.int .i64 1))⟩,
 ⟨some 5,none,.move (.val (.bool true))⟩])
 (.seq
 (.ops [⟨some 78,none,.bin .eql .none (.tmp 7) (.val (.int .i64 11))⟩,
 ⟨some 77,none,.move (.tmp 78)⟩])
 (.cond (.tmp 77)
 (.ops [⟨some 3,none,.move (.val (.int .i64 2))⟩,
 ⟨some 5,none,.move (.val (.bool true))⟩])
 (.seq
 (.seq
 (.ops [⟨some 80,none,.bin .eql .none (.tmp 7) (.val (.int .i64 14))⟩,
 ⟨some 79,none,.move (.tmp 80)⟩])
 (.cond (.tmp 79)
 (.skip)
 (.ops [⟨some 81,none,.bin .eql .none (.tmp 7) (.val (.int .i64 15))⟩,
 ⟨some 79,none,.move (.tmp 81)⟩])))
 (.cond (.tmp 79)
 (.ops [⟨some 82,none,.field 3 (.tmp 1)⟩,
 ⟨some 83,none,.load1 (.tmp 82)⟩,
 ⟨some 84,none,.len .slice (.tmp 83)⟩,
 ⟨some 3,none,.move (.tmp 84)⟩,
 ⟨some 5,none,.move (.val (.bool true))⟩])
 (.seq
 (.ops [⟨some 86,none,.bin .eql .none (.tmp 7) (.val (.int .i64 16))⟩,
 ⟨some 85,none,.move (.tmp 86)⟩])
 (.cond (.tmp 85)
 (.ops [⟨some 3,none,.move (.val (.int .i64 1))⟩,
 ⟨some 5,none,.move (.val (.bool true))⟩])
 (.seq
 (.ops [⟨some 2,none,.move (.val (.bool false))⟩])
 (.ret))))))))))))))))))))))))))))))
 qhE)))
def qh9:ACode :=
 .seq
 (.ops [⟨some 36,none,.bin .lss .none (.tmp 35) (.tmp 34)⟩])
 (.seq
 (.cond (.tmp 36)
 (.skip)
 (.exit 1))
 (.seq
 (.block 2 (
 .seq
 (.ops [⟨some 37,none,.indexList 1 (.tmp 33) (.tmp 35)⟩,
 ⟨some 38,none,.load1 (.tmp 37)⟩,
 ⟨some 7,none,.move (.tmp 38)⟩])
 (.seq
 (.ops [⟨some 39,none,.move (.tmp 7)⟩,
 ⟨some 40,none,.pcall 259 [(.tmp 39),(.val (.int .i64 0)),(.val (.int .i64 1048575))]⟩,
 ⟨some 41,none,.un .not (.tmp 40)⟩])
 (.cond (.tmp 41)
 (.seq
 (.ops [⟨some 2,none,.move (.val (.int .i64 4))⟩])
 (.ret))
 (.skip)))))
 (.ops [⟨some 42,none,.bin .add .none (.tmp 35) (.val (.int .i64 1))⟩,
 ⟨some 35,none,.move (.tmp 42)⟩])))
def qia:ACode :=
 .seq
 (.ops [⟨some 67,none,.bin .lss .none (.tmp 66) (.tmp 65)⟩])
 (.seq
 (.cond (.tmp 67)
 (.skip)
 (.exit 5))
 (.seq
 (.block 6 (
 .seq
 (.ops [⟨some 68,none,.indexList 1 (.tmp 64) (.tmp 66)⟩,
 ⟨some 69,none,.load1 (.tmp 68)⟩,
 ⟨some 11,none,.move (.tmp 69)⟩])
 (.seq
 (.ops [⟨some 70,none,.move (.tmp 11)⟩,
 ⟨some 71,none,.pcall 259 [(.tmp 70),(.val (.int .i64 0)),(.val (.int .i64 1048575))]⟩,
 ⟨some 72,none,.un .not (.tmp 71)⟩])
 (.cond (.tmp 72)
 (.seq
 (.ops [⟨some 2,none,.move (.val (.int .i64 4))⟩])
 (.ret))
 (.skip)))))
 (.ops [⟨some 73,none,.bin .add .none (.tmp 66) (.val (.int .i64 1))⟩,
 ⟨some 66,none,.move (.tmp 73)⟩])))
def qe8:ACode :=
 .seq
 (.ops [⟨some 47,none,.bin .lss .none (.tmp 46) (.tmp 45)⟩])
 (.seq
 (.cond (.tmp 47)
 (.skip)
 (.exit 3))
 (.seq
 (.block 4 (
 .seq
 (.ops [⟨some 48,none,.indexList 2 (.tmp 44) (.tmp 46)⟩,
 ⟨some 49,none,.loadN 2 (.tmp 48)⟩,
 ⟨some 9,none,.alloc [(.int .i64 0),(.list [] (some none))]⟩,
 ⟨none,none,.store 2 (.tmp 9) (.tmp 49)⟩])
 (.seq
 (.seq
 (.ops [⟨some 50,none,.field 0 (.tmp 9)⟩,
 ⟨some 51,none,.load1 (.tmp 50)⟩,
 ⟨some 52,none,.bin .gtr .none (.tmp 51) (.val (.int .i64 255))⟩,
 ⟨some 53,none,.move (.tmp 52)⟩,
 ⟨some 54,some (some 53,true),.field 0 (.tmp 1)⟩,
 ⟨some 55,some (some 53,true),.load1 (.tmp 54)⟩,
 ⟨some 56,some (some 53,true),.bin .eql .none (.tmp 55) (.val (.int .i64 7))⟩,
 ⟨some 57,none,.pick (.tmp 53) (.tmp 56) (.val (.bool false))⟩,
 ⟨some 58,none,.move (.tmp 57)⟩,
 ⟨some 59,some (some 58,false),.field 0 (.tmp 9)⟩,
 ⟨some 60,some (some 58,false),.load1 (.tmp 59)⟩,
 ⟨some 61,some (some 58,false),.bin .geq .none (.tmp 60) (.val (.int .i64 1048576))⟩,
 ⟨some 62,none,.pick (.tmp 58) (.val (.bool true)) (.tmp 61)⟩])
 (.cond (.tmp 62)
 (.seq
 (.ops [⟨some 2,none,.move (.val (.int .i64 4))⟩])
 (.ret))
 (.skip)))
 (.seq
 (.seq
 (.ops [⟨some 63,none,.field 1 (.tmp 9)⟩,
 ⟨some 64,none,.load1 (.tmp 63)⟩,
 ⟨some 65,none,.len .slice (.tmp 64)⟩,
 ⟨some 66,none,.move (.val (.int .i64 0))⟩])
 (.frame [1,2,5,9,44,45,46] (
 .block 5 (
 .gloop [1,5,9,44,45,46,64,65,66] qia))))
 (.ops [⟨some 74,none,.move (.tmp 5)⟩,
 ⟨some 75,none,.field 1 (.tmp 9)⟩,
 ⟨some 76,none,.load1 (.tmp 75)⟩,
 ⟨some 77,none,.len .slice (.tmp 76)⟩,
 ⟨some 78,none,.minMax true [(.tmp 74),(.tmp 77)]⟩,
 ⟨some 5,none,.move (.tmp 78)⟩])))))
 (.ops [⟨some 79,none,.bin .add .none (.tmp 46) (.val (.int .i64 1))⟩,
 ⟨some 46,none,.move (.tmp 79)⟩])))
def qjQ:ACode :=
 (.seq
 (.ops [⟨some 12,none,.move (.val (.int .i64 16))⟩])
 (.seq
 (.seq
 (.ops [⟨some 80,none,.field 0 (.tmp 1)⟩,
 ⟨some 81,none,.load1 (.tmp 80)⟩,
 ⟨some 82,none,.bin .eql .none (.tmp 81) (.val (.int .i64 2))⟩])
 (.cond (.tmp 82)
 (.ops [⟨some 12,none,.move (.val (.int .i64 6))⟩])
 (.skip)))
 (.seq
 (.seq
 (.ops [⟨some 83,none,.move (.tmp 5)⟩,
 ⟨some 84,none,.move (.tmp 12)⟩,
 ⟨some 85,none,.bin .gtr .none (.tmp 83) (.tmp 84)⟩,
 ⟨some 86,none,.move (.tmp 85)⟩,
 ⟨some 87,some (some 86,false),.field 0 (.tmp 1)⟩,
 ⟨some 88,some (some 86,false),.load1 (.tmp 87)⟩,
 ⟨some 89,some (some 86,false),.bin .eql .none (.tmp 88) (.val (.int .i64 6))⟩,
 ⟨some 90,some (some 86,false),.move (.tmp 89)⟩,
 ⟨some 91,some (some 90,false),.field 0 (.tmp 1)⟩,
 ⟨some 92,some (some 90,false),.load1 (.tmp 91)⟩,
 ⟨some 93,some (some 90,false),.bin .eql .none (.tmp 92) (.val (.int .i64 15))⟩,
 ⟨some 94,some (some 86,false),.pick (.tmp 90) (.val (.bool true)) (.tmp 93)⟩,
 ⟨some 95,some (some 86,false),.move (.tmp 94)⟩,
 ⟨some 96,some (some 95,true),.field 3 (.tmp 1)⟩,
 ⟨some 97,some (some 95,true),.load1 (.tmp 96)⟩,
 ⟨some 98,some (some 95,true),.len .slice (.tmp 97)⟩,
 ⟨some 99,some (some 95,true),.bin .gtr .none (.tmp 98) (.val (.int .i64 16))⟩,
 ⟨some 100,some (some 86,false),.pick (.tmp 95) (.tmp 99) (.val (.bool false))⟩,
 ⟨some 101,none,.pick (.tmp 86) (.val (.bool true)) (.tmp 100)⟩,
 ⟨some 102,none,.move (.tmp 101)⟩,
 ⟨some 103,some (some 102,false),.field 0 (.tmp 1)⟩,
 ⟨some 104,some (some 102,false),.load1 (.tmp 103)⟩,
 ⟨some 105,some (some 102,false),.bin .eql .none (.tmp 104) (.val (.int .i64 3))⟩,
 ⟨some 106,some (some 102,false),.move (.tmp 105)⟩,
 ⟨some 107,some (some 106,true),.field 3 (.tmp 1)⟩,
 ⟨some 108,some (some 106,true),.load1 (.tmp 107)⟩,
 ⟨some 109,some (some 106,true),.len .slice (.tmp 108)⟩,
 ⟨some 110,some (some 106,true),.bin .gtr .none (.tmp 109) (.val (.int .i64 7))⟩,
 ⟨some 111,some (some 102,false),.pick (.tmp 106) (.tmp 110) (.val (.bool false))⟩,
 ⟨some 112,none,.pick (.tmp 102) (.val (.bool true)) (.tmp 111)⟩,
 ⟨some 113,none,.move (.tmp 112)⟩,
 ⟨some 114,some (some 113,false),.field 0 (.tmp 1)⟩,
 ⟨some 115,some (some 113,false),.load1 (.tmp 114)⟩,
 ⟨some 116,some (some 113,false),.bin .eql .none (.tmp 115) (.val (.int .i64 14))⟩,
 ⟨some 117,some (some 113,false),.move (.tmp 116)⟩,
 ⟨some 118,some (some 117,true),.field 3 (.tmp 1)⟩,
 ⟨some 119,some (some 117,true),.load1 (.tmp 118)⟩,
 ⟨some 120,some (some 117,true),.len .slice (.tmp 119)⟩,
 ⟨some 121,some (some 117,true),.bin .gtr .none (.tmp 120) (.val (.int .i64 6))⟩,
 ⟨some 122,some (some 113,false),.pick (.tmp 117) (.tmp 121) (.val (.bool false))⟩,
 ⟨some 123,none,.pick (.tmp 113) (.val (.bool true)) (.tmp 122)⟩])
 (.cond (.tmp 123)
 (.seq
 (.ops [⟨some 2,none,.move (.val (.int .i64 2))⟩])
 (.ret))
 (.skip)))
 (.seq
 (.ops [⟨some 2,none,.move (.val (.int .i64 0))⟩])
 (.ret)))))
def qhF:ACode :=
 (.seq
 (.seq
 (.ops [⟨some 23,none,.field 1 (.tmp 1)⟩,
 ⟨some 24,none,.load1 (.tmp 23)⟩,
 ⟨some 25,none,.move (.tmp 4)⟩,
 ⟨some 26,none,.move (.tmp 3)⟩,
 ⟨some 27,none,.pcall 259 [(.tmp 24),(.tmp 25),(.tmp 26)]⟩,
 ⟨some 28,none,.un .not (.tmp 27)⟩])
 (.cond (.tmp 28)
 (.seq
 (.ops [⟨some 2,none,.move (.val (.int .i64 4))⟩])
 (.ret))
 (.skip)))
 (.seq
 (.ops [⟨some 29,none,.field 2 (.tmp 1)⟩,
 ⟨some 30,none,.load1 (.tmp 29)⟩,
 ⟨some 31,none,.len .slice (.tmp 30)⟩,
 ⟨some 5,none,.move (.tmp 31)⟩])
 (.seq
 (.seq
 (.ops [⟨some 32,none,.field 2 (.tmp 1)⟩,
 ⟨some 33,none,.load1 (.tmp 32)⟩,
 ⟨some 34,none,.len .slice (.tmp 33)⟩,
 ⟨some 35,none,.move (.val (.int .i64 0))⟩])
 (.frame [1,2,5] (
 .block 1 (
 .gloop [1,5,33,34,35] qh9))))
 (.seq
 (.seq
 (.ops [⟨some 43,none,.field 4 (.tmp 1)⟩,
 ⟨some 44,none,.load1 (.tmp 43)⟩,
 ⟨some 45,none,.len .slice (.tmp 44)⟩,
 ⟨some 46,none,.move (.val (.int .i64 0))⟩])
 (.frame [1,2,5] (
 .block 3 (
 .gloop [1,5,44,45,46] qe8))))
 qjQ))))
def fn235:AFn:=.mk [.tmp 2] (
 .seq
 (.ops [⟨some 1,none,.box (.tmp 0)⟩,
 ⟨some 2,none,.move (.val (.int .i64 0))⟩])
 (.seq
 (.ops [⟨some 3,none,.move (.val (.int .i64 1048575))⟩])
 (.seq
 (.ops [⟨some 4,none,.move (.val (.int .i64 0))⟩])
 (.seq
 (.seq
 (.ops [⟨some 13,none,.field 0 (.tmp 1)⟩,
 ⟨some 14,none,.load1 (.tmp 13)⟩])
 (.block 0 (
 .seq
 (.ops [⟨some 16,none,.bin .eql .none (.tmp 14) (.val (.int .i64 1))⟩,
 ⟨some 15,none,.move (.tmp 16)⟩])
 (.cond (.tmp 15)
 (.ops [⟨some 4,none,.move (.val (.int .i64 (-1073741824)))⟩,
 ⟨some 3,none,.move (.val (.int .i64 1073741823))⟩])
 (.seq
 (.ops [⟨some 18,none,.bin .eql .none (.tmp 14) (.val (.int .i64 6))⟩,
 ⟨some 17,none,.move (.tmp 18)⟩])
 (.cond (.tmp 17)
 (.ops [⟨some 3,none,.move (.val (.int .i64 255))⟩])
 (.seq
 (.ops [⟨some 20,none,.bin .eql .none (.tmp 14) (.val (.int .i64 17))⟩,
 ⟨some 19,none,.move (.tmp 20)⟩])
 (.cond (.tmp 19)
 (.ops [⟨some 4,none,.move (.val (.int .i64 1))⟩,
 ⟨some 3,none,.move (.val (.int .i64 6))⟩])
 (.seq
 (.ops [⟨some 22,none,.bin .eql .none (.tmp 14) (.val (.int .i64 16))⟩,
 ⟨some 21,none,.move (.tmp 22)⟩])
 (.cond (.tmp 21)
 (.ops [⟨some 3,none,.move (.val (.int .i64 15))⟩])
 (.skip)))))))))))
 qhF))))
def qdx:ACode :=
 .seq
 (.ops [⟨some 10,none,.bin .lss .none (.tmp 9) (.tmp 8)⟩])
 (.seq
 (.cond (.tmp 10)
 (.skip)
 (.exit 0))
 (.seq
 (.block 1 (
 .seq
 (.ops [⟨some 11,none,.move (.tmp 9)⟩,
 ⟨some 12,none,.indexList 2 (.tmp 7) (.tmp 9)⟩,
 ⟨some 13,none,.loadN 2 (.tmp 12)⟩,
 ⟨some 4,none,.alloc [(.int .i64 0),(.list [] (some none))]⟩,
 ⟨some 3,none,.move (.tmp 11)⟩,
 ⟨none,none,.store 2 (.tmp 4) (.tmp 13)⟩])
 (.seq
 (.freeze 4 (
 .ops [⟨some 14,none,.field 4 (.tmp 1)⟩,
 ⟨some 15,none,.load1 (.tmp 14)⟩,
 ⟨some 16,none,.move (.tmp 3)⟩,
 ⟨some 17,none,.slice 2 (.tmp 15) none (some (.tmp 16)) none⟩,
 ⟨some 18,none,.makeFunc 265 [] [(.tmp 4)]⟩,
 ⟨some 19,none,.call (.val (.func 264 [] [])) [(.tmp 17),(.tmp 18)]⟩,
 ⟨some 5,none,.move (.tmp 19)⟩]))
 (.block 2 (
 .seq
 (.ops [⟨some 21,none,.move (.tmp 5)⟩,
 ⟨some 22,none,.move (.tmp 21)⟩,
 ⟨some 23,some (some 22,false),.field 0 (.tmp 4)⟩,
 ⟨some 24,some (some 22,false),.load1 (.tmp 23)⟩,
 ⟨some 25,some (some 22,false),.bin .lss .none (.tmp 24) (.val (.int .i64 (-1)))⟩,
 ⟨some 26,none,.pick (.tmp 22) (.val (.bool true)) (.tmp 25)⟩,
 ⟨some 20,none,.move (.tmp 26)⟩])
 (.cond (.tmp 20)
 (.seq
 (.ops [⟨some 2,none,.move (.val (.bool false))⟩])
 (.ret))
 (.seq
 (.ops [⟨some 28,none,.field 0 (.tmp 1)⟩,
 ⟨some 29,none,.load1 (.tmp 28)⟩,
 ⟨some 30,none,.bin .eql .none (.tmp 29) (.val (.int .i64 7))⟩,
 ⟨some 31,none,.move (.tmp 30)⟩,
 ⟨some 32,some (some 31,true),.field 0 (.tmp 4)⟩,
 ⟨some 33,some (some 31,true),.load1 (.tmp 32)⟩,
 ⟨some 34,some (some 31,true),.bin .eql .none (.tmp 33) (.val (.int .i64 (-1)))⟩,
 ⟨some 35,none,.pick (.tmp 31) (.tmp 34) (.val (.bool false))⟩,
 ⟨some 36,none,.move (.tmp 35)⟩,
 ⟨some 37,some (some 36,true),.move (.tmp 3)⟩,
 ⟨some 38,some (some 36,true),.field 4 (.tmp 1)⟩,
 ⟨some 39,some (some 36,true),.load1 (.tmp 38)⟩,
 ⟨some 40,some (some 36,true),.len .slice (.tmp 39)⟩,
 ⟨some 41,some (some 36,true),.bin .sub .none (.tmp 40) (.val (.int .i64 1))⟩,
 ⟨some 42,some (some 36,true),.bin .lss .none (.tmp 37) (.tmp 41)⟩,
 ⟨some 43,some (some 36,true),.move (.tmp 42)⟩,
 ⟨some 44,some (some 43,false),.field 1 (.tmp 4)⟩,
 ⟨some 45,some (some 43,false),.load1 (.tmp 44)⟩,
 ⟨some 46,some (some 43,false),.len .slice (.tmp 45)⟩,
 ⟨some 47,some (some 43,false),.bin .gtr .none (.tmp 46) (.val (.int .i64 0))⟩,
 ⟨some 48,some (some 36,true),.pick (.tmp 43) (.val (.bool true)) (.tmp 47)⟩,
 ⟨some 49,none,.pick (.tmp 36) (.tmp 48) (.val (.bool false))⟩,
 ⟨some 27,none,.move (.tmp 49)⟩])
 (.cond (.tmp 27)
 (.seq
 (.ops [⟨some 2,none,.move (.val (.bool false))⟩])
 (.ret))
 (.seq
 (.seq
 (.ops [⟨some 51,none,.field 0 (.tmp 1)⟩,
 ⟨some 52,none,.load1 (.tmp 51)⟩,
 ⟨some 53,none,.bin .eql .none (.tmp 52) (.val (.int .i64 13))⟩,
 ⟨some 54,none,.move (.tmp 53)⟩,
 ⟨some 55,some (some 54,true),.move (.tmp 3)⟩,
 ⟨some 56,some (some 54,true),.bin .eql .none (.tmp 55) (.val (.int .i64 0))⟩,
 ⟨some 57,some (some 54,true),.field 0 (.tmp 4)⟩,
 ⟨some 58,some (some 54,true),.load1 (.tmp 57)⟩,
 ⟨some 59,some (some 54,true),.bin .eql .none (.tmp 58) (.val (.int .i64 (-1)))⟩,
 ⟨some 60,some (some 54,true),.bin .neq .bool (.tmp 56) (.tmp 59)⟩,
 ⟨some 61,none,.pick (.tmp 54) (.tmp 60) (.val (.bool false))⟩,
 ⟨some 50,none,.move (.tmp 61)⟩])
 (.cond (.tmp 50)
 (.skip)
 (.ops [⟨some 62,none,.field 0 (.tmp 1)⟩,
 ⟨some 63,none,.load1 (.tmp 62)⟩,
 ⟨some 64,none,.bin .eql .none (.tmp 63) (.val (.int .i64 13))⟩,
 ⟨some 65,none,.move (.tmp 64)⟩,
 ⟨some 66,some (some 65,true),.field 1 (.tmp 4)⟩,
 ⟨some 67,some (some 65,true),.load1 (.tmp 66)⟩,
 ⟨some 68,some (some 65,true),.len .slice (.tmp 67)⟩,
 ⟨some 69,some (some 65,true),.move (.tmp 3)⟩,
 ⟨some 70,some (some 65,true),.bin .add .none (.tmp 69) (.val (.int .i64 1))⟩,
 ⟨some 71,some (some 65,true),.minMax false [(.tmp 70),(.val (.int .i64 2))]⟩,
 ⟨some 72,some (some 65,true),.bin .neq .none (.tmp 68) (.tmp 71)⟩,
 ⟨some 73,none,.pick (.tmp 65) (.tmp 72) (.val (.bool false))⟩,
 ⟨some 50,none,.move (.tmp 73)⟩])))
 (.cond (.tmp 50)
 (.seq
 (.ops [⟨some 2,none,.move (.val (.bool false))⟩])
 (.ret))
 (.skip)))))))))))
 (.ops [⟨some 74,none,.bin .add .none (.tmp 9) (.val (.int .i64 1))⟩,
 ⟨some 9,none,.move (.tmp 74)⟩])))
def fn258:AFn:=.mk [.tmp 2] (
 .seq
 (.ops [⟨some 1,none,.box (.tmp 0)⟩,
 ⟨some 2,none,.move (.val (.bool false))⟩])
 (.seq
 (.seq
 (.ops [⟨some 6,none,.field 4 (.tmp 1)⟩,
 ⟨some 7,none,.load1 (.tmp 6)⟩,
 ⟨some 8,none,.len .slice (.tmp 7)⟩,
 ⟨some 9,none,.move (.val (.int .i64 0))⟩])
 (.frame [1,2] (
 .block 0 (
 .gloop [1,7,8,9] qdx))))
 (.seq
 (.ops [⟨some 75,none,.field 3 (.tmp 1)⟩,
 ⟨some 76,none,.load1 (.tmp 75)⟩,
 ⟨some 77,none,.len .slice (.tmp 76)⟩,
 ⟨some 78,none,.field 4 (.tmp 1)⟩,
 ⟨some 79,none,.load1 (.tmp 78)⟩,
 ⟨some 80,none,.len .slice (.tmp 79)⟩,
 ⟨some 81,none,.bin .add .none (.val (.int .i64 1)) (.tmp 80)⟩,
 ⟨some 82,none,.bin .eql .none (.tmp 77) (.tmp 81)⟩,
 ⟨some 83,none,.move (.tmp 82)⟩,
 ⟨some 84,some (some 83,true),.field 0 (.tmp 1)⟩,
 ⟨some 85,some (some 83,true),.load1 (.tmp 84)⟩,
 ⟨some 86,some (some 83,true),.bin .eql .none (.tmp 85) (.val (.int .i64 7))⟩,
 ⟨some 87,some (some 83,true),.move (.tmp 86)⟩,
 ⟨some 88,some (some 87,false),.field 4 (.tmp 1)⟩,
 ⟨some 89,some (some 87,false),.load1 (.tmp 88)⟩,
 ⟨some 90,some (some 87,false),.len .slice (.tmp 89)⟩,
 ⟨some 91,some (some 87,false),.bin .gtr .none (.tmp 90) (.val (.int .i64 0))⟩,
 ⟨some 92,some (some 83,true),.pick (.tmp 87) (.val (.bool true)) (.tmp 91)⟩,
 ⟨some 93,none,.pick (.tmp 83) (.tmp 92) (.val (.bool false))⟩,
 ⟨some 2,none,.move (.tmp 93)⟩])
 (.ret))))
def fn264:AFn:=.mk [.tmp 4] (
 .seq
 (.ops [⟨some 4,none,.move (.val (.bool false))⟩])
 (.seq
 (.ops [⟨some 5,none,.move (.tmp 0)⟩,
 ⟨some 6,none,.move (.tmp 1)⟩,
 ⟨some 7,none,.call (.val (.func 266 [] [])) [(.tmp 5),(.tmp 6)]⟩,
 ⟨some 8,none,.bin .geq .none (.tmp 7) (.val (.int .i64 0))⟩,
 ⟨some 4,none,.move (.tmp 8)⟩])
 (.ret)))
def fn265:AFn:=.mk [.tmp 3] (
 .seq
 (.ops [⟨some 2,none,.box (.tmp 0)⟩,
 ⟨some 3,none,.move (.val (.bool false))⟩])
 (.seq
 (.ops [⟨some 4,none,.field 0 (.tmp 2)⟩,
 ⟨some 5,none,.load1 (.tmp 4)⟩,
 ⟨some 6,none,.field 0 (.tmp 1)⟩,
 ⟨some 7,none,.load1 (.tmp 6)⟩,
 ⟨some 8,none,.bin .eql .none (.tmp 5) (.tmp 7)⟩,
 ⟨some 3,none,.move (.tmp 8)⟩])
 (.ret)))
def qib:ACode :=
 .seq
 (.ops [⟨some 9,none,.bin .lss .none (.tmp 8) (.tmp 7)⟩])
 (.seq
 (.cond (.tmp 9)
 (.skip)
 (.exit 0))
 (.seq
 (.block 1 (
 .seq
 (.ops [⟨some 10,none,.move (.tmp 8)⟩,
 ⟨some 5,none,.move (.tmp 10)⟩])
 (.seq
 (.ops [⟨some 11,none,.move (.tmp 1)⟩,
 ⟨some 12,none,.move (.tmp 0)⟩,
 ⟨some 13,none,.move (.tmp 5)⟩,
 ⟨some 14,none,.indexList 2 (.tmp 12) (.tmp 13)⟩,
 ⟨some 15,none,.loadN 2 (.tmp 14)⟩,
 ⟨some 16,none,.call (.tmp 11) [(.tmp 15)]⟩])
 (.cond (.tmp 16)
 (.seq
 (.ops [⟨some 17,none,.move (.tmp 5)⟩,
 ⟨some 4,none,.move (.tmp 17)⟩])
 (.ret))
 (.skip)))))
 (.ops [⟨some 18,none,.bin .add .none (.tmp 8) (.val (.int .i64 1))⟩,
 ⟨some 8,none,.move (.tmp 18)⟩])))
def fn266:AFn:=.mk [.tmp 4] (
 .seq
 (.ops [⟨some 4,none,.move (.val (.int .i64 0))⟩])
 (.seq
 (.seq
 (.ops [⟨some 6,none,.move (.tmp 0)⟩,
 ⟨some 7,none,.len .slice (.tmp 6)⟩,
 ⟨some 8,none,.move (.val (.int .i64 0))⟩])
 (.frame [4] (
 .block 0 (
 .gloop [0,1,7,8] qib))))
 (.seq
 (.ops [⟨some 4,none,.move (.val (.int .i64 (-1)))⟩])
 (.ret))))
def qe7:ACode :=
 .seq
 (.ops [⟨some 19,none,.bin .lss .none (.tmp 18) (.tmp 17)⟩])
 (.seq
 (.cond (.tmp 19)
 (.skip)
 (.exit 0))
 (.seq
 (.block 1 (
 .seq
 (.ops [⟨some 20,none,.move (.tmp 18)⟩,
 ⟨some 6,none,.move (.tmp 20)⟩])
 (.seq
 (.draw [⟨some 21,none,.field 0 (.tmp 2)⟩,
 ⟨some 22,none,.load1 (.tmp 21)⟩,
 ⟨some 23,none,.bin .eql .none (.tmp 22) (.val (.int .i64 5))⟩,
 ⟨some 24,none,.move (.tmp 23)⟩,
 ⟨some 25,some (some 24,true),.move (.tmp 1)⟩,
 ⟨some 26,some (some 24,true),.field 3 (.tmp 2)⟩,
 ⟨some 27,some (some 24,true),.load1 (.tmp 26)⟩,
 ⟨some 28,some (some 24,true),.move (.tmp 6)⟩,
 ⟨some 29,some (some 24,true),.indexList 1 (.tmp 27) (.tmp 28)⟩,
 ⟨some 30,some (some 24,true),.load1 (.tmp 29)⟩,
 ⟨some 31,some (some 24,true),.call (.tmp 25) [(.tmp 30)]⟩,
 ⟨some 32,some (some 24,true),.part1 0 (.tmp 31)⟩,
 ⟨some 33,some (some 24,true),.bin .neq .none (.tmp 32) (.val (.int .i64 2))⟩,
 ⟨some 34,none,.pick (.tmp 24) (.tmp 33) (.val (.bool false))⟩,
 ⟨some 35,none,.move (.tmp 34)⟩,
 ⟨some 36,some (some 35,false),.field 0 (.tmp 2)⟩,
 ⟨some 37,some (some 35,false),.load1 (.tmp 36)⟩,
 ⟨some 38,some (some 35,false),.bin .eql .none (.tmp 37) (.val (.int .i64 9))⟩,
 ⟨some 39,some (some 35,false),.move (.tmp 38)⟩,
 ⟨some 40,some (some 39,true),.move (.tmp 6)⟩,
 ⟨some 41,some (some 39,true),.bin .gtr .none (.tmp 40) (.val (.int .i64 0))⟩,
 ⟨some 42,some (some 35,false),.pick (.tmp 39) (.tmp 41) (.val (.bool false))⟩,
 ⟨some 43,some (some 35,false),.move (.tmp 42)⟩,
 ⟨some 44,some (some 43,true),.field 2 (.tmp 2)⟩,
 ⟨some 45,some (some 43,true),.load1 (.tmp 44)⟩,
 ⟨some 46,some (some 43,true),.move (.tmp 6)⟩,
 ⟨some 47,some (some 43,true),.bin .sub .none (.tmp 46) (.val (.int .i64 1))⟩,
 ⟨some 48,some (some 43,true),.indexList 1 (.tmp 45) (.tmp 47)⟩,
 ⟨some 49,some (some 43,true),.load1 (.tmp 48)⟩,
 ⟨some 50,some (some 43,true),.field 2 (.tmp 2)⟩,
 ⟨some 51,some (some 43,true),.load1 (.tmp 50)⟩,
 ⟨some 52,some (some 43,true),.move (.tmp 6)⟩,
 ⟨some 53,some (some 43,true),.indexList 1 (.tmp 51) (.tmp 52)⟩,
 ⟨some 54,some (some 43,true),.load1 (.tmp 53)⟩,
 ⟨some 55,some (some 43,true),.bin .geq .none (.tmp 49) (.tmp 54)⟩,
 ⟨some 56,some (some 35,false),.pick (.tmp 43) (.tmp 55) (.val (.bool false))⟩,
 ⟨some 57,none,.pick (.tmp 35) (.val (.bool true)) (.tmp 56)⟩]
 [])
 (.cond (.tmp 57)
 (.seq
 (.ops [⟨some 4,none,.move (.val (.int .i64 3))⟩])
 (.ret))
 (.skip)))))
 (.ops [⟨some 58,none,.bin .add .none (.tmp 18) (.val (.int .i64 1))⟩,
 ⟨some 18,none,.move (.tmp 58)⟩])))
def fn193:AFn:=.mk [.tmp 4] (
 .seq
 (.ops [⟨some 2,none,.box (.tmp 0)⟩,
 ⟨some 4,none,.move (.val (.int .i64 0))⟩])
 (.seq
 (.seq
 (.ops [⟨some 7,none,.loadN 5 (.tmp 2)⟩,
 ⟨some 8,none,.pcall 234 [(.tmp 7)]⟩,
 ⟨some 9,none,.un .not (.tmp 8)⟩])
 (.cond (.tmp 9)
 (.seq
 (.ops [⟨some 4,none,.move (.val (.int .i64 3))⟩])
 (.ret))
 (.skip)))
 (.seq
 (.seq
 (.ops [⟨some 10,none,.loadN 5 (.tmp 2)⟩,
 ⟨some 11,none,.pcall 235 [(.tmp 10)]⟩,
 ⟨some 5,none,.move (.tmp 11)⟩])
 (.seq
 (.ops [⟨some 12,none,.move (.tmp 5)⟩,
 ⟨some 13,none,.bin .neq .none (.tmp 12) (.val (.int .i64 0))⟩])
 (.cond (.tmp 13)
 (.seq
 (.ops [⟨some 14,none,.move (.tmp 5)⟩,
 ⟨some 4,none,.move (.tmp 14)⟩])
 (.ret))
 (.skip))))
 (.seq
 (.seq
 (.ops [⟨some 15,none,.field 2 (.tmp 2)⟩,
 ⟨some 16,none,.load1 (.tmp 15)⟩,
 ⟨some 17,none,.len .slice (.tmp 16)⟩,
 ⟨some 18,none,.move (.val (.int .i64 0))⟩])
 (.frame [4] (
 .block 0 (
 .gloop [1,2,17,18] qe7))))
 (.seq
 (.ops [⟨some 4,none,.move (.val (.int .i64 0))⟩])
 (.ret))))))
def fn194:AFn:=.mk [.cellN 5 3] (
 .seq
 (.ops [⟨some 3,none,.alloc [(.int .i64 0),(.int .i64 0),(.list [] (some none)),(.list [] (some none)),(.list [] (some none))]⟩])
 (.seq
 (.ops [⟨some 4,none,.load1 (.tmp 1)⟩,
 ⟨some 5,none,.move (.tmp 0)⟩,
 ⟨some 6,none,.indexList 5 (.tmp 4) (.tmp 5)⟩,
 ⟨some 7,none,.loadN 5 (.tmp 6)⟩,
 ⟨none,none,.store 5 (.tmp 3) (.tmp 7)⟩])
 (.ret)))
def qg4:ACode :=
 .seq
 (.ops [⟨some 21,none,.bin .lss .none (.tmp 20) (.tmp 19)⟩])
 (.seq
 (.cond (.tmp 21)
 (.skip)
 (.exit 0))
 (.seq
 (.block 1 (
 .seq
 (.ops [⟨some 22,none,.indexList 1 (.tmp 18) (.tmp 20)⟩,
 ⟨some 23,none,.load1 (.tmp 22)⟩,
 ⟨some 7,none,.move (.tmp 23)⟩])
 (.seq
 (.seq
 (.ops [⟨some 25,none,.move (.tmp 5)⟩,
 ⟨some 26,none,.move (.tmp 7)⟩,
 ⟨some 27,none,.lookup .int (.agg []) true (.tmp 25) (.tmp 26)⟩,
 ⟨some 24,none,.move (.tmp 27)⟩,
 ⟨some 28,none,.extract 0 (.tmp 24)⟩,
 ⟨some 29,none,.extract 1 (.tmp 24)⟩,
 ⟨some 8,none,.alloc []⟩,
 ⟨none,none,.store 0 (.tmp 8) (.tmp 28)⟩,
 ⟨some 9,none,.move (.tmp 29)⟩])
 (.seq
 (.ops [⟨some 30,none,.move (.tmp 9)⟩])
 (.cond (.tmp 30)
 (.seq
 (.ops [⟨some 4,none,.move (.val (.bool true))⟩])
 (.ret))
 (.skip))))
 (.ops [⟨some 31,none,.move (.tmp 5)⟩,
 ⟨some 32,none,.move (.tmp 7)⟩,
 ⟨some 33,none,.build [] []⟩,
 ⟨none,none,.mapUpdate .int (.tmp 31) (.tmp 32) (.tmp 33)⟩]))))
 (.ops [⟨some 34,none,.bin .add .none (.tmp 20) (.val (.int .i64 1))⟩,
 ⟨some 20,none,.move (.tmp 34)⟩])))
def qg5:ACode :=
 .seq
 (.ops [⟨some 53,none,.bin .lss .none (.tmp 52) (.tmp 51)⟩])
 (.seq
 (.cond (.tmp 53)
 (.skip)
 (.exit 4))
 (.seq
 (.block 5 (
 .seq
 (.ops [⟨some 54,none,.indexList 1 (.tmp 50) (.tmp 52)⟩,
 ⟨some 55,none,.load1 (.tmp 54)⟩,
 ⟨some 14,none,.move (.tmp 55)⟩])
 (.seq
 (.seq
 (.ops [⟨some 57,none,.move (.tmp 5)⟩,
 ⟨some 58,none,.move (.tmp 14)⟩,
 ⟨some 59,none,.lookup .int (.agg []) true (.tmp 57) (.tmp 58)⟩,
 ⟨some 56,none,.move (.tmp 59)⟩,
 ⟨some 60,none,.extract 0 (.tmp 56)⟩,
 ⟨some 61,none,.extract 1 (.tmp 56)⟩,
 ⟨some 15,none,.alloc []⟩,
 ⟨none,none,.store 0 (.tmp 15) (.tmp 60)⟩,
 ⟨some 16,none,.move (.tmp 61)⟩])
 (.seq
 (.ops [⟨some 62,none,.move (.tmp 16)⟩])
 (.cond (.tmp 62)
 (.seq
 (.ops [⟨some 4,none,.move (.val (.bool true))⟩])
 (.ret))
 (.skip))))
 (.ops [⟨some 63,none,.move (.tmp 5)⟩,
 ⟨some 64,none,.move (.tmp 14)⟩,
 ⟨some 65,none,.build [] []⟩,
 ⟨none,none,.mapUpdate .int (.tmp 63) (.tmp 64) (.tmp 65)⟩]))))
 (.ops [⟨some 66,none,.bin .add .none (.tmp 52) (.val (.int .i64 1))⟩,
 ⟨some 52,none,.move (.tmp 66)⟩])))
def qg6:ACode :=
 .seq
 (.ops [⟨some 38,none,.bin .lss .none (.tmp 37) (.tmp 36)⟩])
 (.seq
 (.cond (.tmp 38)
 (.skip)
 (.exit 2))
 (.seq
 (.block 3 (
 .seq
 (.ops [⟨some 39,none,.indexList 5 (.tmp 35) (.tmp 37)⟩,
 ⟨some 40,none,.loadN 5 (.tmp 39)⟩,
 ⟨some 11,none,.alloc [(.int .i64 0),(.int .i64 0),(.list [] (some none)),(.list [] (some none)),(.list [] (some none))]⟩,
 ⟨none,none,.store 5 (.tmp 11) (.tmp 40)⟩])
 (.seq
 (.ops [⟨some 41,none,.field 0 (.tmp 11)⟩,
 ⟨some 42,none,.load1 (.tmp 41)⟩,
 ⟨some 43,none,.field 2 (.tmp 11)⟩,
 ⟨some 44,none,.load1 (.tmp 43)⟩,
 ⟨some 45,none,.field 4 (.tmp 11)⟩,
 ⟨some 46,none,.load1 (.tmp 45)⟩,
 ⟨some 47,none,.build [(.int .i64 0),(.int .i64 0),(.list [] (some none)),(.list [] (some none)),(.list [] (some none))] [(0,1,(.tmp 42)),(2,1,(.tmp 44)),(4,1,(.tmp 46))]⟩,
 ⟨some 48,none,.box (.tmp 47)⟩,
 ⟨some 12,none,.move (.tmp 48)⟩])
 (.seq
 (.freeze 12 (.ops [⟨some 49,none,.move (.tmp 12)⟩,
 ⟨some 50,none,.call (.val (.func 232 [] [])) [(.tmp 49)]⟩,
 ⟨some 51,none,.len .slice (.tmp 50)⟩,
 ⟨some 52,none,.move (.val (.int .i64 0))⟩]))
 (.frame [4,5,35,36,37] (
 .block 4 (
 .gloop [5,35,36,37,50,51,52] qg5)))))))
 (.ops [⟨some 67,none,.bin .add .none (.tmp 37) (.val (.int .i64 1))⟩,
 ⟨some 37,none,.move (.tmp 67)⟩])))
def fn195:AFn:=.mk [.tmp 4] (
 .seq
 (.ops [⟨some 4,none,.move (.val (.bool false))⟩])
 (.seq
 (.ops [⟨some 17,none,.makeMap⟩,
 ⟨some 5,none,.move (.tmp 17)⟩])
 (.seq
 (.seq
 (.ops [⟨some 18,none,.move (.tmp 1)⟩,
 ⟨some 19,none,.len .slice (.tmp 18)⟩,
 ⟨some 20,none,.move (.val (.int .i64 0))⟩])
 (.frame [0,4,5] (
 .block 0 (
 .gloop [0,5,18,19,20] qg4))))
 (.seq
 (.seq
 (.ops [⟨some 35,none,.move (.tmp 0)⟩,
 ⟨some 36,none,.len .slice (.tmp 35)⟩,
 ⟨some 37,none,.move (.val (.int .i64 0))⟩])
 (.frame [4] (
 .block 2 (
 .gloop [5,35,36,37] qg6))))
 (.seq
 (.ops [⟨some 4,none,.move (.val (.bool false))⟩])
 (.ret))))))
def qfT:ACode :=
 .seq
 (.ops [⟨some 34,none,.bin .lss .none (.tmp 33) (.tmp 32)⟩])
 (.seq
 (.cond (.tmp 34)
 (.skip)
 (.exit 2))
 (.seq
 (.block 3 (
 .seq
 (.ops [⟨some 35,none,.indexList 1 (.tmp 31) (.tmp 33)⟩,
 ⟨some 36,none,.load1 (.tmp 35)⟩,
 ⟨some 8,none,.move (.tmp 36)⟩])
 (.seq
 (.seq
 (.ops [⟨some 37,none,.move (.tmp 8)⟩,
 ⟨some 38,none,.bin .lss .none (.tmp 37) (.val (.int .i64 0))⟩,
 ⟨some 39,none,.move (.tmp 38)⟩,
 ⟨some 40,some (some 39,false),.move (.tmp 8)⟩,
 ⟨some 41,some (some 39,false),.move (.tmp 5)⟩,
 ⟨some 42,some (some 39,false),.bin .geq .none (.tmp 40) (.tmp 41)⟩,
 ⟨some 43,none,.pick (.tmp 39) (.val (.bool true)) (.tmp 42)⟩])
 (.cond (.tmp 43)
 (.seq
 (.ops [⟨some 2,none,.move (.val (.int .i64 3))⟩])
 (.ret))
 (.skip)))
 (.seq
 (.ops [⟨some 44,none,.move (.tmp 4)⟩,
 ⟨some 45,none,.move (.tmp 8)⟩,
 ⟨some 46,none,.indexList 1 (.tmp 44) (.tmp 45)⟩,
 ⟨some 47,none,.load1 (.tmp 46)⟩,
 ⟨some 48,none,.bin .add .none (.tmp 47) (.val (.int .i64 1))⟩,
 ⟨some 49,none,.indexList 1 (.tmp 44) (.tmp 45)⟩,
 ⟨none,none,.store 1 (.tmp 49) (.tmp 48)⟩])
 (.draw [⟨some 50,none,.move (.tmp 3)⟩,
 ⟨some 51,none,.move (.tmp 5)⟩,
 ⟨some 52,none,.move (.tmp 3)⟩,
 ⟨some 53,none,.move (.tmp 5)⟩,
 ⟨some 54,none,.indexList 1 (.tmp 52) (.tmp 53)⟩,
 ⟨some 55,none,.load1 (.tmp 54)⟩,
 ⟨some 56,none,.move (.tmp 3)⟩,
 ⟨some 57,none,.move (.tmp 8)⟩,
 ⟨some 58,none,.indexList 1 (.tmp 56) (.tmp 57)⟩,
 ⟨some 59,none,.load1 (.tmp 58)⟩,
 ⟨some 60,none,.minMax true [(.tmp 55),(.tmp 59)]⟩,
 ⟨some 61,none,.indexList 1 (.tmp 50) (.tmp 51)⟩,
 ⟨none,none,.store 1 (.tmp 61) (.tmp 60)⟩]
 [])))))
 (.ops [⟨some 62,none,.bin .add .none (.tmp 33) (.val (.int .i64 1))⟩,
 ⟨some 33,none,.move (.tmp 62)⟩])))
def qg3:ACode :=
 .seq
 (.ops [⟨some 26,none,.bin .lss .none (.tmp 25) (.tmp 24)⟩])
 (.seq
 (.cond (.tmp 26)
 (.skip)
 (.exit 0))
 (.seq
 (.block 1 (
 .seq
 (.ops [⟨some 27,none,.move (.tmp 25)⟩,
 ⟨some 28,none,.indexList 5 (.tmp 23) (.tmp 25)⟩,
 ⟨some 29,none,.loadN 5 (.tmp 28)⟩,
 ⟨some 6,none,.alloc [(.int .i64 0),(.int .i64 0),(.list [] (some none)),(.list [] (some none)),(.list [] (some none))]⟩,
 ⟨some 5,none,.move (.tmp 27)⟩,
 ⟨none,none,.store 5 (.tmp 6) (.tmp 29)⟩])
 (.seq
 (.seq
 (.ops [⟨some 30,none,.field 3 (.tmp 6)⟩,
 ⟨some 31,none,.load1 (.tmp 30)⟩,
 ⟨some 32,none,.len .slice (.tmp 31)⟩,
 ⟨some 33,none,.move (.val (.int .i64 0))⟩])
 (.frame [0,2,3,4,5,23,24,25] (
 .block 2 (
 .gloop [0,3,4,5,23,24,25,31,32,33] qfT))))
 (.ops [⟨some 63,none,.move (.tmp 3)⟩,
 ⟨some 64,none,.move (.tmp 5)⟩,
 ⟨some 65,none,.indexList 1 (.tmp 63) (.tmp 64)⟩,
 ⟨some 66,none,.load1 (.tmp 65)⟩,
 ⟨some 67,none,.bin .add .none (.tmp 66) (.val (.int .i64 1))⟩,
 ⟨some 68,none,.indexList 1 (.tmp 63) (.tmp 64)⟩,
 ⟨none,none,.store 1 (.tmp 68) (.tmp 67)⟩]))))
 (.ops [⟨some 69,none,.bin .add .none (.tmp 25) (.val (.int .i64 1))⟩,
 ⟨some 25,none,.move (.tmp 69)⟩])))
def qh7:ACode :=
 .seq
 (.ops [⟨some 73,none,.bin .lss .none (.tmp 72) (.tmp 71)⟩])
 (.seq
 (.cond (.tmp 73)
 (.skip)
 (.exit 4))
 (.seq
 (.block 5 (
 .seq
 (.ops [⟨some 74,none,.move (.tmp 72)⟩,
 ⟨some 75,none,.indexList 1 (.tmp 70) (.tmp 72)⟩,
 ⟨some 76,none,.load1 (.tmp 75)⟩,
 ⟨some 9,none,.move (.tmp 74)⟩,
 ⟨some 10,none,.move (.tmp 76)⟩])
 (.seq
 (.ops [⟨some 77,none,.move (.tmp 10)⟩,
 ⟨some 78,none,.bin .eql .none (.tmp 77) (.val (.int .i64 1))⟩,
 ⟨some 79,none,.move (.tmp 9)⟩,
 ⟨some 80,none,.move (.tmp 0)⟩,
 ⟨some 81,none,.len .slice (.tmp 80)⟩,
 ⟨some 82,none,.bin .sub .none (.tmp 81) (.val (.int .i64 1))⟩,
 ⟨some 83,none,.bin .lss .none (.tmp 79) (.tmp 82)⟩,
 ⟨some 84,none,.bin .neq .bool (.tmp 78) (.tmp 83)⟩])
 (.cond (.tmp 84)
 (.seq
 (.ops [⟨some 2,none,.move (.val (.int .i64 3))⟩])
 (.ret))
 (.skip)))))
 (.ops [⟨some 85,none,.bin .add .none (.tmp 72) (.val (.int .i64 1))⟩,
 ⟨some 72,none,.move (.tmp 85)⟩])))
def qhD:ACode :=
 (.mdraw [0,3,4] [⟨some 17,none,.move (.tmp 0)⟩,
 ⟨some 18,none,.len .slice (.tmp 17)⟩,
 ⟨some 19,none,.makeSlice (.int .i64 0) (.tmp 18) (.tmp 18)⟩,
 ⟨some 20,none,.move (.tmp 0)⟩,
 ⟨some 21,none,.len .slice (.tmp 20)⟩,
 ⟨some 22,none,.makeSlice (.int .i64 0) (.tmp 21) (.tmp 21)⟩,
 ⟨some 3,none,.move (.tmp 19)⟩,
 ⟨some 4,none,.move (.tmp 22)⟩]
 [[],[0],[1,1],[],[3],[4,4],[2,0,1,2],[5,6,0,1,2,3,4,5,6]])
def fn190:AFn:=.mk [.tmp 2] (
 .seq
 (.ops [⟨some 2,none,.move (.val (.int .i64 0))⟩])
 (.seq
 (.seq
 (.ops [⟨some 11,none,.move (.tmp 0)⟩,
 ⟨some 12,none,.len .slice (.tmp 11)⟩,
 ⟨some 13,none,.bin .gtr .none (.tmp 12) (.val (.int .i64 4096))⟩])
 (.cond (.tmp 13)
 (.seq
 (.ops [⟨some 2,none,.move (.val (.int .i64 2))⟩])
 (.ret))
 (.skip)))
 (.seq
 (.seq
 (.ops [⟨some 14,none,.move (.tmp 0)⟩,
 ⟨some 15,none,.len .slice (.tmp 14)⟩,
 ⟨some 16,none,.bin .eql .none (.tmp 15) (.val (.int .i64 0))⟩])
 (.cond (.tmp 16)
 (.seq
 (.ops [⟨some 2,none,.move (.val (.int .i64 3))⟩])
 (.ret))
 (.skip)))
 (.seq
 qhD
 (.seq
 (.seq
 (.ops [⟨some 23,none,.move (.tmp 0)⟩,
 ⟨some 24,none,.len .slice (.tmp 23)⟩,
 ⟨some 25,none,.move (.val (.int .i64 0))⟩])
 (.frame [0,2,3,4] (
 .block 0 (
 .gloop [0,3,4,23,24,25] qg3))))
 (.seq
 (.seq
 (.ops [⟨some 70,none,.move (.tmp 4)⟩,
 ⟨some 71,none,.len .slice (.tmp 70)⟩,
 ⟨some 72,none,.move (.val (.int .i64 0))⟩])
 (.frame [0,2,3] (
 .block 4 (
 .gloop [0,3,70,71,72] qh7))))
 (.seq
 (.seq
 (.ops [⟨some 86,none,.move (.tmp 3)⟩,
 ⟨some 87,none,.move (.tmp 0)⟩,
 ⟨some 88,none,.len .slice (.tmp 87)⟩,
 ⟨some 89,none,.bin .sub .none (.tmp 88) (.val (.int .i64 1))⟩,
 ⟨some 90,none,.indexList 1 (.tmp 86) (.tmp 89)⟩,
 ⟨some 91,none,.load1 (.tmp 90)⟩,
 ⟨some 92,none,.bin .gtr .none (.tmp 91) (.val (.int .i64 400))⟩])
 (.cond (.tmp 92)
 (.seq
 (.ops [⟨some 2,none,.move (.val (.int .i64 2))⟩])
 (.ret))
 (.skip)))
 (.seq
 (.ops [⟨some 2,none,.move (.val (.int .i64 0))⟩])
 (.ret)))))))))
def qjN:ACode :=
 .seq
 (.ops [⟨some 49,none,.bin .lss .none (.tmp 48) (.tmp 47)⟩])
 (.seq
 (.cond (.tmp 49)
 (.skip)
 (.exit 2))
 (.seq
 (.block 3 (
 .seq
 (.ops [⟨some 50,none,.indexList 1 (.tmp 46) (.tmp 48)⟩,
 ⟨some 51,none,.load1 (.tmp 50)⟩,
 ⟨some 10,none,.move (.tmp 51)⟩])
 (.ops [⟨some 52,none,.move (.tmp 1)⟩,
 ⟨some 53,none,.move (.tmp 10)⟩,
 ⟨some 54,none,.lookup .int (.int .i64 0) false (.tmp 52) (.tmp 53)⟩,
 ⟨some 55,none,.bin .add .none (.tmp 54) (.val (.int .i64 1))⟩,
 ⟨none,none,.mapUpdate .int (.tmp 52) (.tmp 53) (.tmp 55)⟩])))
 (.ops [⟨some 56,none,.bin .add .none (.tmp 48) (.val (.int .i64 1))⟩,
 ⟨some 48,none,.move (.tmp 56)⟩])))
def qjO:ACode :=
 .seq
 (.ops [⟨some 64,none,.bin .lss .none (.tmp 63) (.tmp 62)⟩])
 (.seq
 (.cond (.tmp 64)
 (.skip)
 (.exit 4))
 (.seq
 (.block 5 (
 .seq
 (.ops [⟨some 65,none,.indexList 1 (.tmp 61) (.tmp 63)⟩,
 ⟨some 66,none,.load1 (.tmp 65)⟩,
 ⟨some 12,none,.move (.tmp 66)⟩])
 (.ops [⟨some 67,none,.move (.tmp 1)⟩,
 ⟨some 68,none,.move (.tmp 12)⟩,
 ⟨some 69,none,.lookup .int (.int .i64 0) false (.tmp 67) (.tmp 68)⟩,
 ⟨some 70,none,.bin .sub .none (.tmp 69) (.val (.int .i64 1))⟩,
 ⟨none,none,.mapUpdate .int (.tmp 67) (.tmp 68) (.tmp 70)⟩])))
 (.ops [⟨some 71,none,.bin .add .none (.tmp 63) (.val (.int .i64 1))⟩,
 ⟨some 63,none,.move (.tmp 71)⟩])))
def qjP:ACode :=
 .seq
 (.ops [⟨some 39,none,.bin .lss .none (.tmp 38) (.tmp 37)⟩])
 (.seq
 (.cond (.tmp 39)
 (.skip)
 (.exit 0))
 (.seq
 (.block 1 (
 .seq
 (.ops [⟨some 40,none,.move (.tmp 38)⟩,
 ⟨some 41,none,.indexList 1 (.tmp 36) (.tmp 38)⟩,
 ⟨some 42,none,.load1 (.tmp 41)⟩,
 ⟨some 6,none,.move (.tmp 40)⟩,
 ⟨some 7,none,.move (.tmp 42)⟩])
 (.seq
 (.ops [⟨some 43,none,.move (.tmp 0)⟩,
 ⟨some 44,none,.move (.tmp 6)⟩,
 ⟨some 45,none,.call (.val (.func 236 [] [])) [(.tmp 43),(.tmp 44)]⟩,
 ⟨some 8,none,.move (.tmp 45)⟩])
 (.seq
 (.seq
 (.ops [⟨some 46,none,.move (.tmp 8)⟩,
 ⟨some 47,none,.len .slice (.tmp 46)⟩,
 ⟨some 48,none,.move (.val (.int .i64 0))⟩])
 (.frame [0,1,2,7,8,36,37,38] (
 .block 2 (
 .gloop [0,1,2,7,8,36,37,38,46,47,48] qjN))))
 (.seq
 (.ops [⟨some 57,none,.move (.tmp 7)⟩,
 ⟨some 58,none,.move (.tmp 1)⟩,
 ⟨some 59,none,.move (.tmp 2)⟩,
 ⟨some 60,none,.call (.val (.func 196 [] [])) [(.tmp 57),(.tmp 58),(.tmp 59)]⟩])
 (.seq
 (.ops [⟨some 61,none,.move (.tmp 8)⟩,
 ⟨some 62,none,.len .slice (.tmp 61)⟩,
 ⟨some 63,none,.move (.val (.int .i64 0))⟩])
 (.frame [0,1,2,36,37,38] (
 .block 4 (
 .gloop [0,1,2,36,37,38,61,62,63] qjO)))))))))
 (.ops [⟨some 72,none,.bin .add .none (.tmp 38) (.val (.int .i64 1))⟩,
 ⟨some 38,none,.move (.tmp 72)⟩])))
def fn196:AFn:=.mk [] (
 .seq
 (.seq
 (.ops [⟨some 13,none,.move (.tmp 0)⟩,
 ⟨some 14,none,.nilCheck (.tmp 13)⟩,
 ⟨some 15,none,.field 0 (.tmp 14)⟩,
 ⟨some 16,none,.load1 (.tmp 15)⟩,
 ⟨some 17,none,.bin .eql .none (.tmp 16) (.val (.int .i64 0))⟩,
 ⟨some 18,none,.move (.tmp 17)⟩,
 ⟨some 19,some (some 18,true),.move (.tmp 1)⟩,
 ⟨some 20,some (some 18,true),.move (.tmp 0)⟩,
 ⟨some 21,some (some 18,true),.nilCheck (.tmp 20)⟩,
 ⟨some 22,some (some 18,true),.field 1 (.tmp 21)⟩,
 ⟨some 23,some (some 18,true),.load1 (.tmp 22)⟩,
 ⟨some 24,some (some 18,true),.lookup .int (.int .i64 0) false (.tmp 19) (.tmp 23)⟩,
 ⟨some 25,some (some 18,true),.bin .eql .none (.tmp 24) (.val (.int .i64 0))⟩,
 ⟨some 26,none,.pick (.tmp 18) (.tmp 25) (.val (.bool false))⟩])
 (.cond (.tmp 26)
 (.ops [⟨some 27,none,.move (.tmp 2)⟩,
 ⟨some 28,none,.move (.tmp 0)⟩,
 ⟨some 29,none,.nilCheck (.tmp 28)⟩,
 ⟨some 30,none,.field 1 (.tmp 29)⟩,
 ⟨some 31,none,.load1 (.tmp 30)⟩,
 ⟨some 32,none,.build [] []⟩,
 ⟨none,none,.mapUpdate .int (.tmp 27) (.tmp 31) (.tmp 32)⟩])
 (.skip)))
 (.seq
 (.ops [⟨some 33,none,.move (.tmp 0)⟩,
 ⟨some 34,none,.nilCheck (.tmp 33)⟩,
 ⟨some 35,none,.field 3 (.tmp 34)⟩,
 ⟨some 36,none,.load1 (.tmp 35)⟩,
 ⟨some 37,none,.len .slice (.tmp 36)⟩,
 ⟨some 38,none,.move (.val (.int .i64 0))⟩])
 (.frame [] (
 .block 0 (
 .gloop [0,1,2,36,37,38] qjP)))))
def fn167_k0:RangeK :=
 ⟨[⟨some 11,none,.move (.tmp 3)⟩],(.tmp 11),12,13,
 [⟨some 14,none,.extract 0 (.tmp 13)⟩],(.tmp 14),0,1,(some 15),
 [⟨some 16,none,.extract 0 (.tmp 15)⟩,
 ⟨some 5,none,.move (.tmp 16)⟩],false,[4,12],[2]⟩
def qg2:ACode :=
 .kops [⟨some 17,none,.move (.tmp 4)⟩,
 ⟨some 18,none,.move (.tmp 5)⟩,
 ⟨some 19,none,.buildSlice 1 [(.tmp 18)]⟩,
 ⟨some 20,none,.append 1 8 (.tmp 17) (.tmp 19)⟩,
 ⟨some 4,none,.move (.tmp 20)⟩]
def qjM:ACode :=
 .seq
 (.ops [⟨some 21,none,.move (.tmp 4)⟩,
 ⟨some 22,none,.call (.val (.func 138 [] [])) [(.tmp 21)]⟩])
 (.seq
 (.freeze 4 (.ops [⟨some 23,none,.move (.tmp 4)⟩,
 ⟨some 2,none,.move (.tmp 23)⟩]))
 (.ret))
def fn167:AFn:=.mk [.tmp 2] (
 .seq
 (.ops [⟨some 2,none,.move (.val (.list [] (some none)))⟩])
 (.seq
 (.ops [⟨some 6,none,.makeMap⟩,
 ⟨some 3,none,.move (.tmp 6)⟩])
 (.seq
 (.ops [⟨some 7,none,.move (.tmp 0)⟩,
 ⟨some 8,none,.makeMap⟩,
 ⟨some 9,none,.move (.tmp 3)⟩,
 ⟨some 10,none,.call (.val (.func 196 [] [])) [(.tmp 7),(.tmp 8),(.tmp 9)]⟩])
 (.seq
 (.ops [⟨some 4,none,.move (.val (.list [] (some none)))⟩])
 (.range fn167_k0 qg2 qjM)))))
def qej:ACode :=
 .seq
 (.ops [⟨some 21,none,.bin .lss .none (.tmp 20) (.tmp 19)⟩])
 (.seq
 (.cond (.tmp 21)
 (.skip)
 (.exit 0))
 (.seq
 (.block 1 (
 .seq
 (.ops [⟨some 22,none,.indexList 5 (.tmp 18) (.tmp 20)⟩,
 ⟨some 23,none,.loadN 5 (.tmp 22)⟩,
 ⟨some 9,none,.alloc [(.int .i64 0),(.int .i64 0),(.list [] (some none)),(.list [] (some none)),(.list [] (some none))]⟩,
 ⟨none,none,.store 5 (.tmp 9) (.tmp 23)⟩])
 (.seq
 (.seq
 (.ops [⟨some 24,none,.move (.tmp 2)⟩,
 ⟨some 25,none,.move (.tmp 24)⟩,
 ⟨some 26,some (some 25,true),.field 0 (.tmp 9)⟩,
 ⟨some 27,some (some 25,true),.load1 (.tmp 26)⟩,
 ⟨some 28,some (some 25,true),.pcall 191 [(.tmp 27)]⟩,
 ⟨some 29,none,.pick (.tmp 25) (.tmp 28) (.val (.bool false))⟩,
 ⟨some 30,none,.move (.tmp 29)⟩,
 ⟨some 31,some (some 30,false),.move (.tmp 2)⟩,
 ⟨some 32,some (some 30,false),.un .not (.tmp 31)⟩,
 ⟨some 33,some (some 30,false),.move (.tmp 32)⟩,
 ⟨some 34,some (some 33,true),.field 0 (.tmp 9)⟩,
 ⟨some 35,some (some 33,true),.load1 (.tmp 34)⟩,
 ⟨some 36,some (some 33,true),.pcall 192 [(.tmp 35)]⟩,
 ⟨some 37,some (some 30,false),.pick (.tmp 33) (.tmp 36) (.val (.bool false))⟩,
 ⟨some 38,none,.pick (.tmp 30) (.val (.bool true)) (.tmp 37)⟩])
 (.cond (.tmp 38)
 (.seq
 (.ops [⟨some 6,none,.move (.val (.int .i64 3))⟩])
 (.ret))
 (.skip)))
 (.seq
 (.ops [⟨some 39,none,.loadN 5 (.tmp 9)⟩,
 ⟨some 40,none,.makeFunc 194 [] [(.tmp 3)]⟩,
 ⟨some 41,none,.pcall 193 [(.tmp 39),(.tmp 40)]⟩,
 ⟨some 10,none,.move (.tmp 41)⟩])
 (.seq
 (.ops [⟨some 42,none,.move (.tmp 10)⟩,
 ⟨some 43,none,.bin .neq .none (.tmp 42) (.val (.int .i64 0))⟩])
 (.cond (.tmp 43)
 (.seq
 (.ops [⟨some 44,none,.move (.tmp 10)⟩,
 ⟨some 6,none,.move (.tmp 44)⟩])
 (.ret))
 (.skip)))))))
 (.ops [⟨some 45,none,.bin .add .none (.tmp 20) (.val (.int .i64 1))⟩,
 ⟨some 20,none,.move (.tmp 45)⟩])))
def qh5:ACode :=
 .seq
 (.ops [⟨some 54,none,.bin .lss .none (.tmp 53) (.tmp 52)⟩])
 (.seq
 (.cond (.tmp 54)
 (.skip)
 (.exit 2))
 (.seq
 (.block 3 (
 .seq
 (.ops [⟨some 55,none,.indexList 1 (.tmp 51) (.tmp 53)⟩,
 ⟨some 56,none,.load1 (.tmp 55)⟩,
 ⟨some 12,none,.move (.tmp 56)⟩])
 (.seq
 (.ops [⟨some 57,none,.move (.tmp 1)⟩,
 ⟨some 58,none,.move (.tmp 12)⟩,
 ⟨some 59,none,.pcall 151 [(.tmp 57),(.tmp 58)]⟩,
 ⟨some 60,none,.un .not (.tmp 59)⟩])
 (.cond (.tmp 60)
 (.seq
 (.ops [⟨some 6,none,.move (.val (.int .i64 6))⟩])
 (.ret))
 (.skip)))))
 (.ops [⟨some 61,none,.bin .add .none (.tmp 53) (.val (.int .i64 1))⟩,
 ⟨some 53,none,.move (.tmp 61)⟩])))
def fn165:AFn:=.mk [.tmp 6] (
 .seq
 (.ops [⟨some 3,none,.box (.tmp 0)⟩,
 ⟨some 6,none,.move (.val (.int .i64 0))⟩])
 (.seq
 (.seq
 (.ops [⟨some 13,none,.load1 (.tmp 3)⟩,
 ⟨some 14,none,.pcall 190 [(.tmp 13)]⟩,
 ⟨some 7,none,.move (.tmp 14)⟩])
 (.seq
 (.ops [⟨some 15,none,.move (.tmp 7)⟩,
 ⟨some 16,none,.bin .neq .none (.tmp 15) (.val (.int .i64 0))⟩])
 (.cond (.tmp 16)
 (.seq
 (.ops [⟨some 17,none,.move (.tmp 7)⟩,
 ⟨some 6,none,.move (.tmp 17)⟩])
 (.ret))
 (.skip))))
 (.seq
 (.seq
 (.freeze 3 (.ops [⟨some 18,none,.load1 (.tmp 3)⟩,
 ⟨some 19,none,.len .slice (.tmp 18)⟩,
 ⟨some 20,none,.move (.val (.int .i64 0))⟩]))
 (.frame [1,3,6] (
 .block 0 (
 .gloop [1,2,3,18,19,20] qej))))
 (.seq
 (.seq
 (.ops [⟨some 46,none,.load1 (.tmp 3)⟩,
 ⟨some 47,none,.move (.tmp 1)⟩,
 ⟨some 48,none,.pcall 195 [(.tmp 46),(.tmp 47)]⟩])
 (.cond (.tmp 48)
 (.seq
 (.ops [⟨some 6,none,.move (.val (.int .i64 7))⟩])
 (.ret))
 (.skip)))
 (.seq
 (.seq
 (.ops [⟨some 49,none,.load1 (.tmp 3)⟩,
 ⟨some 50,none,.pcall 160 [(.tmp 49)]⟩,
 ⟨some 51,none,.pcall 167 [(.tmp 50)]⟩,
 ⟨some 52,none,.len .slice (.tmp 51)⟩,
 ⟨some 53,none,.move (.val (.int .i64 0))⟩])
 (.frame [6] (
 .block 2 (
 .gloop [1,51,52,53] qh5))))
 (.seq
 (.ops [⟨some 6,none,.move (.val (.int .i64 0))⟩])
 (.ret)))))))
def fn134:AFn:=.mk [.tmp 2] (
 .seq
 (.ops [⟨some 2,none,.move (.val (.int .i64 0))⟩])
 (.seq
 (.ops [⟨some 3,none,.move (.tmp 0)⟩,
 ⟨some 4,none,.pcall 165 [(.tmp 3),(.val (.list [] (some none))),(.val (.bool false))]⟩,
 ⟨some 2,none,.move (.tmp 4)⟩])
 (.ret)))
end Go.Abs
namespace Go.Abs
def qw6:AFn:=.mk [.tmp 2,.tmp 3] (
 .seq
 (.ops [⟨some 2,none,.move (.val (.list [] (some none)))⟩,
 ⟨some 3,none,.move (.val (.int .i64 0))⟩])
 (.seq
 (.seq
 (.ops [⟨some 5,none,.move (.tmp 0)⟩,
 ⟨some 6,none,.pcall 134 [(.tmp 5)]⟩,
 ⟨some 4,none,.move (.tmp 6)⟩])
 (.seq
 (.ops [⟨some 7,none,.move (.tmp 4)⟩,
 ⟨some 8,none,.bin .neq .none (.tmp 7) (.val (.int .i64 0))⟩])
 (.cond (.tmp 8)
 (.seq
 (.ops [⟨some 9,none,.move (.tmp 4)⟩,
 ⟨some 2,none,.move (.val (.list [] (some none)))⟩,
 ⟨some 3,none,.move (.tmp 9)⟩])
 (.ret))
 (.skip))))
 (.seq
 (.ops [⟨some 10,none,.move (.tmp 0)⟩,
 ⟨some 11,none,.pcall 160 [(.tmp 10)]⟩,
 ⟨some 12,none,.pcall 159 [(.tmp 11)]⟩,
 ⟨some 2,none,.move (.tmp 12)⟩,
 ⟨some 3,none,.move (.val (.int .i64 0))⟩])
 (.ret))))
def qtu:ACode :=
 .seq
 (.ops [⟨some 91,none,.bin .lss .none (.tmp 90) (.tmp 89)⟩])
 (.seq
 (.cond (.tmp 91)
 (.skip)
 (.exit 2))
 (.seq
 (.block 3 (
 .seq
 (.ops [⟨some 92,none,.move (.tmp 90)⟩,
 ⟨some 6,none,.move (.tmp 92)⟩])
 (.seq
 (.draw [⟨some 93,none,.move (.tmp 0)⟩,
 ⟨some 94,none,.move (.tmp 5)⟩,
 ⟨some 95,none,.indexList 5 (.tmp 93) (.tmp 94)⟩,
 ⟨some 96,none,.field 4 (.tmp 95)⟩,
 ⟨some 97,none,.load1 (.tmp 96)⟩,
 ⟨some 98,none,.move (.tmp 6)⟩,
 ⟨some 99,none,.indexList 2 (.tmp 97) (.tmp 98)⟩,
 ⟨some 100,none,.field 0 (.tmp 99)⟩,
 ⟨some 101,none,.load1 (.tmp 100)⟩,
 ⟨some 102,none,.move (.tmp 1)⟩,
 ⟨some 103,none,.move (.tmp 5)⟩,
 ⟨some 104,none,.indexList 5 (.tmp 102) (.tmp 103)⟩,
 ⟨some 105,none,.field 4 (.tmp 104)⟩,
 ⟨some 106,none,.load1 (.tmp 105)⟩,
 ⟨some 107,none,.move (.tmp 6)⟩,
 ⟨some 108,none,.indexList 2 (.tmp 106) (.tmp 107)⟩,
 ⟨some 109,none,.field 0 (.tmp 108)⟩,
 ⟨some 110,none,.load1 (.tmp 109)⟩,
 ⟨some 111,none,.bin .neq .none (.tmp 101) (.tmp 110)⟩,
 ⟨some 112,none,.move (.tmp 111)⟩,
 ⟨some 113,some (some 112,false),.move (.tmp 0)⟩,
 ⟨some 114,some (some 112,false),.move (.tmp 5)⟩,
 ⟨some 115,some (some 112,false),.indexList 5 (.tmp 113) (.tmp 114)⟩,
 ⟨some 116,some (some 112,false),.field 4 (.tmp 115)⟩,
 ⟨some 117,some (some 112,false),.load1 (.tmp 116)⟩,
 ⟨some 118,some (some 112,false),.move (.tmp 6)⟩,
 ⟨some 119,some (some 112,false),.indexList 2 (.tmp 117) (.tmp 118)⟩,
 ⟨some 120,some (some 112,false),.field 1 (.tmp 119)⟩,
 ⟨some 121,some (some 112,false),.load1 (.tmp 120)⟩,
 ⟨some 122,some (some 112,false),.move (.tmp 1)⟩,
 ⟨some 123,some (some 112,false),.move (.tmp 5)⟩,
 ⟨some 124,some (some 112,false),.indexList 5 (.tmp 122) (.tmp 123)⟩,
 ⟨some 125,some (some 112,false),.field 4 (.tmp 124)⟩,
 ⟨some 126,some (some 112,false),.load1 (.tmp 125)⟩,
 ⟨some 127,some (some 112,false),.move (.tmp 6)⟩,
 ⟨some 128,some (some 112,false),.indexList 2 (.tmp 126) (.tmp 127)⟩,
 ⟨some 129,some (some 112,false),.field 1 (.tmp 128)⟩,
 ⟨some 130,some (some 112,false),.load1 (.tmp 129)⟩,
 ⟨some 131,some (some 112,false),.pcall 163 [(.tmp 121),(.tmp 130)]⟩,
 ⟨some 132,some (some 112,false),.un .not (.tmp 131)⟩,
 ⟨some 133,none,.pick (.tmp 112) (.val (.bool true)) (.tmp 132)⟩]
 [])
 (.cond (.tmp 133)
 (.seq
 (.ops [⟨some 4,none,.move (.val (.bool false))⟩])
 (.ret))
 (.skip)))))
 (.ops [⟨some 134,none,.bin .add .none (.tmp 90) (.val (.int .i64 1))⟩,
 ⟨some 90,none,.move (.tmp 134)⟩])))
def qtv:ACode :=
 .seq
 (.ops [⟨some 15,none,.bin .lss .none (.tmp 14) (.tmp 13)⟩])
 (.seq
 (.cond (.tmp 15)
 (.skip)
 (.exit 0))
 (.seq
 (.block 1 (
 .seq
 (.ops [⟨some 16,none,.move (.tmp 14)⟩,
 ⟨some 5,none,.move (.tmp 16)⟩])
 (.seq
 (.seq
 (.draw [⟨some 17,none,.move (.tmp 0)⟩,
 ⟨some 18,none,.move (.tmp 5)⟩,
 ⟨some 19,none,.indexList 5 (.tmp 17) (.tmp 18)⟩,
 ⟨some 20,none,.field 0 (.tmp 19)⟩,
 ⟨some 21,none,.load1 (.tmp 20)⟩,
 ⟨some 22,none,.move (.tmp 1)⟩,
 ⟨some 23,none,.move (.tmp 5)⟩,
 ⟨some 24,none,.indexList 5 (.tmp 22) (.tmp 23)⟩,
 ⟨some 25,none,.field 0 (.tmp 24)⟩,
 ⟨some 26,none,.load1 (.tmp 25)⟩,
 ⟨some 27,none,.bin .neq .none (.tmp 21) (.tmp 26)⟩,
 ⟨some 28,none,.move (.tmp 27)⟩,
 ⟨some 29,some (some 28,false),.move (.tmp 0)⟩,
 ⟨some 30,some (some 28,false),.move (.tmp 5)⟩,
 ⟨some 31,some (some 28,false),.indexList 5 (.tmp 29) (.tmp 30)⟩,
 ⟨some 32,some (some 28,false),.field 1 (.tmp 31)⟩,
 ⟨some 33,some (some 28,false),.load1 (.tmp 32)⟩,
 ⟨some 34,some (some 28,false),.move (.tmp 1)⟩,
 ⟨some 35,some (some 28,false),.move (.tmp 5)⟩,
 ⟨some 36,some (some 28,false),.indexList 5 (.tmp 34) (.tmp 35)⟩,
 ⟨some 37,some (some 28,false),.field 1 (.tmp 36)⟩,
 ⟨some 38,some (some 28,false),.load1 (.tmp 37)⟩,
 ⟨some 39,some (some 28,false),.bin .neq .none (.tmp 33) (.tmp 38)⟩,
 ⟨some 40,none,.pick (.tmp 28) (.val (.bool true)) (.tmp 39)⟩,
 ⟨some 41,none,.move (.tmp 40)⟩,
 ⟨some 42,some (some 41,false),.move (.tmp 0)⟩,
 ⟨some 43,some (some 41,false),.move (.tmp 5)⟩,
 ⟨some 44,some (some 41,false),.indexList 5 (.tmp 42) (.tmp 43)⟩,
 ⟨some 45,some (some 41,false),.field 2 (.tmp 44)⟩,
 ⟨some 46,some (some 41,false),.load1 (.tmp 45)⟩,
 ⟨some 47,some (some 41,false),.move (.tmp 1)⟩,
 ⟨some 48,some (some 41,false),.move (.tmp 5)⟩,
 ⟨some 49,some (some 41,false),.indexList 5 (.tmp 47) (.tmp 48)⟩,
 ⟨some 50,some (some 41,false),.field 2 (.tmp 49)⟩,
 ⟨some 51,some (some 41,false),.load1 (.tmp 50)⟩,
 ⟨some 52,some (some 41,false),.pcall 163 [(.tmp 46),(.tmp 51)]⟩,
 ⟨some 53,some (some 41,false),.un .not (.tmp 52)⟩,
 ⟨some 54,none,.pick (.tmp 41) (.val (.bool true)) (.tmp 53)⟩,
 ⟨some 55,none,.move (.tmp 54)⟩,
 ⟨some 56,some (some 55,false),.move (.tmp 0)⟩,
 ⟨some 57,some (some 55,false),.move (.tmp 5)⟩,
 ⟨some 58,some (some 55,false),.indexList 5 (.tmp 56) (.tmp 57)⟩,
 ⟨some 59,some (some 55,false),.field 3 (.tmp 58)⟩,
 ⟨some 60,some (some 55,false),.load1 (.tmp 59)⟩,
 ⟨some 61,some (some 55,false),.move (.tmp 1)⟩,
 ⟨some 62,some (some 55,false),.move (.tmp 5)⟩,
 ⟨some 63,some (some 55,false),.indexList 5 (.tmp 61) (.tmp 62)⟩,
 ⟨some 64,some (some 55,false),.field 3 (.tmp 63)⟩,
 ⟨some 65,some (some 55,false),.load1 (.tmp 64)⟩,
 ⟨some 66,some (some 55,false),.pcall 163 [(.tmp 60),(.tmp 65)]⟩,
 ⟨some 67,some (some 55,false),.un .not (.tmp 66)⟩,
 ⟨some 68,none,.pick (.tmp 55) (.val (.bool true)) (.tmp 67)⟩,
 ⟨some 69,none,.move (.tmp 68)⟩,
 ⟨some 70,some (some 69,false),.move (.tmp 0)⟩,
 ⟨some 71,some (some 69,false),.move (.tmp 5)⟩,
 ⟨some 72,some (some 69,false),.indexList 5 (.tmp 70) (.tmp 71)⟩,
 ⟨some 73,some (some 69,false),.field 4 (.tmp 72)⟩,
 ⟨some 74,some (some 69,false),.load1 (.tmp 73)⟩,
 ⟨some 75,some (some 69,false),.len .slice (.tmp 74)⟩,
 ⟨some 76,some (some 69,false),.move (.tmp 1)⟩,
 ⟨some 77,some (some 69,false),.move (.tmp 5)⟩,
 ⟨some 78,some (some 69,false),.indexList 5 (.tmp 76) (.tmp 77)⟩,
 ⟨some 79,some (some 69,false),.field 4 (.tmp 78)⟩,
 ⟨some 80,some (some 69,false),.load1 (.tmp 79)⟩,
 ⟨some 81,some (some 69,false),.len .slice (.tmp 80)⟩,
 ⟨some 82,some (some 69,false),.bin .neq .none (.tmp 75) (.tmp 81)⟩,
 ⟨some 83,none,.pick (.tmp 69) (.val (.bool true)) (.tmp 82)⟩]
 [])
 (.cond (.tmp 83)
 (.seq
 (.ops [⟨some 4,none,.move (.val (.bool false))⟩])
 (.ret))
 (.skip)))
 (.seq
 (.ops [⟨some 84,none,.move (.tmp 0)⟩,
 ⟨some 85,none,.move (.tmp 5)⟩,
 ⟨some 86,none,.indexList 5 (.tmp 84) (.tmp 85)⟩,
 ⟨some 87,none,.field 4 (.tmp 86)⟩,
 ⟨some 88,none,.load1 (.tmp 87)⟩,
 ⟨some 89,none,.len .slice (.tmp 88)⟩,
 ⟨some 90,none,.move (.val (.int .i64 0))⟩])
 (.frame [0,1,4,13,14] (
 .block 2 (
 .gloop [0,1,5,13,14,89,90] qtu)))))))
 (.ops [⟨some 135,none,.bin .add .none (.tmp 14) (.val (.int .i64 1))⟩,
 ⟨some 14,none,.move (.tmp 135)⟩])))
def fn132:AFn:=.mk [.tmp 4] (
 .seq
 (.ops [⟨some 4,none,.move (.val (.bool false))⟩])
 (.seq
 (.seq
 (.ops [⟨some 7,none,.move (.tmp 0)⟩,
 ⟨some 8,none,.len .slice (.tmp 7)⟩,
 ⟨some 9,none,.move (.tmp 1)⟩,
 ⟨some 10,none,.len .slice (.tmp 9)⟩,
 ⟨some 11,none,.bin .neq .none (.tmp 8) (.tmp 10)⟩])
 (.cond (.tmp 11)
 (.seq
 (.ops [⟨some 4,none,.move (.val (.bool false))⟩])
 (.ret))
 (.skip)))
 (.seq
 (.seq
 (.ops [⟨some 12,none,.move (.tmp 0)⟩,
 ⟨some 13,none,.len .slice (.tmp 12)⟩,
 ⟨some 14,none,.move (.val (.int .i64 0))⟩])
 (.frame [4] (
 .block 0 (
 .gloop [0,1,13,14] qtv))))
 (.seq
 (.ops [⟨some 4,none,.move (.val (.bool true))⟩])
 (.ret)))))
def qtx:ACode :=
 .seq
 (.ops [⟨some 136,none,.bin .lss .none (.tmp 135) (.tmp 134)⟩])
 (.seq
 (.cond (.tmp 136)
 (.skip)
 (.exit 1))
 (.seq
 (.block 2 (
 .seq
 (.ops [⟨some 137,none,.move (.tmp 135)⟩,
 ⟨some 9,none,.move (.tmp 137)⟩])
 (.seq
 (.draw [⟨some 138,none,.move (.tmp 0)⟩,
 ⟨some 139,none,.nilCheck (.tmp 138)⟩,
 ⟨some 140,none,.field 4 (.tmp 139)⟩,
 ⟨some 141,none,.load1 (.tmp 140)⟩,
 ⟨some 142,none,.move (.tmp 9)⟩,
 ⟨some 143,none,.indexList 2 (.tmp 141) (.tmp 142)⟩,
 ⟨some 144,none,.field 0 (.tmp 143)⟩,
 ⟨some 145,none,.load1 (.tmp 144)⟩,
 ⟨some 146,none,.move (.tmp 1)⟩,
 ⟨some 147,none,.nilCheck (.tmp 146)⟩,
 ⟨some 148,none,.field 4 (.tmp 147)⟩,
 ⟨some 149,none,.load1 (.tmp 148)⟩,
 ⟨some 150,none,.move (.tmp 9)⟩,
 ⟨some 151,none,.indexList 2 (.tmp 149) (.tmp 150)⟩,
 ⟨some 152,none,.field 0 (.tmp 151)⟩,
 ⟨some 153,none,.load1 (.tmp 152)⟩,
 ⟨some 154,none,.bin .neq .none (.tmp 145) (.tmp 153)⟩,
 ⟨some 155,none,.move (.tmp 154)⟩,
 ⟨some 156,some (some 155,false),.move (.tmp 0)⟩,
 ⟨some 157,some (some 155,false),.nilCheck (.tmp 156)⟩,
 ⟨some 158,some (some 155,false),.field 4 (.tmp 157)⟩,
 ⟨some 159,some (some 155,false),.load1 (.tmp 158)⟩,
 ⟨some 160,some (some 155,false),.move (.tmp 9)⟩,
 ⟨some 161,some (some 155,false),.indexList 2 (.tmp 159) (.tmp 160)⟩,
 ⟨some 162,some (some 155,false),.field 1 (.tmp 161)⟩,
 ⟨some 163,some (some 155,false),.load1 (.tmp 162)⟩,
 ⟨some 164,some (some 155,false),.len .slice (.tmp 163)⟩,
 ⟨some 165,some (some 155,false),.move (.tmp 1)⟩,
 ⟨some 166,some (some 155,false),.nilCheck (.tmp 165)⟩,
 ⟨some 167,some (some 155,false),.field 4 (.tmp 166)⟩,
 ⟨some 168,some (some 155,false),.load1 (.tmp 167)⟩,
 ⟨some 169,some (some 155,false),.move (.tmp 9)⟩,
 ⟨some 170,some (some 155,false),.indexList 2 (.tmp 168) (.tmp 169)⟩,
 ⟨some 171,some (some 155,false),.field 1 (.tmp 170)⟩,
 ⟨some 172,some (some 155,false),.load1 (.tmp 171)⟩,
 ⟨some 173,some (some 155,false),.len .slice (.tmp 172)⟩,
 ⟨some 174,some (some 155,false),.bin .neq .none (.tmp 164) (.tmp 173)⟩,
 ⟨some 175,none,.pick (.tmp 155) (.val (.bool true)) (.tmp 174)⟩]
 [])
 (.cond (.tmp 175)
 (.seq
 (.ops [⟨some 6,none,.move (.val (.bool false))⟩])
 (.ret))
 (.skip)))))
 (.ops [⟨some 176,none,.bin .add .none (.tmp 135) (.val (.int .i64 1))⟩,
 ⟨some 135,none,.move (.tmp 176)⟩])))
def qty:ACode :=
 .seq
 (.ops [⟨some 184,none,.bin .lss .none (.tmp 183) (.tmp 182)⟩])
 (.seq
 (.cond (.tmp 184)
 (.skip)
 (.exit 3))
 (.seq
 (.block 4 (
 .seq
 (.ops [⟨some 185,none,.move (.tmp 183)⟩,
 ⟨some 12,none,.move (.tmp 185)⟩])
 (.draw [⟨some 186,none,.move (.tmp 2)⟩,
 ⟨some 187,none,.move (.tmp 10)⟩,
 ⟨some 188,none,.move (.tmp 12)⟩,
 ⟨some 189,none,.indexList 1 (.tmp 187) (.tmp 188)⟩,
 ⟨some 190,none,.load1 (.tmp 189)⟩,
 ⟨some 191,none,.move (.tmp 11)⟩,
 ⟨some 192,none,.move (.tmp 12)⟩,
 ⟨some 193,none,.indexList 1 (.tmp 191) (.tmp 192)⟩,
 ⟨some 194,none,.load1 (.tmp 193)⟩,
 ⟨none,none,.mapUpdate .int (.tmp 186) (.tmp 190) (.tmp 194)⟩]
 [])))
 (.ops [⟨some 195,none,.bin .add .none (.tmp 183) (.val (.int .i64 1))⟩,
 ⟨some 183,none,.move (.tmp 195)⟩])))
def qtz:ACode :=
 .seq
 (.ops [⟨some 202,none,.bin .lss .none (.tmp 201) (.tmp 200)⟩])
 (.seq
 (.cond (.tmp 202)
 (.skip)
 (.exit 5))
 (.seq
 (.block 6 (
 .seq
 (.ops [⟨some 203,none,.move (.tmp 201)⟩,
 ⟨some 13,none,.move (.tmp 203)⟩])
 (.seq
 (.draw [⟨some 204,none,.move (.tmp 0)⟩,
 ⟨some 205,none,.nilCheck (.tmp 204)⟩,
 ⟨some 206,none,.field 3 (.tmp 205)⟩,
 ⟨some 207,none,.load1 (.tmp 206)⟩,
 ⟨some 208,none,.move (.tmp 13)⟩,
 ⟨some 209,none,.indexList 1 (.tmp 207) (.tmp 208)⟩,
 ⟨some 210,none,.load1 (.tmp 209)⟩,
 ⟨some 211,none,.move (.tmp 1)⟩,
 ⟨some 212,none,.nilCheck (.tmp 211)⟩,
 ⟨some 213,none,.field 3 (.tmp 212)⟩,
 ⟨some 214,none,.load1 (.tmp 213)⟩,
 ⟨some 215,none,.move (.tmp 13)⟩,
 ⟨some 216,none,.indexList 1 (.tmp 214) (.tmp 215)⟩,
 ⟨some 217,none,.load1 (.tmp 216)⟩,
 ⟨some 218,none,.move (.tmp 2)⟩,
 ⟨some 219,none,.call (.val (.func 189 [] [])) [(.tmp 210),(.tmp 217),(.tmp 218)]⟩,
 ⟨some 220,none,.un .not (.tmp 219)⟩]
 [])
 (.cond (.tmp 220)
 (.seq
 (.ops [⟨some 6,none,.move (.val (.bool false))⟩])
 (.ret))
 (.skip)))))
 (.ops [⟨some 221,none,.bin .add .none (.tmp 201) (.val (.int .i64 1))⟩,
 ⟨some 201,none,.move (.tmp 221)⟩])))
def qu4:ACode :=
 (.seq
 (.seq
 (.ops [⟨some 130,none,.move (.tmp 0)⟩,
 ⟨some 131,none,.nilCheck (.tmp 130)⟩,
 ⟨some 132,none,.field 4 (.tmp 131)⟩,
 ⟨some 133,none,.load1 (.tmp 132)⟩,
 ⟨some 134,none,.len .slice (.tmp 133)⟩,
 ⟨some 135,none,.move (.val (.int .i64 0))⟩])
 (.frame [0,1,2,6] (
 .block 1 (
 .gloop [0,1,2,134,135] qtx))))
 (.seq
 (.ops [⟨some 177,none,.move (.tmp 0)⟩,
 ⟨some 178,none,.call (.val (.func 232 [] [])) [(.tmp 177)]⟩,
 ⟨some 179,none,.move (.tmp 1)⟩,
 ⟨some 180,none,.call (.val (.func 232 [] [])) [(.tmp 179)]⟩,
 ⟨some 10,none,.move (.tmp 178)⟩,
 ⟨some 11,none,.move (.tmp 180)⟩])
 (.seq
 (.seq
 (.ops [⟨some 181,none,.move (.tmp 10)⟩,
 ⟨some 182,none,.len .slice (.tmp 181)⟩,
 ⟨some 183,none,.move (.val (.int .i64 0))⟩])
 (.frame [0,1,2] (
 .block 3 (
 .gloop [0,1,2,10,11,182,183] qty))))
 (.seq
 (.seq
 (.ops [⟨some 196,none,.move (.tmp 0)⟩,
 ⟨some 197,none,.nilCheck (.tmp 196)⟩,
 ⟨some 198,none,.field 3 (.tmp 197)⟩,
 ⟨some 199,none,.load1 (.tmp 198)⟩,
 ⟨some 200,none,.len .slice (.tmp 199)⟩,
 ⟨some 201,none,.move (.val (.int .i64 0))⟩])
 (.frame [6] (
 .block 5 (
 .gloop [0,1,2,200,201] qtz))))
 (.seq
 (.ops [⟨some 6,none,.move (.val (.bool true))⟩])
 (.ret))))))
def fn189:AFn:=.mk [.tmp 6] (
 .seq
 (.ops [⟨some 6,none,.move (.val (.bool false))⟩])
 (.seq
 (.seq
 (.draw [⟨some 14,none,.move (.tmp 0)⟩,
 ⟨some 15,none,.nilCheck (.tmp 14)⟩,
 ⟨some 16,none,.field 0 (.tmp 15)⟩,
 ⟨some 17,none,.load1 (.tmp 16)⟩,
 ⟨some 18,none,.move (.tmp 1)⟩,
 ⟨some 19,none,.nilCheck (.tmp 18)⟩,
 ⟨some 20,none,.field 0 (.tmp 19)⟩,
 ⟨some 21,none,.load1 (.tmp 20)⟩,
 ⟨some 22,none,.bin .neq .none (.tmp 17) (.tmp 21)⟩,
 ⟨some 23,none,.move (.tmp 22)⟩,
 ⟨some 24,some (some 23,false),.move (.tmp 0)⟩,
 ⟨some 25,some (some 23,false),.nilCheck (.tmp 24)⟩,
 ⟨some 26,some (some 23,false),.field 3 (.tmp 25)⟩,
 ⟨some 27,some (some 23,false),.load1 (.tmp 26)⟩,
 ⟨some 28,some (some 23,false),.len .slice (.tmp 27)⟩,
 ⟨some 29,some (some 23,false),.move (.tmp 1)⟩,
 ⟨some 30,some (some 23,false),.nilCheck (.tmp 29)⟩,
 ⟨some 31,some (some 23,false),.field 3 (.tmp 30)⟩,
 ⟨some 32,some (some 23,false),.load1 (.tmp 31)⟩,
 ⟨some 33,some (some 23,false),.len .slice (.tmp 32)⟩,
 ⟨some 34,some (some 23,false),.bin .neq .none (.tmp 28) (.tmp 33)⟩,
 ⟨some 35,none,.pick (.tmp 23) (.val (.bool true)) (.tmp 34)⟩,
 ⟨some 36,none,.move (.tmp 35)⟩,
 ⟨some 37,some (some 36,false),.move (.tmp 0)⟩,
 ⟨some 38,some (some 36,false),.nilCheck (.tmp 37)⟩,
 ⟨some 39,some (some 36,false),.field 2 (.tmp 38)⟩,
 ⟨some 40,some (some 36,false),.load1 (.tmp 39)⟩,
 ⟨some 41,some (some 36,false),.len .slice (.tmp 40)⟩,
 ⟨some 42,some (some 36,false),.move (.tmp 1)⟩,
 ⟨some 43,some (some 36,false),.nilCheck (.tmp 42)⟩,
 ⟨some 44,some (some 36,false),.field 2 (.tmp 43)⟩,
 ⟨some 45,some (some 36,false),.load1 (.tmp 44)⟩,
 ⟨some 46,some (some 36,false),.len .slice (.tmp 45)⟩,
 ⟨some 47,some (some 36,false),.bin .neq .none (.tmp 41) (.tmp 46)⟩,
 ⟨some 48,none,.pick (.tmp 36) (.val (.bool true)) (.tmp 47)⟩,
 ⟨some 49,none,.move (.tmp 48)⟩,
 ⟨some 50,some (some 49,false),.move (.tmp 0)⟩,
 ⟨some 51,some (some 49,false),.nilCheck (.tmp 50)⟩,
 ⟨some 52,some (some 49,false),.field 4 (.tmp 51)⟩,
 ⟨some 53,some (some 49,false),.load1 (.tmp 52)⟩,
 ⟨some 54,some (some 49,false),.len .slice (.tmp 53)⟩,
 ⟨some 55,some (some 49,false),.move (.tmp 1)⟩,
 ⟨some 56,some (some 49,false),.nilCheck (.tmp 55)⟩,
 ⟨some 57,some (some 49,false),.field 4 (.tmp 56)⟩,
 ⟨some 58,some (some 49,false),.load1 (.tmp 57)⟩,
 ⟨some 59,some (some 49,false),.len .slice (.tmp 58)⟩,
 ⟨some 60,some (some 49,false),.bin .neq .none (.tmp 54) (.tmp 59)⟩,
 ⟨some 61,none,.pick (.tmp 49) (.val (.bool true)) (.tmp 60)⟩]
 [])
 (.cond (.tmp 61)
 (.seq
 (.ops [⟨some 6,none,.move (.val (.bool false))⟩])
 (.ret))
 (.skip)))
 (.seq
 (.block 0 (
 .seq
 (.ops [⟨some 63,none,.move (.tmp 0)⟩,
 ⟨some 64,none,.nilCheck (.tmp 63)⟩,
 ⟨some 65,none,.field 0 (.tmp 64)⟩,
 ⟨some 66,none,.load1 (.tmp 65)⟩,
 ⟨some 67,none,.bin .eql .none (.tmp 66) (.val (.int .i64 0))⟩,
 ⟨some 62,none,.move (.tmp 67)⟩])
 (.cond (.tmp 62)
 (.seq
 (.ops [⟨some 69,none,.move (.tmp 2)⟩,
 ⟨some 70,none,.move (.tmp 0)⟩,
 ⟨some 71,none,.nilCheck (.tmp 70)⟩,
 ⟨some 72,none,.field 1 (.tmp 71)⟩,
 ⟨some 73,none,.load1 (.tmp 72)⟩,
 ⟨some 74,none,.lookup .int (.int .i64 0) true (.tmp 69) (.tmp 73)⟩,
 ⟨some 68,none,.move (.tmp 74)⟩,
 ⟨some 75,none,.extract 0 (.tmp 68)⟩,
 ⟨some 76,none,.extract 1 (.tmp 68)⟩,
 ⟨some 7,none,.move (.tmp 75)⟩,
 ⟨some 8,none,.move (.tmp 76)⟩])
 (.seq
 (.draw [⟨some 77,none,.move (.tmp 8)⟩,
 ⟨some 78,none,.move (.tmp 77)⟩,
 ⟨some 79,some (some 78,true),.move (.tmp 7)⟩,
 ⟨some 80,some (some 78,true),.move (.tmp 1)⟩,
 ⟨some 81,some (some 78,true),.nilCheck (.tmp 80)⟩,
 ⟨some 82,some (some 78,true),.field 1 (.tmp 81)⟩,
 ⟨some 83,some (some 78,true),.load1 (.tmp 82)⟩,
 ⟨some 84,some (some 78,true),.bin .eql .none (.tmp 79) (.tmp 83)⟩,
 ⟨some 85,none,.pick (.tmp 78) (.tmp 84) (.val (.bool false))⟩,
 ⟨some 86,none,.move (.tmp 85)⟩,
 ⟨some 87,some (some 86,false),.move (.tmp 8)⟩,
 ⟨some 88,some (some 86,false),.un .not (.tmp 87)⟩,
 ⟨some 89,some (some 86,false),.move (.tmp 88)⟩,
 ⟨some 90,some (some 89,true),.move (.tmp 0)⟩,
 ⟨some 91,some (some 89,true),.nilCheck (.tmp 90)⟩,
 ⟨some 92,some (some 89,true),.field 1 (.tmp 91)⟩,
 ⟨some 93,some (some 89,true),.load1 (.tmp 92)⟩,
 ⟨some 94,some (some 89,true),.move (.tmp 1)⟩,
 ⟨some 95,some (some 89,true),.nilCheck (.tmp 94)⟩,
 ⟨some 96,some (some 89,true),.field 1 (.tmp 95)⟩,
 ⟨some 97,some (some 89,true),.load1 (.tmp 96)⟩,
 ⟨some 98,some (some 89,true),.bin .eql .none (.tmp 93) (.tmp 97)⟩,
 ⟨some 99,some (some 86,false),.pick (.tmp 89) (.tmp 98) (.val (.bool false))⟩,
 ⟨some 100,none,.pick (.tmp 86) (.val (.bool true)) (.tmp 99)⟩,
 ⟨some 6,none,.move (.tmp 100)⟩]
 [])
 (.ret)))
 (.seq
 (.draw [⟨some 102,none,.move (.tmp 0)⟩,
 ⟨some 103,none,.nilCheck (.tmp 102)⟩,
 ⟨some 104,none,.field 1 (.tmp 103)⟩,
 ⟨some 105,none,.load1 (.tmp 104)⟩,
 ⟨some 106,none,.move (.tmp 1)⟩,
 ⟨some 107,none,.nilCheck (.tmp 106)⟩,
 ⟨some 108,none,.field 1 (.tmp 107)⟩,
 ⟨some 109,none,.load1 (.tmp 108)⟩,
 ⟨some 110,none,.bin .neq .none (.tmp 105) (.tmp 109)⟩,
 ⟨some 111,none,.move (.tmp 110)⟩,
 ⟨some 112,some (some 111,false),.move (.tmp 0)⟩,
 ⟨some 113,some (some 111,false),.nilCheck (.tmp 112)⟩,
 ⟨some 114,some (some 111,false),.field 0 (.tmp 113)⟩,
 ⟨some 115,some (some 111,false),.load1 (.tmp 114)⟩,
 ⟨some 116,some (some 111,false),.bin .eql .none (.tmp 115) (.val (.int .i64 9))⟩,
 ⟨some 117,some (some 111,false),.move (.tmp 116)⟩,
 ⟨some 118,some (some 117,true),.move (.tmp 0)⟩,
 ⟨some 119,some (some 117,true),.nilCheck (.tmp 118)⟩,
 ⟨some 120,some (some 117,true),.field 2 (.tmp 119)⟩,
 ⟨some 121,some (some 117,true),.load1 (.tmp 120)⟩,
 ⟨some 122,some (some 117,true),.move (.tmp 1)⟩,
 ⟨some 123,some (some 117,true),.nilCheck (.tmp 122)⟩,
 ⟨some 124,some (some 117,true),.field 2 (.tmp 123)⟩,
 ⟨some 125,some (some 117,true),.load1 (.tmp 124)⟩,
 ⟨some 126,some (some 117,true),.pcall 139 [(.tmp 121),(.tmp 125)]⟩,
 ⟨some 127,some (some 117,true),.un .not (.tmp 126)⟩,
 ⟨some 128,some (some 111,false),.pick (.tmp 117) (.tmp 127) (.val (.bool false))⟩,
 ⟨some 129,none,.pick (.tmp 111) (.val (.bool true)) (.tmp 128)⟩,
 ⟨some 101,none,.move (.tmp 129)⟩]
 [])
 (.cond (.tmp 101)
 (.seq
 (.ops [⟨some 6,none,.move (.val (.bool false))⟩])
 (.ret))
 (.skip))))))
 qu4)))
def fn164:AFn:=.mk [.tmp 4] (
 .seq
 (.ops [⟨some 4,none,.move (.val (.bool false))⟩])
 (.seq
 (.ops [⟨some 5,none,.move (.tmp 0)⟩,
 ⟨some 6,none,.move (.tmp 1)⟩,
 ⟨some 7,none,.makeMap⟩,
 ⟨some 8,none,.call (.val (.func 189 [] [])) [(.tmp 5),(.tmp 6),(.tmp 7)]⟩,
 ⟨some 4,none,.move (.tmp 8)⟩])
 (.ret)))
def fn133:AFn:=.mk [.tmp 4] (
 .seq
 (.ops [⟨some 4,none,.move (.val (.bool false))⟩])
 (.seq
 (.ops [⟨some 5,none,.move (.tmp 0)⟩,
 ⟨some 6,none,.pcall 134 [(.tmp 5)]⟩,
 ⟨some 7,none,.bin .eql .none (.tmp 6) (.val (.int .i64 0))⟩,
 ⟨some 8,none,.move (.tmp 7)⟩,
 ⟨some 9,some (some 8,true),.move (.tmp 1)⟩,
 ⟨some 10,some (some 8,true),.pcall 134 [(.tmp 9)]⟩,
 ⟨some 11,some (some 8,true),.bin .eql .none (.tmp 10) (.val (.int .i64 0))⟩,
 ⟨some 12,none,.pick (.tmp 8) (.tmp 11) (.val (.bool false))⟩,
 ⟨some 13,none,.move (.tmp 12)⟩,
 ⟨some 14,some (some 13,true),.move (.tmp 0)⟩,
 ⟨some 15,some (some 13,true),.pcall 160 [(.tmp 14)]⟩,
 ⟨some 16,some (some 13,true),.move (.tmp 1)⟩,
 ⟨some 17,some (some 13,true),.pcall 160 [(.tmp 16)]⟩,
 ⟨some 18,some (some 13,true),.pcall 164 [(.tmp 15),(.tmp 17)]⟩,
 ⟨some 19,none,.pick (.tmp 13) (.tmp 18) (.val (.bool false))⟩,
 ⟨some 4,none,.move (.tmp 19)⟩])
 (.ret)))
def qw7:AFn:=.mk [.tmp 0] (
 .seq
 (.ops [⟨some 0,none,.move (.val (.bool false))⟩])
 (.seq
 (.ops [⟨some 1,none,.buildSlice 1 [(.val (.int .i64 1))]⟩,
 ⟨some 2,none,.pcall 162 [(.val (.int .i64 1))]⟩,
 ⟨some 3,none,.buildSlice 1 [(.tmp 2)]⟩,
 ⟨some 4,none,.pcall 161 [(.val (.int .i64 2)),(.tmp 1),(.tmp 3)]⟩,
 ⟨some 5,none,.call (.val (.func 154 [] [])) [(.tmp 4)]⟩,
 ⟨some 6,none,.buildSlice 1 [(.val (.int .i64 2))]⟩,
 ⟨some 7,none,.pcall 162 [(.val (.int .i64 2))]⟩,
 ⟨some 8,none,.buildSlice 1 [(.tmp 7)]⟩,
 ⟨some 9,none,.pcall 161 [(.val (.int .i64 2)),(.tmp 6),(.tmp 8)]⟩,
 ⟨some 10,none,.call (.val (.func 154 [] [])) [(.tmp 9)]⟩,
 ⟨some 11,none,.pcall 133 [(.tmp 5),(.tmp 10)]⟩,
 ⟨some 0,none,.move (.tmp 11)⟩])
 (.ret)))
def fn162:AFn:=.mk [.tmp 2] (
 .seq
 (.ops [⟨some 2,none,.move (.val (.ptr none))⟩])
 (.seq
 (.ops [⟨some 3,none,.move (.tmp 0)⟩,
 ⟨some 4,none,.pcall 177 [(.val (.int .i64 0)),(.tmp 3),(.val (.list [] (some none)))]⟩,
 ⟨some 2,none,.move (.tmp 4)⟩])
 (.ret)))
def fn161:AFn:=.mk [.tmp 6] (
 .seq
 (.ops [⟨some 6,none,.move (.val (.ptr none))⟩])
 (.seq
 (.ops [⟨some 7,none,.move (.tmp 0)⟩,
 ⟨some 8,none,.move (.tmp 1)⟩,
 ⟨some 9,none,.build [(.int .i64 0),(.int .i64 0),(.list [] (some none)),(.list [] (some none)),(.list [] (some none))] [(0,1,(.tmp 7)),(2,1,(.tmp 8))]⟩,
 ⟨some 10,none,.move (.tmp 2)⟩,
 ⟨some 11,none,.build [(.int .i64 0),(.int .i64 0),(.list [] (some none)),(.list [] (some none)),(.list [] (some none)),(.list [] (some none))] [(0,5,(.tmp 9)),(5,1,(.tmp 10))]⟩,
 ⟨some 12,none,.box (.tmp 11)⟩,
 ⟨some 6,none,.move (.tmp 12)⟩])
 (.freeze 6 (.ret))))
def fn177:AFn:=.mk [.tmp 6] (
 .seq
 (.ops [⟨some 6,none,.move (.val (.ptr none))⟩])
 (.seq
 (.ops [⟨some 7,none,.move (.tmp 0)⟩,
 ⟨some 8,none,.move (.tmp 1)⟩,
 ⟨some 9,none,.build [(.int .i64 0),(.int .i64 0),(.list [] (some none)),(.list [] (some none)),(.list [] (some none))] [(0,1,(.tmp 7)),(1,1,(.tmp 8))]⟩,
 ⟨some 10,none,.move (.tmp 2)⟩,
 ⟨some 11,none,.build [(.int .i64 0),(.int .i64 0),(.list [] (some none)),(.list [] (some none)),(.list [] (some none)),(.list [] (some none))] [(0,5,(.tmp 9)),(5,1,(.tmp 10))]⟩,
 ⟨some 12,none,.box (.tmp 11)⟩,
 ⟨some 6,none,.move (.tmp 12)⟩])
 (.freeze 6 (.ret))))
def fn154:AFn:=.mk [.tmp 2] (
 .seq
 (.ops [⟨some 2,none,.move (.val (.list [] (some none)))⟩])
 (.seq
 (.ops [⟨some 3,none,.alloc [(.list [] (some none))]⟩])
 (.seq
 (.ops [⟨some 4,none,.move (.tmp 0)⟩,
 ⟨some 5,none,.call (.val (.func 183 [] [])) [(.tmp 4),(.tmp 3)]⟩])
 (.seq
 (.ops [⟨some 6,none,.load1 (.tmp 3)⟩,
 ⟨some 2,none,.move (.tmp 6)⟩])
 (.ret)))))
def qdV:ACode :=
 .seq
 (.ops [⟨some 19,none,.bin .lss .none (.tmp 18) (.tmp 17)⟩])
 (.seq
 (.cond (.tmp 19)
 (.skip)
 (.exit 0))
 (.seq
 (.block 1 (
 .seq
 (.ops [⟨some 20,none,.indexList 1 (.tmp 16) (.tmp 18)⟩,
 ⟨some 21,none,.load1 (.tmp 20)⟩,
 ⟨some 7,none,.move (.tmp 21)⟩])
 (.draw [⟨some 22,none,.field 3 (.tmp 5)⟩,
 ⟨some 23,none,.load1 (.tmp 22)⟩,
 ⟨some 24,none,.move (.tmp 7)⟩,
 ⟨some 25,none,.move (.tmp 1)⟩,
 ⟨some 26,none,.call (.val (.func 183 [] [])) [(.tmp 24),(.tmp 25)]⟩,
 ⟨some 27,none,.buildSlice 1 [(.tmp 26)]⟩,
 ⟨some 28,none,.append 1 8 (.tmp 23) (.tmp 27)⟩,
 ⟨some 29,none,.field 3 (.tmp 5)⟩,
 ⟨none,none,.store 1 (.tmp 29) (.tmp 28)⟩]
 [(1,0,1)])))
 (.ops [⟨some 30,none,.bin .add .none (.tmp 18) (.val (.int .i64 1))⟩,
 ⟨some 18,none,.move (.tmp 30)⟩])))
def fn183:AFn:=.mk [.tmp 4] (.frame [4] (
 .seq
 (.ops [⟨some 4,none,.move (.val (.int .i64 0))⟩])
 (.seq
 (.ops [⟨some 8,none,.move (.tmp 0)⟩,
 ⟨some 9,none,.nilCheck (.tmp 8)⟩,
 ⟨some 10,none,.field 0 (.tmp 9)⟩,
 ⟨some 11,none,.loadN 5 (.tmp 10)⟩,
 ⟨some 5,none,.alloc [(.int .i64 0),(.int .i64 0),(.list [] (some none)),(.list [] (some none)),(.list [] (some none))]⟩,
 ⟨none,none,.store 5 (.tmp 5) (.tmp 11)⟩])
 (.seq
 (.ops [⟨some 12,none,.field 3 (.tmp 5)⟩,
 ⟨none,none,.store 1 (.tmp 12) (.val (.list [] (some none)))⟩])
 (.seq
 (.seq
 (.ops [⟨some 13,none,.move (.tmp 0)⟩,
 ⟨some 14,none,.nilCheck (.tmp 13)⟩,
 ⟨some 15,none,.field 5 (.tmp 14)⟩,
 ⟨some 16,none,.load1 (.tmp 15)⟩,
 ⟨some 17,none,.len .slice (.tmp 16)⟩,
 ⟨some 18,none,.move (.val (.int .i64 0))⟩])
 (.frame [1,5] (
 .block 0 (
 .gloop [1,5,16,17,18] qdV))))
 (.seq
 (.draw [⟨some 31,none,.move (.tmp 1)⟩,
 ⟨some 32,none,.move (.tmp 1)⟩,
 ⟨some 33,none,.nilCheck (.tmp 32)⟩,
 ⟨some 34,none,.load1 (.tmp 33)⟩,
 ⟨some 35,none,.loadN 5 (.tmp 5)⟩,
 ⟨some 36,none,.buildSlice 5 [(.tmp 35)]⟩,
 ⟨some 37,none,.append 5 88 (.tmp 34) (.tmp 36)⟩,
 ⟨some 38,none,.nilCheck (.tmp 31)⟩,
 ⟨none,none,.store 1 (.tmp 38) (.tmp 37)⟩]
 [])
 (.seq
 (.ops [⟨some 39,none,.move (.tmp 1)⟩,
 ⟨some 40,none,.nilCheck (.tmp 39)⟩,
 ⟨some 41,none,.load1 (.tmp 40)⟩,
 ⟨some 42,none,.len .slice (.tmp 41)⟩,
 ⟨some 43,none,.bin .sub .none (.tmp 42) (.val (.int .i64 1))⟩,
 ⟨some 4,none,.move (.tmp 43)⟩])
 (.ret))))))))
end Go.Abs
namespace Go.Abs
end Go.Abs
namespace Go.Abs
end Go.Abs
namespace Go.Abs
def fn243:AFn:=.mk [.tmp 2] (
 .seq
 (.ops [⟨some 2,none,.move (.val (.bool false))⟩])
 (.seq
 (.ops [⟨some 3,none,.move (.tmp 0)⟩,
 ⟨some 4,none,.nilCheck (.tmp 3)⟩,
 ⟨some 5,none,.field 0 (.tmp 4)⟩,
 ⟨some 6,none,.load1 (.tmp 5)⟩,
 ⟨some 7,none,.bin .eql .none (.tmp 6) (.val (.int .i64 1))⟩,
 ⟨some 8,none,.move (.tmp 7)⟩,
 ⟨some 9,some (some 8,false),.move (.tmp 0)⟩,
 ⟨some 10,some (some 8,false),.nilCheck (.tmp 9)⟩,
 ⟨some 11,some (some 8,false),.field 0 (.tmp 10)⟩,
 ⟨some 12,some (some 8,false),.load1 (.tmp 11)⟩,
 ⟨some 13,some (some 8,false),.bin .eql .none (.tmp 12) (.val (.int .i64 8))⟩,
 ⟨some 14,some (some 8,false),.move (.tmp 13)⟩,
 ⟨some 15,some (some 14,true),.move (.tmp 0)⟩,
 ⟨some 16,some (some 14,true),.nilCheck (.tmp 15)⟩,
 ⟨some 17,some (some 14,true),.field 1 (.tmp 16)⟩,
 ⟨some 18,some (some 14,true),.load1 (.tmp 17)⟩,
 ⟨some 19,some (some 14,true),.bin .leq .none (.tmp 18) (.val (.int .i64 4))⟩,
 ⟨some 20,some (some 14,true),.move (.tmp 19)⟩,
 ⟨some 21,some (some 20,false),.move (.tmp 0)⟩,
 ⟨some 22,some (some 20,false),.nilCheck (.tmp 21)⟩,
 ⟨some 23,some (some 20,false),.field 1 (.tmp 22)⟩,
 ⟨some 24,some (some 20,false),.load1 (.tmp 23)⟩,
 ⟨some 25,some (some 20,false),.bin .eql .none (.tmp 24) (.val (.int .i64 9))⟩,
 ⟨some 26,some (some 14,true),.pick (.tmp 20) (.val (.bool true)) (.tmp 25)⟩,
 ⟨some 27,some (some 8,false),.pick (.tmp 14) (.tmp 26) (.val (.bool false))⟩,
 ⟨some 28,none,.pick (.tmp 8) (.val (.bool true)) (.tmp 27)⟩,
 ⟨some 2,none,.move (.tmp 28)⟩])
 (.ret)))
def fn209:AFn:=.mk [.tmp 2] (
 .seq
 (.ops [⟨some 2,none,.move (.val (.int .i64 0))⟩])
 (.seq
 (.ops [⟨some 4,none,.move (.tmp 0)⟩,
 ⟨some 5,none,.nilCheck (.tmp 4)⟩,
 ⟨some 6,none,.field 3 (.tmp 5)⟩,
 ⟨some 7,none,.load1 (.tmp 6)⟩,
 ⟨some 8,none,.indexList 1 (.tmp 7) (.val (.int .i64 0))⟩,
 ⟨some 9,none,.load1 (.tmp 8)⟩,
 ⟨some 10,none,.pcall 243 [(.tmp 9)]⟩,
 ⟨some 11,none,.move (.tmp 10)⟩,
 ⟨some 12,some (some 11,true),.move (.tmp 0)⟩,
 ⟨some 13,some (some 11,true),.nilCheck (.tmp 12)⟩,
 ⟨some 14,some (some 11,true),.field 3 (.tmp 13)⟩,
 ⟨some 15,some (some 11,true),.load1 (.tmp 14)⟩,
 ⟨some 16,some (some 11,true),.len .slice (.tmp 15)⟩,
 ⟨some 17,some (some 11,true),.bin .eql .none (.tmp 16) (.val (.int .i64 1))⟩,
 ⟨some 18,some (some 11,true),.move (.tmp 17)⟩,
 ⟨some 19,some (some 18,false),.move (.tmp 0)⟩,
 ⟨some 20,some (some 18,false),.nilCheck (.tmp 19)⟩,
 ⟨some 21,some (some 18,false),.field 3 (.tmp 20)⟩,
 ⟨some 22,some (some 18,false),.load1 (.tmp 21)⟩,
 ⟨some 23,some (some 18,false),.indexList 1 (.tmp 22) (.val (.int .i64 1))⟩,
 ⟨some 24,some (some 18,false),.load1 (.tmp 23)⟩,
 ⟨some 25,some (some 18,false),.pcall 243 [(.tmp 24)]⟩,
 ⟨some 26,some (some 11,true),.pick (.tmp 18) (.val (.bool true)) (.tmp 25)⟩,
 ⟨some 27,none,.pick (.tmp 11) (.tmp 26) (.val (.bool false))⟩,
 ⟨some 3,none,.move (.tmp 27)⟩])
 (.seq
 (.seq
 (.ops [⟨some 28,none,.move (.tmp 0)⟩,
 ⟨some 29,none,.nilCheck (.tmp 28)⟩,
 ⟨some 30,none,.field 1 (.tmp 29)⟩,
 ⟨some 31,none,.load1 (.tmp 30)⟩])
 (.block 0 (
 .seq
 (.ops [⟨some 33,none,.bin .eql .none (.tmp 31) (.val (.int .i64 7))⟩,
 ⟨some 32,none,.move (.tmp 33)⟩])
 (.cond (.tmp 32)
 (.seq
 (.ops [⟨some 2,none,.move (.val (.int .i64 3))⟩])
 (.ret))
 (.seq
 (.seq
 (.ops [⟨some 35,none,.bin .eql .none (.tmp 31) (.val (.int .i64 8))⟩,
 ⟨some 34,none,.move (.tmp 35)⟩])
 (.cond (.tmp 34)
 (.skip)
 (.ops [⟨some 36,none,.bin .eql .none (.tmp 31) (.val (.int .i64 11))⟩,
 ⟨some 34,none,.move (.tmp 36)⟩])))
 (.cond (.tmp 34)
 (.seq
 (.ops [⟨some 2,none,.move (.val (.int .i64 10))⟩])
 (.ret))
 (.seq
 (.ops [⟨some 38,none,.bin .eql .none (.tmp 31) (.val (.int .i64 10))⟩,
 ⟨some 37,none,.move (.tmp 38)⟩])
 (.cond (.tmp 37)
 (.seq
 (.ops [⟨some 2,none,.move (.val (.int .i64 18))⟩])
 (.ret))
 (.seq
 (.ops [⟨some 40,none,.bin .eql .none (.tmp 31) (.val (.int .i64 9))⟩,
 ⟨some 39,none,.move (.tmp 40)⟩])
 (.cond (.tmp 39)
 (.seq
 (.ops [⟨some 2,none,.move (.val (.int .i64 2))⟩])
 (.ret))
 (.seq
 (.seq
 (.ops [⟨some 42,none,.bin .eql .none (.tmp 31) (.val (.int .i64 3))⟩,
 ⟨some 41,none,.move (.tmp 42)⟩])
 (.cond (.tmp 41)
 (.skip)
 (.ops [⟨some 43,none,.bin .eql .none (.tmp 31) (.val (.int .i64 4))⟩,
 ⟨some 41,none,.move (.tmp 43)⟩])))
 (.cond (.tmp 41)
 (.seq
 (.seq
 (.ops [⟨some 44,none,.move (.tmp 3)⟩,
 ⟨some 45,none,.move (.tmp 44)⟩,
 ⟨some 46,some (some 45,true),.move (.tmp 0)⟩,
 ⟨some 47,some (some 45,true),.nilCheck (.tmp 46)⟩,
 ⟨some 48,some (some 45,true),.field 3 (.tmp 47)⟩,
 ⟨some 49,some (some 45,true),.load1 (.tmp 48)⟩,
 ⟨some 50,some (some 45,true),.indexList 1 (.tmp 49) (.val (.int .i64 1))⟩,
 ⟨some 51,some (some 45,true),.load1 (.tmp 50)⟩,
 ⟨some 52,some (some 45,true),.nilCheck (.tmp 51)⟩,
 ⟨some 53,some (some 45,true),.field 0 (.tmp 52)⟩,
 ⟨some 54,some (some 45,true),.load1 (.tmp 53)⟩,
 ⟨some 55,some (some 45,true),.bin .eql .none (.tmp 54) (.val (.int .i64 1))⟩,
 ⟨some 56,none,.pick (.tmp 45) (.tmp 55) (.val (.bool false))⟩,
 ⟨some 57,none,.move (.tmp 56)⟩,
 ⟨some 58,some (some 57,true),.move (.tmp 0)⟩,
 ⟨some 59,some (some 57,true),.nilCheck (.tmp 58)⟩,
 ⟨some 60,some (some 57,true),.field 3 (.tmp 59)⟩,
 ⟨some 61,some (some 57,true),.load1 (.tmp 60)⟩,
 ⟨some 62,some (some 57,true),.indexList 1 (.tmp 61) (.val (.int .i64 1))⟩,
 ⟨some 63,some (some 57,true),.load1 (.tmp 62)⟩,
 ⟨some 64,some (some 57,true),.nilCheck (.tmp 63)⟩,
 ⟨some 65,some (some 57,true),.field 1 (.tmp 64)⟩,
 ⟨some 66,some (some 57,true),.load1 (.tmp 65)⟩,
 ⟨some 67,some (some 57,true),.bin .neq .none (.tmp 66) (.val (.int .i64 0))⟩,
 ⟨some 68,none,.pick (.tmp 57) (.tmp 67) (.val (.bool false))⟩])
 (.cond (.tmp 68)
 (.seq
 (.ops [⟨some 2,none,.move (.val (.int .i64 0))⟩])
 (.ret))
 (.skip)))
 (.seq
 (.ops [⟨some 2,none,.move (.val (.int .i64 2))⟩])
 (.ret)))
 (.skip)))))))))))))
 (.seq
 (.seq
 (.ops [⟨some 69,none,.move (.tmp 3)⟩])
 (.cond (.tmp 69)
 (.seq
 (.ops [⟨some 2,none,.move (.val (.int .i64 0))⟩])
 (.ret))
 (.skip)))
 (.seq
 (.ops [⟨some 2,none,.move (.val (.int .i64 2))⟩])
 (.ret))))))
def qfU:ACode :=
 .seq
 (.ops [⟨some 38,none,.bin .lss .none (.tmp 37) (.tmp 36)⟩])
 (.seq
 (.cond (.tmp 38)
 (.skip)
 (.exit 0))
 (.seq
 (.block 1 (
 .seq
 (.ops [⟨some 39,none,.indexList 2 (.tmp 35) (.tmp 37)⟩,
 ⟨some 40,none,.loadN 2 (.tmp 39)⟩,
 ⟨some 6,none,.alloc [(.int .i64 0),(.list [] (some none))]⟩,
 ⟨none,none,.store 2 (.tmp 6) (.tmp 40)⟩])
 (.block 2 (
 .seq
 (.ops [⟨some 42,none,.field 0 (.tmp 6)⟩,
 ⟨some 43,none,.load1 (.tmp 42)⟩,
 ⟨some 44,none,.bin .eql .none (.tmp 43) (.val (.int .i64 (-1)))⟩,
 ⟨some 41,none,.move (.tmp 44)⟩])
 (.cond (.tmp 41)
 (.seq
 (.ops [⟨some 2,none,.move (.val (.bool true))⟩])
 (.ret))
 (.seq
 (.ops [⟨some 46,none,.field 0 (.tmp 6)⟩,
 ⟨some 47,none,.load1 (.tmp 46)⟩,
 ⟨some 48,none,.bin .leq .none (.tmp 47) (.val (.int .i64 1))⟩,
 ⟨some 49,none,.move (.tmp 48)⟩,
 ⟨some 50,some (some 49,true),.field 1 (.tmp 6)⟩,
 ⟨some 51,some (some 49,true),.load1 (.tmp 50)⟩,
 ⟨some 52,some (some 49,true),.len .slice (.tmp 51)⟩,
 ⟨some 53,some (some 49,true),.bin .eql .none (.tmp 52) (.val (.int .i64 0))⟩,
 ⟨some 54,none,.pick (.tmp 49) (.tmp 53) (.val (.bool false))⟩,
 ⟨some 45,none,.move (.tmp 54)⟩])
 (.cond (.tmp 45)
 (.ops [⟨some 55,none,.move (.tmp 4)⟩,
 ⟨some 56,none,.bin .add .none (.tmp 55) (.val (.int .i64 1))⟩,
 ⟨some 4,none,.move (.tmp 56)⟩])
 (.seq
 (.ops [⟨some 58,none,.field 0 (.tmp 6)⟩,
 ⟨some 59,none,.load1 (.tmp 58)⟩,
 ⟨some 60,none,.bin .leq .none (.tmp 59) (.val (.int .i64 1))⟩,
 ⟨some 57,none,.move (.tmp 60)⟩])
 (.cond (.tmp 57)
 (.seq
 (.ops [⟨some 2,none,.move (.val (.bool false))⟩])
 (.ret))
 (.skip))))))))))
 (.ops [⟨some 61,none,.bin .add .none (.tmp 37) (.val (.int .i64 1))⟩,
 ⟨some 37,none,.move (.tmp 61)⟩])))
def fn210:AFn:=.mk [.tmp 2] (
 .seq
 (.ops [⟨some 2,none,.move (.val (.bool false))⟩])
 (.seq
 (.ops [⟨some 7,none,.move (.tmp 0)⟩,
 ⟨some 8,none,.nilCheck (.tmp 7)⟩,
 ⟨some 9,none,.field 3 (.tmp 8)⟩,
 ⟨some 10,none,.load1 (.tmp 9)⟩,
 ⟨some 11,none,.indexList 1 (.tmp 10) (.val (.int .i64 0))⟩,
 ⟨some 12,none,.load1 (.tmp 11)⟩,
 ⟨some 3,none,.move (.tmp 12)⟩])
 (.seq
 (.seq
 (.ops [⟨some 13,none,.move (.tmp 3)⟩,
 ⟨some 14,none,.nilCheck (.tmp 13)⟩,
 ⟨some 15,none,.field 0 (.tmp 14)⟩,
 ⟨some 16,none,.load1 (.tmp 15)⟩,
 ⟨some 17,none,.bin .neq .none (.tmp 16) (.val (.int .i64 8))⟩,
 ⟨some 18,none,.move (.tmp 17)⟩,
 ⟨some 19,some (some 18,false),.move (.tmp 3)⟩,
 ⟨some 20,some (some 18,false),.nilCheck (.tmp 19)⟩,
 ⟨some 21,some (some 18,false),.field 1 (.tmp 20)⟩,
 ⟨some 22,some (some 18,false),.load1 (.tmp 21)⟩,
 ⟨some 23,some (some 18,false),.bin .neq .none (.tmp 22) (.val (.int .i64 5))⟩,
 ⟨some 24,some (some 18,false),.move (.tmp 23)⟩,
 ⟨some 25,some (some 24,true),.move (.tmp 3)⟩,
 ⟨some 26,some (some 24,true),.nilCheck (.tmp 25)⟩,
 ⟨some 27,some (some 24,true),.field 1 (.tmp 26)⟩,
 ⟨some 28,some (some 24,true),.load1 (.tmp 27)⟩,
 ⟨some 29,some (some 24,true),.bin .neq .none (.tmp 28) (.val (.int .i64 6))⟩,
 ⟨some 30,some (some 18,false),.pick (.tmp 24) (.tmp 29) (.val (.bool false))⟩,
 ⟨some 31,none,.pick (.tmp 18) (.val (.bool true)) (.tmp 30)⟩])
 (.cond (.tmp 31)
 (.seq
 (.ops [⟨some 2,none,.move (.val (.bool false))⟩])
 (.ret))
 (.skip)))
 (.seq
 (.ops [⟨some 4,none,.move (.val (.int .i64 0))⟩])
 (.seq
 (.seq
 (.ops [⟨some 32,none,.move (.tmp 0)⟩,
 ⟨some 33,none,.nilCheck (.tmp 32)⟩,
 ⟨some 34,none,.field 4 (.tmp 33)⟩,
 ⟨some 35,none,.load1 (.tmp 34)⟩,
 ⟨some 36,none,.len .slice (.tmp 35)⟩,
 ⟨some 37,none,.move (.val (.int .i64 0))⟩])
 (.frame [2,4] (
 .block 0 (
 .gloop [4,35,36,37] qfU))))
 (.seq
 (.ops [⟨some 62,none,.move (.tmp 4)⟩,
 ⟨some 63,none,.bin .eql .none (.tmp 62) (.val (.int .i64 2))⟩,
 ⟨some 2,none,.move (.tmp 63)⟩])
 (.ret)))))))
def qh8:ACode :=
 .seq
 (.ops [⟨some 10,none,.bin .lss .none (.tmp 9) (.tmp 8)⟩])
 (.seq
 (.cond (.tmp 10)
 (.skip)
 (.exit 0))
 (.seq
 (.block 1 (
 .seq
 (.ops [⟨some 11,none,.indexList 1 (.tmp 7) (.tmp 9)⟩,
 ⟨some 12,none,.load1 (.tmp 11)⟩,
 ⟨some 6,none,.move (.tmp 12)⟩])
 (.seq
 (.ops [⟨some 13,none,.move (.tmp 6)⟩,
 ⟨some 14,none,.move (.tmp 1)⟩,
 ⟨some 15,none,.bin .eql .none (.tmp 13) (.tmp 14)⟩])
 (.cond (.tmp 15)
 (.seq
 (.ops [⟨some 4,none,.move (.val (.bool true))⟩])
 (.ret))
 (.skip)))))
 (.ops [⟨some 16,none,.bin .add .none (.tmp 9) (.val (.int .i64 1))⟩,
 ⟨some 9,none,.move (.tmp 16)⟩])))
def fn211:AFn:=.mk [.tmp 4] (
 .seq
 (.ops [⟨some 4,none,.move (.val (.bool false))⟩])
 (.seq
 (.seq
 (.ops [⟨some 7,none,.move (.tmp 0)⟩,
 ⟨some 8,none,.len .slice (.tmp 7)⟩,
 ⟨some 9,none,.move (.val (.int .i64 0))⟩])
 (.frame [4] (
 .block 0 (
 .gloop [1,7,8,9] qh8))))
 (.seq
 (.ops [⟨some 4,none,.move (.val (.bool false))⟩])
 (.ret))))
def fn173:AFn:=.mk [.tmp 2] (
 .seq
 (.ops [⟨some 2,none,.move (.val (.int .i64 0))⟩])
 (.seq
 (.seq
 (.ops [⟨some 3,none,.move (.tmp 0)⟩,
 ⟨some 4,none,.nilCheck (.tmp 3)⟩,
 ⟨some 5,none,.field 0 (.tmp 4)⟩,
 ⟨some 6,none,.load1 (.tmp 5)⟩])
 (.block 0 (
 .seq
 (.ops [⟨some 8,none,.bin .eql .none (.tmp 6) (.val (.int .i64 17))⟩,
 ⟨some 7,none,.move (.tmp 8)⟩])
 (.cond (.tmp 7)
 (.seq
 (.ops [⟨some 2,none,.move (.val (.int .i64 2))⟩])
 (.ret))
 (.seq
 (.ops [⟨some 10,none,.bin .eql .none (.tmp 6) (.val (.int .i64 8))⟩,
 ⟨some 9,none,.move (.tmp 10)⟩])
 (.cond (.tmp 9)
 (.seq
 (.ops [⟨some 11,none,.move (.tmp 0)⟩,
 ⟨some 12,none,.pcall 209 [(.tmp 11)]⟩,
 ⟨some 2,none,.move (.tmp 12)⟩])
 (.ret))
 (.seq
 (.ops [⟨some 14,none,.bin .eql .none (.tmp 6) (.val (.int .i64 3))⟩,
 ⟨some 13,none,.move (.tmp 14)⟩])
 (.cond (.tmp 13)
 (.seq
 (.draw [⟨some 15,none,.move (.tmp 0)⟩,
 ⟨some 16,none,.nilCheck (.tmp 15)⟩,
 ⟨some 17,none,.field 3 (.tmp 16)⟩,
 ⟨some 18,none,.load1 (.tmp 17)⟩,
 ⟨some 19,none,.indexList 1 (.tmp 18) (.val (.int .i64 0))⟩,
 ⟨some 20,none,.load1 (.tmp 19)⟩,
 ⟨some 21,none,.nilCheck (.tmp 20)⟩,
 ⟨some 22,none,.field 0 (.tmp 21)⟩,
 ⟨some 23,none,.load1 (.tmp 22)⟩,
 ⟨some 24,none,.bin .neq .none (.tmp 23) (.val (.int .i64 2))⟩,
 ⟨some 25,none,.move (.tmp 24)⟩,
 ⟨some 26,some (some 25,false),.move (.tmp 0)⟩,
 ⟨some 27,some (some 25,false),.nilCheck (.tmp 26)⟩,
 ⟨some 28,some (some 25,false),.field 3 (.tmp 27)⟩,
 ⟨some 29,some (some 25,false),.load1 (.tmp 28)⟩,
 ⟨some 30,some (some 25,false),.indexList 1 (.tmp 29) (.val (.int .i64 0))⟩,
 ⟨some 31,some (some 25,false),.load1 (.tmp 30)⟩,
 ⟨some 32,some (some 25,false),.nilCheck (.tmp 31)⟩,
 ⟨some 33,some (some 25,false),.field 2 (.tmp 32)⟩,
 ⟨some 34,some (some 25,false),.load1 (.tmp 33)⟩,
 ⟨some 35,some (some 25,false),.len .slice (.tmp 34)⟩,
 ⟨some 36,some (some 25,false),.move (.tmp 0)⟩,
 ⟨some 37,some (some 25,false),.nilCheck (.tmp 36)⟩,
 ⟨some 38,some (some 25,false),.field 3 (.tmp 37)⟩,
 ⟨some 39,some (some 25,false),.load1 (.tmp 38)⟩,
 ⟨some 40,some (some 25,false),.len .slice (.tmp 39)⟩,
 ⟨some 41,some (some 25,false),.bin .sub .none (.tmp 40) (.val (.int .i64 1))⟩,
 ⟨some 42,some (some 25,false),.bin .neq .none (.tmp 35) (.tmp 41)⟩,
 ⟨some 43,none,.pick (.tmp 25) (.val (.bool true)) (.tmp 42)⟩]
 [])
 (.cond (.tmp 43)
 (.seq
 (.ops [⟨some 2,none,.move (.val (.int .i64 63))⟩])
 (.ret))
 (.skip)))
 (.seq
 (.ops [⟨some 45,none,.bin .eql .none (.tmp 6) (.val (.int .i64 7))⟩,
 ⟨some 44,none,.move (.tmp 45)⟩])
 (.cond (.tmp 44)
 (.seq
 (.ops [⟨some 46,none,.move (.tmp 0)⟩,
 ⟨some 47,none,.pcall 210 [(.tmp 46)]⟩,
 ⟨some 48,none,.un .not (.tmp 47)⟩])
 (.cond (.tmp 48)
 (.seq
 (.ops [⟨some 2,none,.move (.val (.int .i64 2))⟩])
 (.ret))
 (.skip)))
 (.seq
 (.seq
 (.ops [⟨some 50,none,.bin .eql .none (.tmp 6) (.val (.int .i64 10))⟩,
 ⟨some 49,none,.move (.tmp 50)⟩])
 (.cond (.tmp 49)
 (.skip)
 (.ops [⟨some 51,none,.bin .eql .none (.tmp 6) (.val (.int .i64 11))⟩,
 ⟨some 49,none,.move (.tmp 51)⟩])))
 (.cond (.tmp 49)
 (.seq
 (.draw [⟨some 52,none,.move (.tmp 0)⟩,
 ⟨some 53,none,.nilCheck (.tmp 52)⟩,
 ⟨some 54,none,.field 3 (.tmp 53)⟩,
 ⟨some 55,none,.load1 (.tmp 54)⟩,
 ⟨some 56,none,.indexList 1 (.tmp 55) (.val (.int .i64 0))⟩,
 ⟨some 57,none,.load1 (.tmp 56)⟩,
 ⟨some 58,none,.nilCheck (.tmp 57)⟩,
 ⟨some 59,none,.field 0 (.tmp 58)⟩,
 ⟨some 60,none,.load1 (.tmp 59)⟩,
 ⟨some 61,none,.bin .neq .none (.tmp 60) (.val (.int .i64 9))⟩,
 ⟨some 62,none,.move (.tmp 61)⟩,
 ⟨some 63,some (some 62,false),.move (.tmp 0)⟩,
 ⟨some 64,some (some 62,false),.nilCheck (.tmp 63)⟩,
 ⟨some 65,some (some 62,false),.field 0 (.tmp 64)⟩,
 ⟨some 66,some (some 62,false),.load1 (.tmp 65)⟩,
 ⟨some 67,some (some 62,false),.bin .eql .none (.tmp 66) (.val (.int .i64 10))⟩,
 ⟨some 68,some (some 62,false),.move (.tmp 67)⟩,
 ⟨some 69,some (some 68,true),.move (.tmp 0)⟩,
 ⟨some 70,some (some 68,true),.nilCheck (.tmp 69)⟩,
 ⟨some 71,some (some 68,true),.field 3 (.tmp 70)⟩,
 ⟨some 72,some (some 68,true),.load1 (.tmp 71)⟩,
 ⟨some 73,some (some 68,true),.indexList 1 (.tmp 72) (.val (.int .i64 0))⟩,
 ⟨some 74,some (some 68,true),.load1 (.tmp 73)⟩,
 ⟨some 75,some (some 68,true),.nilCheck (.tmp 74)⟩,
 ⟨some 76,some (some 68,true),.field 2 (.tmp 75)⟩,
 ⟨some 77,some (some 68,true),.load1 (.tmp 76)⟩,
 ⟨some 78,some (some 68,true),.move (.tmp 0)⟩,
 ⟨some 79,some (some 68,true),.nilCheck (.tmp 78)⟩,
 ⟨some 80,some (some 68,true),.field 1 (.tmp 79)⟩,
 ⟨some 81,some (some 68,true),.load1 (.tmp 80)⟩,
 ⟨some 82,some (some 68,true),.pcall 211 [(.tmp 77),(.tmp 81)]⟩,
 ⟨some 83,some (some 68,true),.un .not (.tmp 82)⟩,
 ⟨some 84,some (some 62,false),.pick (.tmp 68) (.tmp 83) (.val (.bool false))⟩,
 ⟨some 85,none,.pick (.tmp 62) (.val (.bool true)) (.tmp 84)⟩]
 [])
 (.cond (.tmp 85)
 (.seq
 (.ops [⟨some 2,none,.move (.val (.int .i64 2))⟩])
 (.ret))
 (.skip)))
 (.seq
 (.ops [⟨some 87,none,.bin .eql .none (.tmp 6) (.val (.int .i64 12))⟩,
 ⟨some 86,none,.move (.tmp 87)⟩])
 (.cond (.tmp 86)
 (.seq
 (.ops [⟨some 2,none,.move (.val (.int .i64 6))⟩])
 (.ret))
 (.seq
 (.ops [⟨some 89,none,.bin .eql .none (.tmp 6) (.val (.int .i64 13))⟩,
 ⟨some 88,none,.move (.tmp 89)⟩])
 (.cond (.tmp 88)
 (.seq
 (.ops [⟨some 2,none,.move (.val (.int .i64 63))⟩])
 (.ret))
 (.skip)))))))))))))))))
 (.seq
 (.ops [⟨some 2,none,.move (.val (.int .i64 0))⟩])
 (.ret))))
def qh4:ACode :=
 .seq
 (.ops [⟨some 42,none,.bin .lss .none (.tmp 41) (.tmp 40)⟩])
 (.seq
 (.cond (.tmp 42)
 (.skip)
 (.exit 2))
 (.seq
 (.block 3 (
 .seq
 (.ops [⟨some 43,none,.indexList 1 (.tmp 39) (.tmp 41)⟩,
 ⟨some 44,none,.load1 (.tmp 43)⟩,
 ⟨some 10,none,.move (.tmp 44)⟩])
 (.draw [⟨some 45,none,.move (.tmp 8)⟩,
 ⟨some 46,none,.move (.tmp 8)⟩,
 ⟨some 47,none,.nilCheck (.tmp 46)⟩,
 ⟨some 48,none,.field 3 (.tmp 47)⟩,
 ⟨some 49,none,.load1 (.tmp 48)⟩,
 ⟨some 50,none,.move (.tmp 0)⟩,
 ⟨some 51,none,.move (.tmp 10)⟩,
 ⟨some 52,none,.indexList 5 (.tmp 50) (.tmp 51)⟩,
 ⟨some 53,none,.field 0 (.tmp 52)⟩,
 ⟨some 54,none,.load1 (.tmp 53)⟩,
 ⟨some 55,none,.move (.tmp 0)⟩,
 ⟨some 56,none,.move (.tmp 10)⟩,
 ⟨some 57,none,.indexList 5 (.tmp 55) (.tmp 56)⟩,
 ⟨some 58,none,.field 1 (.tmp 57)⟩,
 ⟨some 59,none,.load1 (.tmp 58)⟩,
 ⟨some 60,none,.move (.tmp 0)⟩,
 ⟨some 61,none,.move (.tmp 10)⟩,
 ⟨some 62,none,.indexList 5 (.tmp 60) (.tmp 61)⟩,
 ⟨some 63,none,.field 2 (.tmp 62)⟩,
 ⟨some 64,none,.load1 (.tmp 63)⟩,
 ⟨some 65,none,.build [(.int .i64 0),(.int .i64 0),(.list [] (some none)),(.list [] (some none)),(.list [] (some none))] [(0,1,(.tmp 54)),(1,1,(.tmp 59)),(2,1,(.tmp 64))]⟩,
 ⟨some 66,none,.box (.tmp 65)⟩,
 ⟨some 67,none,.buildSlice 1 [(.tmp 66)]⟩,
 ⟨some 68,none,.append 1 8 (.tmp 49) (.tmp 67)⟩,
 ⟨some 69,none,.nilCheck (.tmp 45)⟩,
 ⟨some 70,none,.field 3 (.tmp 69)⟩,
 ⟨none,none,.store 1 (.tmp 70) (.tmp 68)⟩]
 [(4,0,1)])))
 (.ops [⟨some 71,none,.bin .add .none (.tmp 41) (.val (.int .i64 1))⟩,
 ⟨some 41,none,.move (.tmp 71)⟩])))
def qdU:ACode :=
 .seq
 (.ops [⟨some 81,none,.bin .lss .none (.tmp 80) (.tmp 79)⟩])
 (.seq
 (.cond (.tmp 81)
 (.skip)
 (.exit 4))
 (.seq
 (.block 5 (
 .seq
 (.ops [⟨some 82,none,.move (.tmp 80)⟩,
 ⟨some 83,none,.indexList 1 (.tmp 78) (.tmp 80)⟩,
 ⟨some 84,none,.load1 (.tmp 83)⟩,
 ⟨some 11,none,.move (.tmp 82)⟩,
 ⟨some 12,none,.move (.tmp 84)⟩])
 (.block 6 (
 .seq
 (.seq
 (.ops [⟨some 96,none,.field 0 (.tmp 7)⟩,
 ⟨some 97,none,.load1 (.tmp 96)⟩,
 ⟨some 98,none,.bin .eql .none (.tmp 97) (.val (.int .i64 2))⟩,
 ⟨some 95,none,.move (.tmp 98)⟩])
 (.cond (.tmp 95)
 (.skip)
 (.ops [⟨some 99,none,.field 0 (.tmp 7)⟩,
 ⟨some 100,none,.load1 (.tmp 99)⟩,
 ⟨some 101,none,.bin .eql .none (.tmp 100) (.val (.int .i64 5))⟩,
 ⟨some 102,none,.move (.tmp 101)⟩,
 ⟨some 103,some (some 102,true),.move (.tmp 11)⟩,
 ⟨some 104,some (some 102,true),.field 2 (.tmp 7)⟩,
 ⟨some 105,some (some 102,true),.load1 (.tmp 104)⟩,
 ⟨some 106,some (some 102,true),.len .slice (.tmp 105)⟩,
 ⟨some 107,some (some 102,true),.bin .lss .none (.tmp 103) (.tmp 106)⟩,
 ⟨some 108,none,.pick (.tmp 102) (.tmp 107) (.val (.bool false))⟩,
 ⟨some 95,none,.move (.tmp 108)⟩])))
 (.cond (.tmp 95)
 (.skip)
 (.seq
 (.ops [⟨some 110,none,.field 0 (.tmp 7)⟩,
 ⟨some 111,none,.load1 (.tmp 110)⟩,
 ⟨some 112,none,.bin .eql .none (.tmp 111) (.val (.int .i64 3))⟩,
 ⟨some 113,none,.move (.tmp 112)⟩,
 ⟨some 114,some (some 113,true),.move (.tmp 11)⟩,
 ⟨some 115,some (some 113,true),.bin .eql .none (.tmp 114) (.val (.int .i64 0))⟩,
 ⟨some 116,none,.pick (.tmp 113) (.tmp 115) (.val (.bool false))⟩,
 ⟨some 117,none,.move (.tmp 116)⟩,
 ⟨some 118,some (some 117,true),.move (.tmp 0)⟩,
 ⟨some 119,some (some 117,true),.move (.tmp 12)⟩,
 ⟨some 120,some (some 117,true),.indexList 5 (.tmp 118) (.tmp 119)⟩,
 ⟨some 121,some (some 117,true),.field 0 (.tmp 120)⟩,
 ⟨some 122,some (some 117,true),.load1 (.tmp 121)⟩,
 ⟨some 123,some (some 117,true),.bin .eql .none (.tmp 122) (.val (.int .i64 2))⟩,
 ⟨some 124,none,.pick (.tmp 117) (.tmp 123) (.val (.bool false))⟩,
 ⟨some 109,none,.move (.tmp 124)⟩])
 (.cond (.tmp 109)
 (.draw [⟨some 125,none,.move (.tmp 5)⟩,
 ⟨some 126,none,.move (.tmp 6)⟩,
 ⟨some 127,none,.indexList 1 (.tmp 125) (.tmp 126)⟩,
 ⟨some 128,none,.load1 (.tmp 127)⟩,
 ⟨some 129,none,.move (.tmp 5)⟩,
 ⟨some 130,none,.move (.tmp 0)⟩,
 ⟨some 131,none,.move (.tmp 12)⟩,
 ⟨some 132,none,.indexList 5 (.tmp 130) (.tmp 131)⟩,
 ⟨some 133,none,.field 3 (.tmp 132)⟩,
 ⟨some 134,none,.load1 (.tmp 133)⟩,
 ⟨some 135,none,.indexList 1 (.tmp 134) (.val (.int .i64 0))⟩,
 ⟨some 136,none,.load1 (.tmp 135)⟩,
 ⟨some 137,none,.indexList 1 (.tmp 129) (.tmp 136)⟩,
 ⟨some 138,none,.load1 (.tmp 137)⟩,
 ⟨some 139,none,.bin .or .none (.tmp 128) (.tmp 138)⟩,
 ⟨some 140,none,.indexList 1 (.tmp 125) (.tmp 126)⟩,
 ⟨none,none,.store 1 (.tmp 140) (.tmp 139)⟩]
 [])
 (.draw [⟨some 85,none,.move (.tmp 5)⟩,
 ⟨some 86,none,.move (.tmp 6)⟩,
 ⟨some 87,none,.indexList 1 (.tmp 85) (.tmp 86)⟩,
 ⟨some 88,none,.load1 (.tmp 87)⟩,
 ⟨some 89,none,.move (.tmp 5)⟩,
 ⟨some 90,none,.move (.tmp 12)⟩,
 ⟨some 91,none,.indexList 1 (.tmp 89) (.tmp 90)⟩,
 ⟨some 92,none,.load1 (.tmp 91)⟩,
 ⟨some 93,none,.bin .or .none (.tmp 88) (.tmp 92)⟩,
 ⟨some 94,none,.indexList 1 (.tmp 85) (.tmp 86)⟩,
 ⟨none,none,.store 1 (.tmp 94) (.tmp 93)⟩]
 []))))))))
 (.ops [⟨some 141,none,.bin .add .none (.tmp 80) (.val (.int .i64 1))⟩,
 ⟨some 80,none,.move (.tmp 141)⟩])))
def qjL:ACode :=
 .seq
 (.ops [⟨some 24,none,.bin .lss .none (.tmp 23) (.tmp 22)⟩])
 (.seq
 (.cond (.tmp 24)
 (.skip)
 (.exit 0))
 (.seq
 (.block 1 (
 .seq
 (.ops [⟨some 25,none,.move (.tmp 23)⟩,
 ⟨some 26,none,.indexList 5 (.tmp 21) (.tmp 23)⟩,
 ⟨some 27,none,.loadN 5 (.tmp 26)⟩,
 ⟨some 7,none,.alloc [(.int .i64 0),(.int .i64 0),(.list [] (some none)),(.list [] (some none)),(.list [] (some none))]⟩,
 ⟨some 6,none,.move (.tmp 25)⟩,
 ⟨none,none,.store 5 (.tmp 7) (.tmp 27)⟩])
 (.seq
 (.ops [⟨some 28,none,.field 0 (.tmp 7)⟩,
 ⟨some 29,none,.load1 (.tmp 28)⟩,
 ⟨some 30,none,.field 1 (.tmp 7)⟩,
 ⟨some 31,none,.load1 (.tmp 30)⟩,
 ⟨some 32,none,.field 2 (.tmp 7)⟩,
 ⟨some 33,none,.load1 (.tmp 32)⟩,
 ⟨some 34,none,.field 4 (.tmp 7)⟩,
 ⟨some 35,none,.load1 (.tmp 34)⟩,
 ⟨some 36,none,.build [(.int .i64 0),(.int .i64 0),(.list [] (some none)),(.list [] (some none)),(.list [] (some none))] [(0,1,(.tmp 29)),(1,1,(.tmp 31)),(2,1,(.tmp 33)),(4,1,(.tmp 35))]⟩,
 ⟨some 37,none,.box (.tmp 36)⟩,
 ⟨some 8,none,.move (.tmp 37)⟩])
 (.seq
 (.seq
 (.ops [⟨some 38,none,.field 3 (.tmp 7)⟩,
 ⟨some 39,none,.load1 (.tmp 38)⟩,
 ⟨some 40,none,.len .slice (.tmp 39)⟩,
 ⟨some 41,none,.move (.val (.int .i64 0))⟩])
 (.frame [1000000,0,5,6,7,8,21,22,23] (
 .block 2 (
 .gloop [1000000,0,5,6,7,8,21,22,23,39,40,41] qh4))))
 (.seq
 (.ops [⟨some 72,none,.move (.tmp 5)⟩,
 ⟨some 73,none,.move (.tmp 6)⟩,
 ⟨some 74,none,.move (.tmp 8)⟩,
 ⟨some 75,none,.vcall 173 [(.tmp 74)]⟩,
 ⟨some 76,none,.indexList 1 (.tmp 72) (.tmp 73)⟩,
 ⟨none,none,.store 1 (.tmp 76) (.tmp 75)⟩])
 (.seq
 (.ops [⟨some 77,none,.field 3 (.tmp 7)⟩,
 ⟨some 78,none,.load1 (.tmp 77)⟩,
 ⟨some 79,none,.len .slice (.tmp 78)⟩,
 ⟨some 80,none,.move (.val (.int .i64 0))⟩])
 (.frame [1000000,0,5,21,22,23] (
 .block 4 (
 .gloop [1000000,0,5,6,7,21,22,23,78,79,80] qdU)))))))))
 (.ops [⟨some 142,none,.bin .add .none (.tmp 23) (.val (.int .i64 1))⟩,
 ⟨some 23,none,.move (.tmp 142)⟩])))
def fn144:AFn:=.mk [.tmp 2,.tmp 3] (
 .seq
 (.ops [⟨some 2,none,.move (.val (.list [] (some none)))⟩,
 ⟨some 3,none,.move (.val (.int .i64 0))⟩])
 (.seq
 (.seq
 (.ops [⟨some 13,none,.move (.tmp 0)⟩,
 ⟨some 14,none,.pcall 134 [(.tmp 13)]⟩,
 ⟨some 4,none,.move (.tmp 14)⟩])
 (.seq
 (.ops [⟨some 15,none,.move (.tmp 4)⟩,
 ⟨some 16,none,.bin .neq .none (.tmp 15) (.val (.int .i64 0))⟩])
 (.cond (.tmp 16)
 (.seq
 (.ops [⟨some 17,none,.move (.tmp 4)⟩,
 ⟨some 2,none,.move (.val (.list [] (some none)))⟩,
 ⟨some 3,none,.move (.tmp 17)⟩])
 (.ret))
 (.skip))))
 (.seq
 (.ops [⟨some 18,none,.move (.tmp 0)⟩,
 ⟨some 19,none,.len .slice (.tmp 18)⟩,
 ⟨some 20,none,.makeSlice (.int .i64 0) (.tmp 19) (.tmp 19)⟩,
 ⟨some 5,none,.move (.tmp 20)⟩])
 (.seq
 (.seq
 (.ops [⟨some 21,none,.move (.tmp 0)⟩,
 ⟨some 22,none,.len .slice (.tmp 21)⟩,
 ⟨some 23,none,.move (.val (.int .i64 0))⟩])
 (.frame [5] (
 .block 0 (
 .gloop [0,5,21,22,23] qjL))))
 (.seq
 (.ops [⟨some 143,none,.move (.tmp 5)⟩,
 ⟨some 2,none,.move (.tmp 143)⟩,
 ⟨some 3,none,.move (.val (.int .i64 0))⟩])
 (.ret))))))
def fn145:AFn:=.mk [.tmp 0] (
 .seq
 (.ops [⟨some 0,none,.move (.val (.bool false))⟩])
 (.seq
 (.ops [⟨some 4,none,.pcall 153 [(.val (.int .i64 1))]⟩,
 ⟨some 5,none,.pcall 174 [(.tmp 4)]⟩,
 ⟨some 6,none,.call (.val (.func 154 [] [])) [(.tmp 5)]⟩,
 ⟨some 7,none,.pcall 144 [(.tmp 6)]⟩,
 ⟨some 3,none,.move (.tmp 7)⟩,
 ⟨some 8,none,.extract 0 (.tmp 3)⟩,
 ⟨some 9,none,.extract 1 (.tmp 3)⟩,
 ⟨some 1,none,.move (.tmp 8)⟩,
 ⟨some 2,none,.move (.tmp 9)⟩])
 (.seq
 (.ops [⟨some 10,none,.move (.tmp 2)⟩,
 ⟨some 11,none,.bin .eql .none (.tmp 10) (.val (.int .i64 0))⟩,
 ⟨some 12,none,.move (.tmp 11)⟩,
 ⟨some 13,some (some 12,true),.move (.tmp 1)⟩,
 ⟨some 14,some (some 12,true),.buildSlice 1 [(.val (.int .i64 0)),(.val (.int .i64 3))]⟩,
 ⟨some 15,some (some 12,true),.pcall 139 [(.tmp 13),(.tmp 14)]⟩,
 ⟨some 16,none,.pick (.tmp 12) (.tmp 15) (.val (.bool false))⟩,
 ⟨some 0,none,.move (.tmp 16)⟩])
 (.ret))))
def fn174:AFn:=.mk [.tmp 2] (
 .seq
 (.ops [⟨some 2,none,.move (.val (.ptr none))⟩])
 (.seq
 (.ops [⟨some 3,none,.move (.tmp 0)⟩,
 ⟨some 4,none,.buildSlice 1 [(.tmp 3)]⟩,
 ⟨some 5,none,.pcall 177 [(.val (.int .i64 8)),(.val (.int .i64 7)),(.tmp 4)]⟩,
 ⟨some 2,none,.move (.tmp 5)⟩])
 (.ret)))
def fn153:AFn:=.mk [.tmp 2] (
 .seq
 (.ops [⟨some 2,none,.move (.val (.ptr none))⟩])
 (.seq
 (.ops [⟨some 3,none,.move (.tmp 0)⟩,
 ⟨some 4,none,.pcall 177 [(.val (.int .i64 1)),(.tmp 3),(.val (.list [] (some none)))]⟩,
 ⟨some 2,none,.move (.tmp 4)⟩])
 (.ret)))
end Go.Abs
namespace Go.Abs
def qfR:ACode :=
 .seq
 (.ops [⟨some 34,none,.bin .lss .none (.tmp 33) (.tmp 32)⟩])
 (.seq
 (.cond (.tmp 34)
 (.skip)
 (.exit 2))
 (.seq
 (.block 3 (
 .seq
 (.ops [⟨some 35,none,.indexList 1 (.tmp 31) (.tmp 33)⟩,
 ⟨some 36,none,.load1 (.tmp 35)⟩,
 ⟨some 8,none,.move (.tmp 36)⟩])
 (.draw [⟨some 37,none,.move (.tmp 6)⟩,
 ⟨some 38,none,.move (.tmp 6)⟩,
 ⟨some 39,none,.nilCheck (.tmp 38)⟩,
 ⟨some 40,none,.field 3 (.tmp 39)⟩,
 ⟨some 41,none,.load1 (.tmp 40)⟩,
 ⟨some 42,none,.move (.tmp 3)⟩,
 ⟨some 43,none,.move (.tmp 8)⟩,
 ⟨some 44,none,.indexList 1 (.tmp 42) (.tmp 43)⟩,
 ⟨some 45,none,.load1 (.tmp 44)⟩,
 ⟨some 46,none,.buildSlice 1 [(.tmp 45)]⟩,
 ⟨some 47,none,.append 1 8 (.tmp 41) (.tmp 46)⟩,
 ⟨some 48,none,.nilCheck (.tmp 37)⟩,
 ⟨some 49,none,.field 3 (.tmp 48)⟩,
 ⟨none,none,.store 1 (.tmp 49) (.tmp 47)⟩]
 [])))
 (.ops [⟨some 50,none,.bin .add .none (.tmp 33) (.val (.int .i64 1))⟩,
 ⟨some 33,none,.move (.tmp 50)⟩])))
def qfS:ACode :=
 .seq
 (.ops [⟨some 55,none,.bin .lss .none (.tmp 54) (.tmp 53)⟩])
 (.seq
 (.cond (.tmp 55)
 (.skip)
 (.exit 4))
 (.seq
 (.block 5 (
 .seq
 (.ops [⟨some 56,none,.indexList 2 (.tmp 52) (.tmp 54)⟩,
 ⟨some 57,none,.loadN 2 (.tmp 56)⟩,
 ⟨some 10,none,.alloc [(.int .i64 0),(.list [] (some none))]⟩,
 ⟨none,none,.store 2 (.tmp 10) (.tmp 57)⟩])
 (.draw [⟨some 58,none,.move (.tmp 6)⟩,
 ⟨some 59,none,.move (.tmp 6)⟩,
 ⟨some 60,none,.nilCheck (.tmp 59)⟩,
 ⟨some 61,none,.field 4 (.tmp 60)⟩,
 ⟨some 62,none,.load1 (.tmp 61)⟩,
 ⟨some 63,none,.field 0 (.tmp 10)⟩,
 ⟨some 64,none,.load1 (.tmp 63)⟩,
 ⟨some 65,none,.field 1 (.tmp 10)⟩,
 ⟨some 66,none,.load1 (.tmp 65)⟩,
 ⟨some 67,none,.hcall (.val (.func 188 [] [])) [(.tmp 66)]⟩,
 ⟨some 68,none,.build [(.int .i64 0),(.list [] (some none))] [(0,1,(.tmp 64)),(1,1,(.tmp 67))]⟩,
 ⟨some 69,none,.buildSlice 2 [(.tmp 68)]⟩,
 ⟨some 70,none,.append 2 32 (.tmp 62) (.tmp 69)⟩,
 ⟨some 71,none,.nilCheck (.tmp 58)⟩,
 ⟨some 72,none,.field 4 (.tmp 71)⟩,
 ⟨none,none,.store 1 (.tmp 72) (.tmp 70)⟩]
 [(4,0,1),(6,0,1)])))
 (.ops [⟨some 73,none,.bin .add .none (.tmp 54) (.val (.int .i64 1))⟩,
 ⟨some 54,none,.move (.tmp 73)⟩])))
def qgZ:ACode :=
 .seq
 (.ops [⟨some 17,none,.bin .lss .none (.tmp 16) (.tmp 15)⟩])
 (.seq
 (.cond (.tmp 17)
 (.skip)
 (.exit 0))
 (.seq
 (.block 1 (
 .seq
 (.ops [⟨some 18,none,.move (.tmp 16)⟩,
 ⟨some 19,none,.indexList 5 (.tmp 14) (.tmp 16)⟩,
 ⟨some 20,none,.loadN 5 (.tmp 19)⟩,
 ⟨some 5,none,.alloc [(.int .i64 0),(.int .i64 0),(.list [] (some none)),(.list [] (some none)),(.list [] (some none))]⟩,
 ⟨some 4,none,.move (.tmp 18)⟩,
 ⟨none,none,.store 5 (.tmp 5) (.tmp 20)⟩])
 (.seq
 (.draw [⟨some 21,none,.field 0 (.tmp 5)⟩,
 ⟨some 22,none,.load1 (.tmp 21)⟩,
 ⟨some 23,none,.field 1 (.tmp 5)⟩,
 ⟨some 24,none,.load1 (.tmp 23)⟩,
 ⟨some 25,none,.field 2 (.tmp 5)⟩,
 ⟨some 26,none,.load1 (.tmp 25)⟩,
 ⟨some 27,none,.hcall (.val (.func 188 [] [])) [(.tmp 26)]⟩,
 ⟨some 28,none,.build [(.int .i64 0),(.int .i64 0),(.list [] (some none)),(.list [] (some none)),(.list [] (some none))] [(0,1,(.tmp 22)),(1,1,(.tmp 24)),(2,1,(.tmp 27))]⟩,
 ⟨some 29,none,.box (.tmp 28)⟩,
 ⟨some 6,none,.move (.tmp 29)⟩]
 [(1,0,1),(3,0,1)])
 (.seq
 (.seq
 (.ops [⟨some 30,none,.field 3 (.tmp 5)⟩,
 ⟨some 31,none,.load1 (.tmp 30)⟩,
 ⟨some 32,none,.len .slice (.tmp 31)⟩,
 ⟨some 33,none,.move (.val (.int .i64 0))⟩])
 (.frame [1000000,0,3,4,5,6,14,15,16] (
 .block 2 (
 .gloop [1000000,0,3,4,5,6,14,15,16,31,32,33] qfR))))
 (.seq
 (.seq
 (.ops [⟨some 51,none,.field 4 (.tmp 5)⟩,
 ⟨some 52,none,.load1 (.tmp 51)⟩,
 ⟨some 53,none,.len .slice (.tmp 52)⟩,
 ⟨some 54,none,.move (.val (.int .i64 0))⟩])
 (.frame [1000000,0,3,4,6,14,15,16] (
 .block 4 (
 .gloop [1000000,0,3,4,6,14,15,16,52,53,54] qfS))))
 (.ops [⟨some 74,none,.move (.tmp 3)⟩,
 ⟨some 75,none,.move (.tmp 4)⟩,
 ⟨some 76,none,.move (.tmp 6)⟩,
 ⟨some 77,none,.indexList 1 (.tmp 74) (.tmp 75)⟩,
 ⟨none,none,.store 1 (.tmp 77) (.tmp 76)⟩]))))))
 (.ops [⟨some 78,none,.bin .add .none (.tmp 16) (.val (.int .i64 1))⟩,
 ⟨some 16,none,.move (.tmp 78)⟩])))
def fm160:AFn:=.mk [.tmp 2] (
 .seq
 (.ops [⟨some 2,none,.move (.val (.ptr none))⟩])
 (.seq
 (.ops [⟨some 11,none,.move (.tmp 0)⟩,
 ⟨some 12,none,.len .slice (.tmp 11)⟩,
 ⟨some 13,none,.makeSlice (.ptr none) (.tmp 12) (.tmp 12)⟩,
 ⟨some 3,none,.move (.tmp 13)⟩])
 (.seq
 (.seq
 (.ops [⟨some 14,none,.move (.tmp 0)⟩,
 ⟨some 15,none,.len .slice (.tmp 14)⟩,
 ⟨some 16,none,.move (.val (.int .i64 0))⟩])
 (.frame [1000000,0,3] (
 .block 0 (
 .gloop [1000000,0,3,14,15,16] qgZ))))
 (.seq
 (.ops [⟨some 79,none,.move (.tmp 3)⟩,
 ⟨some 80,none,.move (.tmp 0)⟩,
 ⟨some 81,none,.len .slice (.tmp 80)⟩,
 ⟨some 82,none,.bin .sub .none (.tmp 81) (.val (.int .i64 1))⟩,
 ⟨some 83,none,.indexList 1 (.tmp 79) (.tmp 82)⟩,
 ⟨some 84,none,.load1 (.tmp 83)⟩,
 ⟨some 2,none,.move (.tmp 84)⟩])
 (.ret)))))
def fn171:AFn:=.mk [.tmp 4] (
 .seq
 (.ops [⟨some 3,none,.box (.tmp 1)⟩,
 ⟨some 4,none,.move (.val (.int .i64 0))⟩])
 (.seq
 (.ops [⟨some 7,none,.makeMap⟩,
 ⟨some 5,none,.alloc [(.map none)]⟩,
 ⟨none,none,.store 1 (.tmp 5) (.tmp 7)⟩])
 (.seq
 (.ops [⟨some 6,none,.alloc [.nilFunc]⟩])
 (.seq
 (.ops [⟨some 8,none,.makeFunc 207 [] [(.tmp 5),(.tmp 3),(.tmp 6)]⟩,
 ⟨none,none,.store 1 (.tmp 6) (.tmp 8)⟩])
 (.seq
 (.ops [⟨some 9,none,.load1 (.tmp 6)⟩,
 ⟨some 10,none,.move (.tmp 0)⟩,
 ⟨some 11,none,.hcall (.tmp 9) [(.tmp 10)]⟩])
 (.seq
 (.ops [⟨some 12,none,.load1 (.tmp 3)⟩,
 ⟨some 4,none,.move (.tmp 12)⟩])
 (.ret)))))))
def qtA:ACode :=
 .seq
 (.ops [⟨some 50,none,.bin .lss .none (.tmp 49) (.tmp 48)⟩])
 (.seq
 (.cond (.tmp 50)
 (.skip)
 (.exit 0))
 (.seq
 (.block 1 (
 .seq
 (.ops [⟨some 51,none,.move (.tmp 49)⟩,
 ⟨some 8,none,.move (.tmp 51)⟩])
 (.ops [⟨some 52,none,.move (.tmp 7)⟩,
 ⟨some 53,none,.move (.tmp 0)⟩,
 ⟨some 54,none,.nilCheck (.tmp 53)⟩,
 ⟨some 55,none,.field 4 (.tmp 54)⟩,
 ⟨some 56,none,.load1 (.tmp 55)⟩,
 ⟨some 57,none,.move (.tmp 8)⟩,
 ⟨some 58,none,.indexList 2 (.tmp 56) (.tmp 57)⟩,
 ⟨some 59,none,.field 1 (.tmp 58)⟩,
 ⟨some 60,none,.load1 (.tmp 59)⟩,
 ⟨some 61,none,.hcall (.tmp 52) [(.tmp 60)]⟩])))
 (.ops [⟨some 62,none,.bin .add .none (.tmp 49) (.val (.int .i64 1))⟩,
 ⟨some 49,none,.move (.tmp 62)⟩])))
def qtB:ACode :=
 .seq
 (.ops [⟨some 69,none,.bin .lss .none (.tmp 68) (.tmp 67)⟩])
 (.seq
 (.cond (.tmp 69)
 (.skip)
 (.exit 2))
 (.seq
 (.block 3 (
 .seq
 (.ops [⟨some 70,none,.indexList 1 (.tmp 66) (.tmp 68)⟩,
 ⟨some 71,none,.load1 (.tmp 70)⟩,
 ⟨some 10,none,.move (.tmp 71)⟩])
 (.ops [⟨some 72,none,.load1 (.tmp 3)⟩,
 ⟨some 73,none,.move (.tmp 10)⟩,
 ⟨some 74,none,.hcall (.tmp 72) [(.tmp 73)]⟩])))
 (.ops [⟨some 75,none,.bin .add .none (.tmp 68) (.val (.int .i64 1))⟩,
 ⟨some 68,none,.move (.tmp 75)⟩])))
def fn207:AFn:=.mk [] (
 .seq
 (.seq
 (.draw [⟨some 12,none,.load1 (.tmp 1)⟩,
 ⟨some 13,none,.move (.tmp 0)⟩,
 ⟨some 14,none,.nilCheck (.tmp 13)⟩,
 ⟨some 15,none,.field 1 (.tmp 14)⟩,
 ⟨some 16,none,.load1 (.tmp 15)⟩,
 ⟨some 17,none,.lookup .int (.int .i64 0) true (.tmp 12) (.tmp 16)⟩,
 ⟨some 11,none,.move (.tmp 17)⟩,
 ⟨some 18,none,.extract 0 (.tmp 11)⟩,
 ⟨some 19,none,.extract 1 (.tmp 11)⟩,
 ⟨some 5,none,.move (.tmp 18)⟩,
 ⟨some 6,none,.move (.tmp 19)⟩]
 [])
 (.seq
 (.ops [⟨some 20,none,.move (.tmp 6)⟩,
 ⟨some 21,none,.move (.tmp 20)⟩,
 ⟨some 22,some (some 21,true),.move (.tmp 0)⟩,
 ⟨some 23,some (some 21,true),.nilCheck (.tmp 22)⟩,
 ⟨some 24,some (some 21,true),.field 0 (.tmp 23)⟩,
 ⟨some 25,some (some 21,true),.load1 (.tmp 24)⟩,
 ⟨some 26,some (some 21,true),.bin .eql .none (.tmp 25) (.val (.int .i64 0))⟩,
 ⟨some 27,none,.pick (.tmp 21) (.tmp 26) (.val (.bool false))⟩])
 (.cond (.tmp 27)
 (.ops [⟨some 28,none,.move (.tmp 0)⟩,
 ⟨some 29,none,.move (.tmp 5)⟩,
 ⟨some 30,none,.nilCheck (.tmp 28)⟩,
 ⟨some 31,none,.field 1 (.tmp 30)⟩,
 ⟨none,none,.store 1 (.tmp 31) (.tmp 29)⟩])
 (.skip))))
 (.seq
 (.ops [⟨some 32,none,.makeFunc 208 [] [(.tmp 2),(.tmp 1)]⟩,
 ⟨some 7,none,.move (.tmp 32)⟩])
 (.seq
 (.seq
 (.ops [⟨some 33,none,.move (.tmp 0)⟩,
 ⟨some 34,none,.nilCheck (.tmp 33)⟩,
 ⟨some 35,none,.field 0 (.tmp 34)⟩,
 ⟨some 36,none,.load1 (.tmp 35)⟩,
 ⟨some 37,none,.bin .neq .none (.tmp 36) (.val (.int .i64 9))⟩])
 (.cond (.tmp 37)
 (.ops [⟨some 38,none,.move (.tmp 7)⟩,
 ⟨some 39,none,.move (.tmp 0)⟩,
 ⟨some 40,none,.nilCheck (.tmp 39)⟩,
 ⟨some 41,none,.field 2 (.tmp 40)⟩,
 ⟨some 42,none,.load1 (.tmp 41)⟩,
 ⟨some 43,none,.hcall (.tmp 38) [(.tmp 42)]⟩])
 (.skip)))
 (.seq
 (.seq
 (.ops [⟨some 44,none,.move (.tmp 0)⟩,
 ⟨some 45,none,.nilCheck (.tmp 44)⟩,
 ⟨some 46,none,.field 4 (.tmp 45)⟩,
 ⟨some 47,none,.load1 (.tmp 46)⟩,
 ⟨some 48,none,.len .slice (.tmp 47)⟩,
 ⟨some 49,none,.move (.val (.int .i64 0))⟩])
 (.frame [1000000,0,3] (
 .block 0 (
 .gloop [1000000,0,3,7,48,49] qtA))))
 (.seq
 (.ops [⟨some 63,none,.move (.tmp 0)⟩,
 ⟨some 64,none,.nilCheck (.tmp 63)⟩,
 ⟨some 65,none,.field 3 (.tmp 64)⟩,
 ⟨some 66,none,.load1 (.tmp 65)⟩,
 ⟨some 67,none,.len .slice (.tmp 66)⟩,
 ⟨some 68,none,.move (.val (.int .i64 0))⟩])
 (.frame [1000000] (
 .block 2 (
 .gloop [1000000,3,66,67,68] qtB))))))))
def qtC:ACode :=
 .seq
 (.ops [⟨some 8,none,.bin .lss .none (.tmp 7) (.tmp 6)⟩])
 (.seq
 (.cond (.tmp 8)
 (.skip)
 (.exit 0))
 (.seq
 (.block 1 (
 .seq
 (.ops [⟨some 9,none,.move (.tmp 7)⟩,
 ⟨some 4,none,.move (.tmp 9)⟩])
 (.seq
 (.draw [⟨some 10,none,.load1 (.tmp 2)⟩,
 ⟨some 11,none,.move (.tmp 0)⟩,
 ⟨some 12,none,.move (.tmp 4)⟩,
 ⟨some 13,none,.indexList 1 (.tmp 11) (.tmp 12)⟩,
 ⟨some 14,none,.load1 (.tmp 13)⟩,
 ⟨some 15,none,.load1 (.tmp 1)⟩,
 ⟨none,none,.mapUpdate .int (.tmp 10) (.tmp 14) (.tmp 15)⟩]
 [])
 (.seq
 (.ops [⟨some 16,none,.move (.tmp 0)⟩,
 ⟨some 17,none,.move (.tmp 4)⟩,
 ⟨some 18,none,.load1 (.tmp 1)⟩,
 ⟨some 19,none,.indexList 1 (.tmp 16) (.tmp 17)⟩,
 ⟨none,none,.store 1 (.tmp 19) (.tmp 18)⟩])
 (.ops [⟨some 20,none,.load1 (.tmp 1)⟩,
 ⟨some 21,none,.bin .add .none (.tmp 20) (.val (.int .i64 1))⟩,
 ⟨none,none,.store 1 (.tmp 1) (.tmp 21)⟩])))))
 (.ops [⟨some 22,none,.bin .add .none (.tmp 7) (.val (.int .i64 1))⟩,
 ⟨some 7,none,.move (.tmp 22)⟩])))
def fn208:AFn:=.mk [] (
 .seq
 (.ops [⟨some 5,none,.move (.tmp 0)⟩,
 ⟨some 6,none,.len .slice (.tmp 5)⟩,
 ⟨some 7,none,.move (.val (.int .i64 0))⟩])
 (.frame [1000000] (
 .block 0 (
 .gloop [1000000,0,1,2,6,7] qtC))))
end Go.Abs
