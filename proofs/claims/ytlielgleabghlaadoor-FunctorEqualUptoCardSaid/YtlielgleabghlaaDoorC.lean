/-
  PARTS OF A PROOF, joined: an abstract machine for quiet code, its evaluation, and what the seat's functions answer on it. Conditions: none.
-/
import Derived.Test.YtlielgleabghlaaDoorAbsA
/-
 The resolved code of some functions, as a program of ours prints it. Conditions: none.
-/
namespace Go.Abs

/-- provenance/signature.filled -/
def fn44_l0 : ACode :=
 .seq
 (.ops [⟨(some 31), none, .bin .lss .none (.tmp 30) (.tmp 29)⟩])
 (.seq
 (.cond (.tmp 31)
 (.skip)
 (.exit 0))
 (.seq
 (.block 1 (
 .seq
 (.ops [⟨(some 32), none, .indexList 4 (.tmp 28) (.tmp 30)⟩,
 ⟨(some 33), none, .loadN 4 (.tmp 32)⟩,
 ⟨(some 7), none, .alloc [(.int .i64 0), (.str ⟨#[]⟩), (.int .i64 0), (.list [] (some none))]⟩,
 ⟨none, none, .store 4 (.tmp 7) (.tmp 33)⟩])
 (.draw [⟨(some 34), none, .field 3 (.tmp 5)⟩,
 ⟨(some 35), none, .load1 (.tmp 34)⟩,
 ⟨(some 36), none, .loadN 4 (.tmp 7)⟩,
 ⟨(some 37), none, .move (.tmp 1)⟩,
 ⟨(some 38), none, .pcall 44 [(.tmp 36), (.tmp 37)]⟩,
 ⟨(some 39), none, .buildSlice 4 [(.tmp 38)]⟩,
 ⟨(some 40), none, .append 4 56 (.tmp 35) (.tmp 39)⟩,
 ⟨(some 41), none, .field 3 (.tmp 5)⟩,
 ⟨none, none, .store 1 (.tmp 41) (.tmp 40)⟩]
 [])))
 (.ops [⟨(some 42), none, .bin .add .none (.tmp 30) (.val (.int .i64 1))⟩,
 ⟨(some 30), none, .move (.tmp 42)⟩])))

def fn44 : AFn := .mk [.cellN 4 4] (
 .seq
 (.ops [⟨(some 2), none, .box (.tmp 0)⟩,
 ⟨(some 4), none, .alloc [(.int .i64 0), (.str ⟨#[]⟩), (.int .i64 0), (.list [] (some none))]⟩])
 (.seq
 (.seq
 (.ops [⟨(some 8), none, .field 0 (.tmp 2)⟩,
 ⟨(some 9), none, .load1 (.tmp 8)⟩,
 ⟨(some 10), none, .bin .eql .none (.tmp 9) (.val (.int .i64 0))⟩])
 (.cond (.tmp 10)
 (.seq
 (.seq
 (.ops [⟨(some 11), none, .field 2 (.tmp 2)⟩,
 ⟨(some 12), none, .load1 (.tmp 11)⟩,
 ⟨(some 13), none, .move (.tmp 1)⟩,
 ⟨(some 14), none, .len .slice (.tmp 13)⟩,
 ⟨(some 15), none, .bin .lss .none (.tmp 12) (.tmp 14)⟩])
 (.cond (.tmp 15)
 (.seq
 (.ops [⟨(some 16), none, .move (.tmp 1)⟩,
 ⟨(some 17), none, .field 2 (.tmp 2)⟩,
 ⟨(some 18), none, .load1 (.tmp 17)⟩,
 ⟨(some 19), none, .indexList 4 (.tmp 16) (.tmp 18)⟩,
 ⟨(some 20), none, .loadN 4 (.tmp 19)⟩,
 ⟨none, none, .store 4 (.tmp 4) (.tmp 20)⟩])
 (.ret))
 (.skip)))
 (.seq
 (.ops [⟨(some 21), none, .loadN 4 (.tmp 2)⟩,
 ⟨none, none, .store 4 (.tmp 4) (.tmp 21)⟩])
 (.ret)))
 (.skip)))
 (.seq
 (.ops [⟨(some 22), none, .field 0 (.tmp 2)⟩,
 ⟨(some 23), none, .load1 (.tmp 22)⟩,
 ⟨(some 24), none, .field 1 (.tmp 2)⟩,
 ⟨(some 25), none, .load1 (.tmp 24)⟩,
 ⟨(some 26), none, .build [(.int .i64 0), (.str ⟨#[]⟩), (.int .i64 0), (.list [] (some none))] [(0, 1, (.tmp 23)), (1, 1, (.tmp 25))]⟩,
 ⟨(some 5), none, .alloc [(.int .i64 0), (.str ⟨#[]⟩), (.int .i64 0), (.list [] (some none))]⟩,
 ⟨none, none, .store 4 (.tmp 5) (.tmp 26)⟩])
 (.seq
 (.seq
 (.ops [⟨(some 27), none, .field 3 (.tmp 2)⟩,
 ⟨(some 28), none, .load1 (.tmp 27)⟩,
 ⟨(some 29), none, .len .slice (.tmp 28)⟩,
 ⟨(some 30), none, .move (.val (.int .i64 0))⟩])
 (.frame [4, 5] (
 .block 0 (
 .gloop [1, 4, 5, 28, 29, 30] fn44_l0))))
 (.seq
 (.ops [⟨(some 43), none, .loadN 4 (.tmp 5)⟩,
 ⟨none, none, .store 4 (.tmp 4) (.tmp 43)⟩])
 (.ret))))))

end Go.Abs
/-
 The resolved code of some functions, as a program of ours prints it. Conditions: none.
-/
namespace Go.Abs

/-- provenance/signature.cut -/
def fn29 : AFn := .mk [.tmp 2] (
 .seq
 (.ops [⟨(some 2), none, .move (.val (.bool false))⟩])
 (.seq
 (.ops [⟨(some 3), none, .move (.tmp 0)⟩,
 ⟨(some 4), none, .bin .eql .none (.tmp 3) (.val (.str ⟨#[]⟩))⟩,
 ⟨(some 5), none, .move (.tmp 4)⟩,
 ⟨(some 6), (some ((some 5), false)), .move (.tmp 0)⟩,
 ⟨(some 7), (some ((some 5), false)), .len .str (.tmp 6)⟩,
 ⟨(some 8), (some ((some 5), false)), .bin .gtr .none (.tmp 7) (.val (.int .i64 40))⟩,
 ⟨(some 9), none, .pick (.tmp 5) (.val (.bool true)) (.tmp 8)⟩,
 ⟨(some 10), none, .move (.tmp 9)⟩,
 ⟨(some 11), (some ((some 10), false)), .move (.tmp 0)⟩,
 ⟨(some 12), (some ((some 10), false)), .pcall 50 [(.tmp 11), (.val (.str ⟨#[46, 40, 41, 35, 32]⟩))]⟩,
 ⟨(some 13), none, .pick (.tmp 10) (.val (.bool true)) (.tmp 12)⟩,
 ⟨(some 2), none, .move (.tmp 13)⟩])
 (.ret)))

/-- provenance/signature.typeError -/
def fn60_l0 : ACode :=
 .seq
 (.ops [⟨(some 78), none, .bin .lss .none (.tmp 77) (.tmp 76)⟩])
 (.seq
 (.cond (.tmp 78)
 (.skip)
 (.exit 1))
 (.seq
 (.block 2 (
 .seq
 (.ops [⟨(some 79), none, .indexList 4 (.tmp 75) (.tmp 77)⟩,
 ⟨(some 80), none, .loadN 4 (.tmp 79)⟩,
 ⟨(some 8), none, .alloc [(.int .i64 0), (.str ⟨#[]⟩), (.int .i64 0), (.list [] (some none))]⟩,
 ⟨none, none, .store 4 (.tmp 8) (.tmp 80)⟩])
 (.seq
 (.ops [⟨(some 81), none, .loadN 4 (.tmp 8)⟩,
 ⟨(some 82), none, .move (.tmp 1)⟩,
 ⟨(some 83), none, .move (.tmp 2)⟩,
 ⟨(some 84), none, .bin .add .none (.tmp 83) (.val (.int .i64 1))⟩,
 ⟨(some 85), none, .pcall 60 [(.tmp 81), (.tmp 82), (.tmp 84)]⟩,
 ⟨(some 9), none, .move (.tmp 85)⟩])
 (.seq
 (.ops [⟨(some 86), none, .move (.tmp 9)⟩,
 ⟨(some 87), none, .bin .neq .none (.tmp 86) (.val (.int .i64 0))⟩])
 (.cond (.tmp 87)
 (.seq
 (.ops [⟨(some 88), none, .move (.tmp 9)⟩,
 ⟨(some 6), none, .move (.tmp 88)⟩])
 (.ret))
 (.skip))))))
 (.ops [⟨(some 89), none, .bin .add .none (.tmp 77) (.val (.int .i64 1))⟩,
 ⟨(some 77), none, .move (.tmp 89)⟩])))

def fn60 : AFn := .mk [.tmp 6] (
 .seq
 (.ops [⟨(some 3), none, .box (.tmp 0)⟩,
 ⟨(some 6), none, .move (.val (.int .i64 0))⟩])
 (.seq
 (.block 0 (
 .seq
 (.ops [⟨(some 11), none, .move (.tmp 2)⟩,
 ⟨(some 12), none, .bin .gtr .none (.tmp 11) (.val (.int .i64 30))⟩,
 ⟨(some 10), none, .move (.tmp 12)⟩])
 (.cond (.tmp 10)
 (.seq
 (.ops [⟨(some 6), none, .move (.val (.int .i64 2))⟩])
 (.ret))
 (.seq
 (.draw [⟨(some 14), none, .field 0 (.tmp 3)⟩,
 ⟨(some 15), none, .load1 (.tmp 14)⟩,
 ⟨(some 16), none, .bin .lss .none (.tmp 15) (.val (.int .i64 0))⟩,
 ⟨(some 17), none, .move (.tmp 16)⟩,
 ⟨(some 18), (some ((some 17), false)), .field 0 (.tmp 3)⟩,
 ⟨(some 19), (some ((some 17), false)), .load1 (.tmp 18)⟩,
 ⟨(some 20), (some ((some 17), false)), .bin .gtr .none (.tmp 19) (.val (.int .i64 5))⟩,
 ⟨(some 21), none, .pick (.tmp 17) (.val (.bool true)) (.tmp 20)⟩,
 ⟨(some 22), none, .move (.tmp 21)⟩,
 ⟨(some 23), (some ((some 22), false)), .field 0 (.tmp 3)⟩,
 ⟨(some 24), (some ((some 22), false)), .load1 (.tmp 23)⟩,
 ⟨(some 25), (some ((some 22), false)), .indexArr 6 1 (.val (.vptr [(.int .i64 0), (.int .i64 (-1)), (.int .i64 3), (.int .i64 1), (.int .i64 0), (.int .i64 2)] 0)) (.tmp 24)⟩,
 ⟨(some 26), (some ((some 22), false)), .load1 (.tmp 25)⟩,
 ⟨(some 27), (some ((some 22), false)), .bin .geq .none (.tmp 26) (.val (.int .i64 0))⟩,
 ⟨(some 28), (some ((some 22), false)), .move (.tmp 27)⟩,
 ⟨(some 29), (some ((some 28), true)), .field 3 (.tmp 3)⟩,
 ⟨(some 30), (some ((some 28), true)), .load1 (.tmp 29)⟩,
 ⟨(some 31), (some ((some 28), true)), .len .slice (.tmp 30)⟩,
 ⟨(some 32), (some ((some 28), true)), .field 0 (.tmp 3)⟩,
 ⟨(some 33), (some ((some 28), true)), .load1 (.tmp 32)⟩,
 ⟨(some 34), (some ((some 28), true)), .indexArr 6 1 (.val (.vptr [(.int .i64 0), (.int .i64 (-1)), (.int .i64 3), (.int .i64 1), (.int .i64 0), (.int .i64 2)] 0)) (.tmp 33)⟩,
 ⟨(some 35), (some ((some 28), true)), .load1 (.tmp 34)⟩,
 ⟨(some 36), (some ((some 28), true)), .bin .neq .none (.tmp 31) (.tmp 35)⟩,
 ⟨(some 37), (some ((some 22), false)), .pick (.tmp 28) (.tmp 36) (.val (.bool false))⟩,
 ⟨(some 38), none, .pick (.tmp 22) (.val (.bool true)) (.tmp 37)⟩,
 ⟨(some 39), none, .move (.tmp 38)⟩,
 ⟨(some 40), (some ((some 39), false)), .field 3 (.tmp 3)⟩,
 ⟨(some 41), (some ((some 39), false)), .load1 (.tmp 40)⟩,
 ⟨(some 42), (some ((some 39), false)), .len .slice (.tmp 41)⟩,
 ⟨(some 43), (some ((some 39), false)), .bin .gtr .none (.tmp 42) (.val (.int .i64 8))⟩,
 ⟨(some 44), none, .pick (.tmp 39) (.val (.bool true)) (.tmp 43)⟩,
 ⟨(some 13), none, .move (.tmp 44)⟩]
 [])
 (.cond (.tmp 13)
 (.seq
 (.ops [⟨(some 6), none, .move (.val (.int .i64 3))⟩])
 (.ret))
 (.seq
 (.ops [⟨(some 46), none, .field 0 (.tmp 3)⟩,
 ⟨(some 47), none, .load1 (.tmp 46)⟩,
 ⟨(some 48), none, .bin .eql .none (.tmp 47) (.val (.int .i64 0))⟩,
 ⟨(some 49), none, .move (.tmp 48)⟩,
 ⟨(some 50), (some ((some 49), true)), .field 2 (.tmp 3)⟩,
 ⟨(some 51), (some ((some 49), true)), .load1 (.tmp 50)⟩,
 ⟨(some 52), (some ((some 49), true)), .bin .lss .none (.tmp 51) (.val (.int .i64 0))⟩,
 ⟨(some 53), (some ((some 49), true)), .move (.tmp 52)⟩,
 ⟨(some 54), (some ((some 53), false)), .field 2 (.tmp 3)⟩,
 ⟨(some 55), (some ((some 53), false)), .load1 (.tmp 54)⟩,
 ⟨(some 56), (some ((some 53), false)), .move (.tmp 1)⟩,
 ⟨(some 57), (some ((some 53), false)), .bin .geq .none (.tmp 55) (.tmp 56)⟩,
 ⟨(some 58), (some ((some 49), true)), .pick (.tmp 53) (.val (.bool true)) (.tmp 57)⟩,
 ⟨(some 59), none, .pick (.tmp 49) (.tmp 58) (.val (.bool false))⟩,
 ⟨(some 45), none, .move (.tmp 59)⟩])
 (.cond (.tmp 45)
 (.seq
 (.ops [⟨(some 6), none, .move (.val (.int .i64 4))⟩])
 (.ret))
 (.seq
 (.ops [⟨(some 61), none, .field 0 (.tmp 3)⟩,
 ⟨(some 62), none, .load1 (.tmp 61)⟩,
 ⟨(some 63), none, .bin .eql .none (.tmp 62) (.val (.int .i64 1))⟩,
 ⟨(some 64), none, .move (.tmp 63)⟩,
 ⟨(some 65), (some ((some 64), false)), .field 0 (.tmp 3)⟩,
 ⟨(some 66), (some ((some 64), false)), .load1 (.tmp 65)⟩,
 ⟨(some 67), (some ((some 64), false)), .bin .eql .none (.tmp 66) (.val (.int .i64 5))⟩,
 ⟨(some 68), none, .pick (.tmp 64) (.val (.bool true)) (.tmp 67)⟩,
 ⟨(some 69), none, .move (.tmp 68)⟩,
 ⟨(some 70), (some ((some 69), true)), .field 1 (.tmp 3)⟩,
 ⟨(some 71), (some ((some 69), true)), .load1 (.tmp 70)⟩,
 ⟨(some 72), (some ((some 69), true)), .pcall 75 [(.tmp 71)]⟩,
 ⟨(some 73), none, .pick (.tmp 69) (.tmp 72) (.val (.bool false))⟩,
 ⟨(some 60), none, .move (.tmp 73)⟩])
 (.cond (.tmp 60)
 (.seq
 (.ops [⟨(some 6), none, .move (.val (.int .i64 3))⟩])
 (.ret))
 (.skip))))))))))
 (.seq
 (.seq
 (.ops [⟨(some 74), none, .field 3 (.tmp 3)⟩,
 ⟨(some 75), none, .load1 (.tmp 74)⟩,
 ⟨(some 76), none, .len .slice (.tmp 75)⟩,
 ⟨(some 77), none, .move (.val (.int .i64 0))⟩])
 (.frame [6] (
 .block 1 (
 .gloop [1, 2, 75, 76, 77] fn60_l0))))
 (.seq
 (.ops [⟨(some 6), none, .move (.val (.int .i64 0))⟩])
 (.ret)))))

/-- provenance/signature.far -/
def fn75 : AFn := .mk [.tmp 2] (
 .seq
 (.ops [⟨(some 2), none, .move (.val (.bool false))⟩])
 (.seq
 (.ops [⟨(some 3), none, .move (.tmp 0)⟩,
 ⟨(some 4), none, .bin .eql .none (.tmp 3) (.val (.str ⟨#[]⟩))⟩,
 ⟨(some 5), none, .move (.tmp 4)⟩,
 ⟨(some 6), (some ((some 5), false)), .move (.tmp 0)⟩,
 ⟨(some 7), (some ((some 5), false)), .len .str (.tmp 6)⟩,
 ⟨(some 8), (some ((some 5), false)), .bin .gtr .none (.tmp 7) (.val (.int .i64 200))⟩,
 ⟨(some 9), none, .pick (.tmp 5) (.val (.bool true)) (.tmp 8)⟩,
 ⟨(some 2), none, .move (.tmp 9)⟩])
 (.ret)))

/-- provenance/signature.kindError -/
def fn61_l0 : ACode :=
 .seq
 (.ops [⟨(some 33), none, .bin .lss .none (.tmp 32) (.tmp 31)⟩])
 (.seq
 (.cond (.tmp 33)
 (.skip)
 (.exit 0))
 (.seq
 (.block 1 (
 .seq
 (.ops [⟨(some 34), none, .indexList 4 (.tmp 30) (.tmp 32)⟩,
 ⟨(some 35), none, .loadN 4 (.tmp 34)⟩,
 ⟨(some 8), none, .alloc [(.int .i64 0), (.str ⟨#[]⟩), (.int .i64 0), (.list [] (some none))]⟩,
 ⟨none, none, .store 4 (.tmp 8) (.tmp 35)⟩])
 (.seq
 (.ops [⟨(some 36), none, .move (.tmp 0)⟩,
 ⟨(some 37), none, .loadN 4 (.tmp 8)⟩,
 ⟨(some 38), none, .pcall 61 [(.tmp 36), (.tmp 37)]⟩,
 ⟨(some 9), none, .move (.tmp 38)⟩])
 (.seq
 (.ops [⟨(some 39), none, .move (.tmp 9)⟩,
 ⟨(some 40), none, .bin .neq .none (.tmp 39) (.val (.int .i64 0))⟩])
 (.cond (.tmp 40)
 (.seq
 (.ops [⟨(some 41), none, .move (.tmp 9)⟩,
 ⟨(some 4), none, .move (.tmp 41)⟩])
 (.ret))
 (.skip))))))
 (.ops [⟨(some 42), none, .bin .add .none (.tmp 32) (.val (.int .i64 1))⟩,
 ⟨(some 32), none, .move (.tmp 42)⟩])))

def fn61 : AFn := .mk [.tmp 4] (
 .seq
 (.ops [⟨(some 3), none, .box (.tmp 1)⟩,
 ⟨(some 4), none, .move (.val (.int .i64 0))⟩])
 (.seq
 (.seq
 (.ops [⟨(some 10), none, .field 0 (.tmp 3)⟩,
 ⟨(some 11), none, .load1 (.tmp 10)⟩,
 ⟨(some 12), none, .bin .eql .none (.tmp 11) (.val (.int .i64 1))⟩])
 (.cond (.tmp 12)
 (.seq
 (.ops [⟨(some 14), none, .move (.tmp 0)⟩,
 ⟨(some 15), none, .field 1 (.tmp 3)⟩,
 ⟨(some 16), none, .load1 (.tmp 15)⟩,
 ⟨(some 17), none, .pcall 49 [(.tmp 14), (.tmp 16)]⟩,
 ⟨(some 13), none, .move (.tmp 17)⟩,
 ⟨(some 18), none, .extract 0 (.tmp 13)⟩,
 ⟨(some 19), none, .extract 1 (.tmp 13)⟩,
 ⟨(some 5), none, .alloc [(.str ⟨#[]⟩), (.int .i64 0), (.list [] (some none))]⟩,
 ⟨none, none, .store 3 (.tmp 5) (.tmp 18)⟩,
 ⟨(some 6), none, .move (.tmp 19)⟩])
 (.seq
 (.ops [⟨(some 20), none, .move (.tmp 6)⟩,
 ⟨(some 21), none, .move (.tmp 20)⟩,
 ⟨(some 22), (some ((some 21), true)), .field 1 (.tmp 5)⟩,
 ⟨(some 23), (some ((some 21), true)), .load1 (.tmp 22)⟩,
 ⟨(some 24), (some ((some 21), true)), .field 3 (.tmp 3)⟩,
 ⟨(some 25), (some ((some 21), true)), .load1 (.tmp 24)⟩,
 ⟨(some 26), (some ((some 21), true)), .len .slice (.tmp 25)⟩,
 ⟨(some 27), (some ((some 21), true)), .bin .neq .none (.tmp 23) (.tmp 26)⟩,
 ⟨(some 28), none, .pick (.tmp 21) (.tmp 27) (.val (.bool false))⟩])
 (.cond (.tmp 28)
 (.seq
 (.ops [⟨(some 4), none, .move (.val (.int .i64 9))⟩])
 (.ret))
 (.skip))))
 (.skip)))
 (.seq
 (.seq
 (.ops [⟨(some 29), none, .field 3 (.tmp 3)⟩,
 ⟨(some 30), none, .load1 (.tmp 29)⟩,
 ⟨(some 31), none, .len .slice (.tmp 30)⟩,
 ⟨(some 32), none, .move (.val (.int .i64 0))⟩])
 (.frame [4] (
 .block 0 (
 .gloop [0, 30, 31, 32] fn61_l0))))
 (.seq
 (.ops [⟨(some 4), none, .move (.val (.int .i64 0))⟩])
 (.ret)))))

/-- provenance/signature.sameType -/
def fn71 : AFn := .mk [.tmp 4] (
 .seq
 (.ops [⟨(some 2), none, .box (.tmp 0)⟩,
 ⟨(some 3), none, .box (.tmp 1)⟩,
 ⟨(some 4), none, .move (.val (.bool false))⟩])
 (.seq
 (.ops [⟨(some 5), none, .field 0 (.tmp 2)⟩,
 ⟨(some 6), none, .load1 (.tmp 5)⟩,
 ⟨(some 7), none, .field 0 (.tmp 3)⟩,
 ⟨(some 8), none, .load1 (.tmp 7)⟩,
 ⟨(some 9), none, .bin .eql .none (.tmp 6) (.tmp 8)⟩,
 ⟨(some 10), none, .move (.tmp 9)⟩,
 ⟨(some 11), (some ((some 10), true)), .field 0 (.tmp 2)⟩,
 ⟨(some 12), (some ((some 10), true)), .load1 (.tmp 11)⟩,
 ⟨(some 13), (some ((some 10), true)), .bin .neq .none (.tmp 12) (.val (.int .i64 0))⟩,
 ⟨(some 14), (some ((some 10), true)), .move (.tmp 13)⟩,
 ⟨(some 15), (some ((some 14), false)), .field 2 (.tmp 2)⟩,
 ⟨(some 16), (some ((some 14), false)), .load1 (.tmp 15)⟩,
 ⟨(some 17), (some ((some 14), false)), .field 2 (.tmp 3)⟩,
 ⟨(some 18), (some ((some 14), false)), .load1 (.tmp 17)⟩,
 ⟨(some 19), (some ((some 14), false)), .bin .eql .none (.tmp 16) (.tmp 18)⟩,
 ⟨(some 20), (some ((some 10), true)), .pick (.tmp 14) (.val (.bool true)) (.tmp 19)⟩,
 ⟨(some 21), none, .pick (.tmp 10) (.tmp 20) (.val (.bool false))⟩,
 ⟨(some 22), none, .move (.tmp 21)⟩,
 ⟨(some 23), (some ((some 22), true)), .field 0 (.tmp 2)⟩,
 ⟨(some 24), (some ((some 22), true)), .load1 (.tmp 23)⟩,
 ⟨(some 25), (some ((some 22), true)), .bin .neq .none (.tmp 24) (.val (.int .i64 1))⟩,
 ⟨(some 26), (some ((some 22), true)), .move (.tmp 25)⟩,
 ⟨(some 27), (some ((some 26), true)), .field 0 (.tmp 2)⟩,
 ⟨(some 28), (some ((some 26), true)), .load1 (.tmp 27)⟩,
 ⟨(some 29), (some ((some 26), true)), .bin .neq .none (.tmp 28) (.val (.int .i64 5))⟩,
 ⟨(some 30), (some ((some 22), true)), .pick (.tmp 26) (.tmp 29) (.val (.bool false))⟩,
 ⟨(some 31), (some ((some 22), true)), .move (.tmp 30)⟩,
 ⟨(some 32), (some ((some 31), false)), .field 1 (.tmp 2)⟩,
 ⟨(some 33), (some ((some 31), false)), .load1 (.tmp 32)⟩,
 ⟨(some 34), (some ((some 31), false)), .field 1 (.tmp 3)⟩,
 ⟨(some 35), (some ((some 31), false)), .load1 (.tmp 34)⟩,
 ⟨(some 36), (some ((some 31), false)), .bin .eql .none (.tmp 33) (.tmp 35)⟩,
 ⟨(some 37), (some ((some 22), true)), .pick (.tmp 31) (.val (.bool true)) (.tmp 36)⟩,
 ⟨(some 38), none, .pick (.tmp 22) (.tmp 37) (.val (.bool false))⟩,
 ⟨(some 39), none, .move (.tmp 38)⟩,
 ⟨(some 40), (some ((some 39), true)), .field 3 (.tmp 2)⟩,
 ⟨(some 41), (some ((some 39), true)), .load1 (.tmp 40)⟩,
 ⟨(some 42), (some ((some 39), true)), .field 3 (.tmp 3)⟩,
 ⟨(some 43), (some ((some 39), true)), .load1 (.tmp 42)⟩,
 ⟨(some 44), (some ((some 39), true)), .call (.val (.func 70 [] [])) [(.tmp 41), (.tmp 43), (.val (.func 71 [] []))]⟩,
 ⟨(some 45), none, .pick (.tmp 39) (.tmp 44) (.val (.bool false))⟩,
 ⟨(some 4), none, .move (.tmp 45)⟩])
 (.ret)))

/-- slices.EqualFunc[provenance/api.Type,[]provenance/api.Type,provenance/api.Type,provenance/api.Type] -/
def fn70_l0 : ACode :=
 .seq
 (.ops [⟨(some 18), none, .bin .lss .none (.tmp 17) (.tmp 16)⟩])
 (.seq
 (.cond (.tmp 18)
 (.skip)
 (.exit 0))
 (.seq
 (.block 1 (
 .seq
 (.ops [⟨(some 19), none, .move (.tmp 17)⟩,
 ⟨(some 20), none, .indexList 4 (.tmp 15) (.tmp 17)⟩,
 ⟨(some 21), none, .loadN 4 (.tmp 20)⟩,
 ⟨(some 8), none, .alloc [(.int .i64 0), (.str ⟨#[]⟩), (.int .i64 0), (.list [] (some none))]⟩,
 ⟨(some 7), none, .move (.tmp 19)⟩,
 ⟨none, none, .store 4 (.tmp 8) (.tmp 21)⟩])
 (.seq
 (.ops [⟨(some 22), none, .move (.tmp 1)⟩,
 ⟨(some 23), none, .move (.tmp 7)⟩,
 ⟨(some 24), none, .indexList 4 (.tmp 22) (.tmp 23)⟩,
 ⟨(some 25), none, .loadN 4 (.tmp 24)⟩,
 ⟨(some 9), none, .alloc [(.int .i64 0), (.str ⟨#[]⟩), (.int .i64 0), (.list [] (some none))]⟩,
 ⟨none, none, .store 4 (.tmp 9) (.tmp 25)⟩])
 (.seq
 (.ops [⟨(some 26), none, .move (.tmp 2)⟩,
 ⟨(some 27), none, .loadN 4 (.tmp 8)⟩,
 ⟨(some 28), none, .loadN 4 (.tmp 9)⟩,
 ⟨(some 29), none, .call (.tmp 26) [(.tmp 27), (.tmp 28)]⟩,
 ⟨(some 30), none, .un .not (.tmp 29)⟩])
 (.cond (.tmp 30)
 (.seq
 (.ops [⟨(some 6), none, .move (.val (.bool false))⟩])
 (.ret))
 (.skip))))))
 (.ops [⟨(some 31), none, .bin .add .none (.tmp 17) (.val (.int .i64 1))⟩,
 ⟨(some 17), none, .move (.tmp 31)⟩])))

def fn70 : AFn := .mk [.tmp 6] (
 .frame [6] (
 .seq
 (.ops [⟨(some 6), none, .move (.val (.bool false))⟩])
 (.seq
 (.seq
 (.ops [⟨(some 10), none, .move (.tmp 0)⟩,
 ⟨(some 11), none, .len .slice (.tmp 10)⟩,
 ⟨(some 12), none, .move (.tmp 1)⟩,
 ⟨(some 13), none, .len .slice (.tmp 12)⟩,
 ⟨(some 14), none, .bin .neq .none (.tmp 11) (.tmp 13)⟩])
 (.cond (.tmp 14)
 (.seq
 (.ops [⟨(some 6), none, .move (.val (.bool false))⟩])
 (.ret))
 (.skip)))
 (.seq
 (.seq
 (.ops [⟨(some 15), none, .move (.tmp 0)⟩,
 ⟨(some 16), none, .len .slice (.tmp 15)⟩,
 ⟨(some 17), none, .move (.val (.int .i64 0))⟩])
 (.frame [6] (
 .block 0 (
 .gloop [1, 2, 15, 16, 17] fn70_l0))))
 (.seq
 (.ops [⟨(some 6), none, .move (.val (.bool true))⟩])
 (.ret))))))

/-- slices.EqualFunc[provenance/api.ConSig,[]provenance/api.ConSig,provenance/api.ConSig,provenance/api.ConSig] -/
def fn51_l0 : ACode :=
 .seq
 (.ops [⟨(some 18), none, .bin .lss .none (.tmp 17) (.tmp 16)⟩])
 (.seq
 (.cond (.tmp 18)
 (.skip)
 (.exit 0))
 (.seq
 (.block 1 (
 .seq
 (.ops [⟨(some 19), none, .move (.tmp 17)⟩,
 ⟨(some 20), none, .indexList 2 (.tmp 15) (.tmp 17)⟩,
 ⟨(some 21), none, .loadN 2 (.tmp 20)⟩,
 ⟨(some 8), none, .alloc [(.str ⟨#[]⟩), (.list [] (some none))]⟩,
 ⟨(some 7), none, .move (.tmp 19)⟩,
 ⟨none, none, .store 2 (.tmp 8) (.tmp 21)⟩])
 (.seq
 (.ops [⟨(some 22), none, .move (.tmp 1)⟩,
 ⟨(some 23), none, .move (.tmp 7)⟩,
 ⟨(some 24), none, .indexList 2 (.tmp 22) (.tmp 23)⟩,
 ⟨(some 25), none, .loadN 2 (.tmp 24)⟩,
 ⟨(some 9), none, .alloc [(.str ⟨#[]⟩), (.list [] (some none))]⟩,
 ⟨none, none, .store 2 (.tmp 9) (.tmp 25)⟩])
 (.seq
 (.ops [⟨(some 26), none, .move (.tmp 2)⟩,
 ⟨(some 27), none, .loadN 2 (.tmp 8)⟩,
 ⟨(some 28), none, .loadN 2 (.tmp 9)⟩,
 ⟨(some 29), none, .call (.tmp 26) [(.tmp 27), (.tmp 28)]⟩,
 ⟨(some 30), none, .un .not (.tmp 29)⟩])
 (.cond (.tmp 30)
 (.seq
 (.ops [⟨(some 6), none, .move (.val (.bool false))⟩])
 (.ret))
 (.skip))))))
 (.ops [⟨(some 31), none, .bin .add .none (.tmp 17) (.val (.int .i64 1))⟩,
 ⟨(some 17), none, .move (.tmp 31)⟩])))

def fn51 : AFn := .mk [.tmp 6] (
 .seq
 (.ops [⟨(some 6), none, .move (.val (.bool false))⟩])
 (.seq
 (.seq
 (.ops [⟨(some 10), none, .move (.tmp 0)⟩,
 ⟨(some 11), none, .len .slice (.tmp 10)⟩,
 ⟨(some 12), none, .move (.tmp 1)⟩,
 ⟨(some 13), none, .len .slice (.tmp 12)⟩,
 ⟨(some 14), none, .bin .neq .none (.tmp 11) (.tmp 13)⟩])
 (.cond (.tmp 14)
 (.seq
 (.ops [⟨(some 6), none, .move (.val (.bool false))⟩])
 (.ret))
 (.skip)))
 (.seq
 (.seq
 (.ops [⟨(some 15), none, .move (.tmp 0)⟩,
 ⟨(some 16), none, .len .slice (.tmp 15)⟩,
 ⟨(some 17), none, .move (.val (.int .i64 0))⟩])
 (.frame [6] (
 .block 0 (
 .gloop [1, 2, 15, 16, 17] fn51_l0))))
 (.seq
 (.ops [⟨(some 6), none, .move (.val (.bool true))⟩])
 (.ret)))))

/-- provenance/signature.sameCon -/
def fn52 : AFn := .mk [.tmp 4] (
 .seq
 (.ops [⟨(some 2), none, .box (.tmp 0)⟩,
 ⟨(some 3), none, .box (.tmp 1)⟩,
 ⟨(some 4), none, .move (.val (.bool false))⟩])
 (.seq
 (.ops [⟨(some 5), none, .field 0 (.tmp 2)⟩,
 ⟨(some 6), none, .load1 (.tmp 5)⟩,
 ⟨(some 7), none, .field 0 (.tmp 3)⟩,
 ⟨(some 8), none, .load1 (.tmp 7)⟩,
 ⟨(some 9), none, .bin .eql .none (.tmp 6) (.tmp 8)⟩,
 ⟨(some 10), none, .move (.tmp 9)⟩,
 ⟨(some 11), (some ((some 10), true)), .field 1 (.tmp 2)⟩,
 ⟨(some 12), (some ((some 10), true)), .load1 (.tmp 11)⟩,
 ⟨(some 13), (some ((some 10), true)), .field 1 (.tmp 3)⟩,
 ⟨(some 14), (some ((some 10), true)), .load1 (.tmp 13)⟩,
 ⟨(some 15), (some ((some 10), true)), .call (.val (.func 70 [] [])) [(.tmp 12), (.tmp 14), (.val (.func 71 [] []))]⟩,
 ⟨(some 16), none, .pick (.tmp 10) (.tmp 15) (.val (.bool false))⟩,
 ⟨(some 4), none, .move (.tmp 16)⟩])
 (.ret)))

/-- slices.IndexFunc[provenance/api.Type,provenance/api.Type] -/
def fn63_l0 : ACode :=
 .seq
 (.ops [⟨(some 9), none, .bin .lss .none (.tmp 8) (.tmp 7)⟩])
 (.seq
 (.cond (.tmp 9)
 (.skip)
 (.exit 0))
 (.seq
 (.block 1 (
 .seq
 (.ops [⟨(some 10), none, .move (.tmp 8)⟩,
 ⟨(some 5), none, .move (.tmp 10)⟩])
 (.seq
 (.ops [⟨(some 11), none, .move (.tmp 1)⟩,
 ⟨(some 12), none, .move (.tmp 0)⟩,
 ⟨(some 13), none, .move (.tmp 5)⟩,
 ⟨(some 14), none, .indexList 4 (.tmp 12) (.tmp 13)⟩,
 ⟨(some 15), none, .loadN 4 (.tmp 14)⟩,
 ⟨(some 16), none, .call (.tmp 11) [(.tmp 15)]⟩])
 (.cond (.tmp 16)
 (.seq
 (.ops [⟨(some 17), none, .move (.tmp 5)⟩,
 ⟨(some 4), none, .move (.tmp 17)⟩])
 (.ret))
 (.skip)))))
 (.ops [⟨(some 18), none, .bin .add .none (.tmp 8) (.val (.int .i64 1))⟩,
 ⟨(some 8), none, .move (.tmp 18)⟩])))

def fn63 : AFn := .mk [.tmp 4] (
 .seq
 (.ops [⟨(some 4), none, .move (.val (.int .i64 0))⟩])
 (.seq
 (.seq
 (.ops [⟨(some 6), none, .move (.tmp 0)⟩,
 ⟨(some 7), none, .len .slice (.tmp 6)⟩,
 ⟨(some 8), none, .move (.val (.int .i64 0))⟩])
 (.frame [4] (
 .block 0 (
 .gloop [0, 1, 7, 8] fn63_l0))))
 (.seq
 (.ops [⟨(some 4), none, .move (.val (.int .i64 (-1)))⟩])
 (.ret))))

/-- slices.IndexFunc[provenance/api.DataSig,provenance/api.DataSig] -/
def fn62_l0 : ACode :=
 .seq
 (.ops [⟨(some 9), none, .bin .lss .none (.tmp 8) (.tmp 7)⟩])
 (.seq
 (.cond (.tmp 9)
 (.skip)
 (.exit 0))
 (.seq
 (.block 1 (
 .seq
 (.ops [⟨(some 10), none, .move (.tmp 8)⟩,
 ⟨(some 5), none, .move (.tmp 10)⟩])
 (.seq
 (.ops [⟨(some 11), none, .move (.tmp 1)⟩,
 ⟨(some 12), none, .move (.tmp 0)⟩,
 ⟨(some 13), none, .move (.tmp 5)⟩,
 ⟨(some 14), none, .indexList 3 (.tmp 12) (.tmp 13)⟩,
 ⟨(some 15), none, .loadN 3 (.tmp 14)⟩,
 ⟨(some 16), none, .call (.tmp 11) [(.tmp 15)]⟩])
 (.cond (.tmp 16)
 (.seq
 (.ops [⟨(some 17), none, .move (.tmp 5)⟩,
 ⟨(some 4), none, .move (.tmp 17)⟩])
 (.ret))
 (.skip)))))
 (.ops [⟨(some 18), none, .bin .add .none (.tmp 8) (.val (.int .i64 1))⟩,
 ⟨(some 8), none, .move (.tmp 18)⟩])))

def fn62 : AFn := .mk [.tmp 4] (
 .seq
 (.ops [⟨(some 4), none, .move (.val (.int .i64 0))⟩])
 (.seq
 (.seq
 (.ops [⟨(some 6), none, .move (.tmp 0)⟩,
 ⟨(some 7), none, .len .slice (.tmp 6)⟩,
 ⟨(some 8), none, .move (.val (.int .i64 0))⟩])
 (.frame [4] (
 .block 0 (
 .gloop [0, 1, 7, 8] fn62_l0))))
 (.seq
 (.ops [⟨(some 4), none, .move (.val (.int .i64 (-1)))⟩])
 (.ret))))

/-- slices.IndexFunc[provenance/api.Pred,provenance/api.Pred] -/
def fn73_l0 : ACode :=
 .seq
 (.ops [⟨(some 9), none, .bin .lss .none (.tmp 8) (.tmp 7)⟩])
 (.seq
 (.cond (.tmp 9)
 (.skip)
 (.exit 0))
 (.seq
 (.block 1 (
 .seq
 (.ops [⟨(some 10), none, .move (.tmp 8)⟩,
 ⟨(some 5), none, .move (.tmp 10)⟩])
 (.seq
 (.ops [⟨(some 11), none, .move (.tmp 1)⟩,
 ⟨(some 12), none, .move (.tmp 0)⟩,
 ⟨(some 13), none, .move (.tmp 5)⟩,
 ⟨(some 14), none, .indexList 5 (.tmp 12) (.tmp 13)⟩,
 ⟨(some 15), none, .loadN 5 (.tmp 14)⟩,
 ⟨(some 16), none, .call (.tmp 11) [(.tmp 15)]⟩])
 (.cond (.tmp 16)
 (.seq
 (.ops [⟨(some 17), none, .move (.tmp 5)⟩,
 ⟨(some 4), none, .move (.tmp 17)⟩])
 (.ret))
 (.skip)))))
 (.ops [⟨(some 18), none, .bin .add .none (.tmp 8) (.val (.int .i64 1))⟩,
 ⟨(some 8), none, .move (.tmp 18)⟩])))

def fn73 : AFn := .mk [.tmp 4] (
 .frame [4] (
 .seq
 (.ops [⟨(some 4), none, .move (.val (.int .i64 0))⟩])
 (.seq
 (.seq
 (.ops [⟨(some 6), none, .move (.tmp 0)⟩,
 ⟨(some 7), none, .len .slice (.tmp 6)⟩,
 ⟨(some 8), none, .move (.val (.int .i64 0))⟩])
 (.frame [4] (
 .block 0 (
 .gloop [0, 1, 7, 8] fn73_l0))))
 (.seq
 (.ops [⟨(some 4), none, .move (.val (.int .i64 (-1)))⟩])
 (.ret)))))

/-- slices.IndexFunc[provenance/api.ConSig,provenance/api.ConSig] -/
def fn74_l0 : ACode :=
 .seq
 (.ops [⟨(some 9), none, .bin .lss .none (.tmp 8) (.tmp 7)⟩])
 (.seq
 (.cond (.tmp 9)
 (.skip)
 (.exit 0))
 (.seq
 (.block 1 (
 .seq
 (.ops [⟨(some 10), none, .move (.tmp 8)⟩,
 ⟨(some 5), none, .move (.tmp 10)⟩])
 (.seq
 (.ops [⟨(some 11), none, .move (.tmp 1)⟩,
 ⟨(some 12), none, .move (.tmp 0)⟩,
 ⟨(some 13), none, .move (.tmp 5)⟩,
 ⟨(some 14), none, .indexList 2 (.tmp 12) (.tmp 13)⟩,
 ⟨(some 15), none, .loadN 2 (.tmp 14)⟩,
 ⟨(some 16), none, .call (.tmp 11) [(.tmp 15)]⟩])
 (.cond (.tmp 16)
 (.seq
 (.ops [⟨(some 17), none, .move (.tmp 5)⟩,
 ⟨(some 4), none, .move (.tmp 17)⟩])
 (.ret))
 (.skip)))))
 (.ops [⟨(some 18), none, .bin .add .none (.tmp 8) (.val (.int .i64 1))⟩,
 ⟨(some 8), none, .move (.tmp 18)⟩])))

def fn74 : AFn := .mk [.tmp 4] (
 .seq
 (.ops [⟨(some 4), none, .move (.val (.int .i64 0))⟩])
 (.seq
 (.seq
 (.ops [⟨(some 6), none, .move (.tmp 0)⟩,
 ⟨(some 7), none, .len .slice (.tmp 6)⟩,
 ⟨(some 8), none, .move (.val (.int .i64 0))⟩])
 (.frame [4] (
 .block 0 (
 .gloop [0, 1, 7, 8] fn74_l0))))
 (.seq
 (.ops [⟨(some 4), none, .move (.val (.int .i64 (-1)))⟩])
 (.ret))))

/-- slices.ContainsFunc[provenance/api.DataSig,provenance/api.DataSig] -/
def fn40 : AFn := .mk [.tmp 4] (
 .seq
 (.ops [⟨(some 4), none, .move (.val (.bool false))⟩])
 (.seq
 (.ops [⟨(some 5), none, .move (.tmp 0)⟩,
 ⟨(some 6), none, .move (.tmp 1)⟩,
 ⟨(some 7), none, .call (.val (.func 62 [] [])) [(.tmp 5), (.tmp 6)]⟩,
 ⟨(some 8), none, .bin .geq .none (.tmp 7) (.val (.int .i64 0))⟩,
 ⟨(some 4), none, .move (.tmp 8)⟩])
 (.ret)))

/-- slices.ContainsFunc[provenance/api.Type,provenance/api.Type] -/
def fn42 : AFn := .mk [.tmp 4] (
 .seq
 (.ops [⟨(some 4), none, .move (.val (.bool false))⟩])
 (.seq
 (.ops [⟨(some 5), none, .move (.tmp 0)⟩,
 ⟨(some 6), none, .move (.tmp 1)⟩,
 ⟨(some 7), none, .call (.val (.func 63 [] [])) [(.tmp 5), (.tmp 6)]⟩,
 ⟨(some 8), none, .bin .geq .none (.tmp 7) (.val (.int .i64 0))⟩,
 ⟨(some 4), none, .move (.tmp 8)⟩])
 (.ret)))

/-- slices.ContainsFunc[provenance/api.Pred,provenance/api.Pred] -/
def fn56 : AFn := .mk [.tmp 4] (
 .frame [4] (
 .seq
 (.ops [⟨(some 4), none, .move (.val (.bool false))⟩])
 (.seq
 (.ops [⟨(some 5), none, .move (.tmp 0)⟩,
 ⟨(some 6), none, .move (.tmp 1)⟩,
 ⟨(some 7), none, .call (.val (.func 73 [] [])) [(.tmp 5), (.tmp 6)]⟩,
 ⟨(some 8), none, .bin .geq .none (.tmp 7) (.val (.int .i64 0))⟩,
 ⟨(some 4), none, .move (.tmp 8)⟩])
 (.ret))))

/-- slices.ContainsFunc[provenance/api.ConSig,provenance/api.ConSig] -/
def fn58 : AFn := .mk [.tmp 4] (
 .seq
 (.ops [⟨(some 4), none, .move (.val (.bool false))⟩])
 (.seq
 (.ops [⟨(some 5), none, .move (.tmp 0)⟩,
 ⟨(some 6), none, .move (.tmp 1)⟩,
 ⟨(some 7), none, .call (.val (.func 74 [] [])) [(.tmp 5), (.tmp 6)]⟩,
 ⟨(some 8), none, .bin .geq .none (.tmp 7) (.val (.int .i64 0))⟩,
 ⟨(some 4), none, .move (.tmp 8)⟩])
 (.ret)))

/-- provenance/signature.dataError.1 -/
def fn59 : AFn := .mk [.tmp 3] (
 .seq
 (.ops [⟨(some 2), none, .box (.tmp 0)⟩,
 ⟨(some 3), none, .move (.val (.bool false))⟩])
 (.seq
 (.ops [⟨(some 4), none, .field 0 (.tmp 2)⟩,
 ⟨(some 5), none, .load1 (.tmp 4)⟩,
 ⟨(some 6), none, .field 0 (.tmp 1)⟩,
 ⟨(some 7), none, .load1 (.tmp 6)⟩,
 ⟨(some 8), none, .bin .eql .none (.tmp 5) (.tmp 7)⟩,
 ⟨(some 3), none, .move (.tmp 8)⟩])
 (.ret)))

/-- slices.BinarySearchFunc[provenance/api.DataSig,provenance/api.DataSig,string] -/
def fn67_l0 : ACode :=
 .seq
 (.seq
 (.ops [⟨(some 15), none, .move (.tmp 9)⟩,
 ⟨(some 16), none, .move (.tmp 10)⟩,
 ⟨(some 17), none, .bin .lss .none (.tmp 15) (.tmp 16)⟩])
 (.cond (.tmp 17)
 (.skip)
 (.exit 0)))
 (.block 1 (
 .seq
 (.ops [⟨(some 18), none, .move (.tmp 9)⟩,
 ⟨(some 19), none, .move (.tmp 10)⟩,
 ⟨(some 20), none, .bin .add .none (.tmp 18) (.tmp 19)⟩,
 ⟨(some 21), none, .conv .u64 (.tmp 20)⟩,
 ⟨(some 22), none, .bin .shr .none (.tmp 21) (.val (.int .u64 1))⟩,
 ⟨(some 23), none, .conv .i64 (.tmp 22)⟩,
 ⟨(some 11), none, .move (.tmp 23)⟩])
 (.seq
 (.ops [⟨(some 24), none, .move (.tmp 2)⟩,
 ⟨(some 25), none, .move (.tmp 0)⟩,
 ⟨(some 26), none, .move (.tmp 11)⟩,
 ⟨(some 27), none, .indexList 3 (.tmp 25) (.tmp 26)⟩,
 ⟨(some 28), none, .loadN 3 (.tmp 27)⟩,
 ⟨(some 29), none, .move (.tmp 1)⟩,
 ⟨(some 30), none, .call (.tmp 24) [(.tmp 28), (.tmp 29)]⟩,
 ⟨(some 31), none, .bin .lss .none (.tmp 30) (.val (.int .i64 0))⟩])
 (.cond (.tmp 31)
 (.ops [⟨(some 32), none, .move (.tmp 11)⟩,
 ⟨(some 33), none, .bin .add .none (.tmp 32) (.val (.int .i64 1))⟩,
 ⟨(some 9), none, .move (.tmp 33)⟩])
 (.ops [⟨(some 34), none, .move (.tmp 11)⟩,
 ⟨(some 10), none, .move (.tmp 34)⟩])))))

def fn67 : AFn := .mk [.tmp 6, .tmp 7] (
 .seq
 (.ops [⟨(some 6), none, .move (.val (.int .i64 0))⟩,
 ⟨(some 7), none, .move (.val (.bool false))⟩])
 (.seq
 (.ops [⟨(some 12), none, .move (.tmp 0)⟩,
 ⟨(some 13), none, .len .slice (.tmp 12)⟩,
 ⟨(some 8), none, .move (.tmp 13)⟩])
 (.seq
 (.ops [⟨(some 14), none, .move (.tmp 8)⟩,
 ⟨(some 9), none, .move (.val (.int .i64 0))⟩,
 ⟨(some 10), none, .move (.tmp 14)⟩])
 (.seq
 (.frame [0, 1, 2, 8, 9] (
 .block 0 (
 .gloop [0, 1, 2, 8, 9, 10] fn67_l0)))
 (.seq
 (.ops [⟨(some 35), none, .move (.tmp 9)⟩,
 ⟨(some 36), none, .move (.tmp 9)⟩,
 ⟨(some 37), none, .move (.tmp 8)⟩,
 ⟨(some 38), none, .bin .lss .none (.tmp 36) (.tmp 37)⟩,
 ⟨(some 39), none, .move (.tmp 38)⟩,
 ⟨(some 40), (some ((some 39), true)), .move (.tmp 2)⟩,
 ⟨(some 41), (some ((some 39), true)), .move (.tmp 0)⟩,
 ⟨(some 42), (some ((some 39), true)), .move (.tmp 9)⟩,
 ⟨(some 43), (some ((some 39), true)), .indexList 3 (.tmp 41) (.tmp 42)⟩,
 ⟨(some 44), (some ((some 39), true)), .loadN 3 (.tmp 43)⟩,
 ⟨(some 45), (some ((some 39), true)), .move (.tmp 1)⟩,
 ⟨(some 46), (some ((some 39), true)), .call (.tmp 40) [(.tmp 44), (.tmp 45)]⟩,
 ⟨(some 47), (some ((some 39), true)), .bin .eql .none (.tmp 46) (.val (.int .i64 0))⟩,
 ⟨(some 48), none, .pick (.tmp 39) (.tmp 47) (.val (.bool false))⟩,
 ⟨(some 6), none, .move (.tmp 35)⟩,
 ⟨(some 7), none, .move (.tmp 48)⟩])
 (.ret))))))

/-- provenance/signature.find.1 -/
def fn68 : AFn := .mk [.tmp 4] (
 .seq
 (.ops [⟨(some 2), none, .box (.tmp 0)⟩,
 ⟨(some 4), none, .move (.val (.int .i64 0))⟩])
 (.seq
 (.ops [⟨(some 5), none, .field 0 (.tmp 2)⟩,
 ⟨(some 6), none, .load1 (.tmp 5)⟩,
 ⟨(some 7), none, .move (.tmp 1)⟩,
 ⟨(some 8), none, .pcall 34 [(.tmp 6), (.tmp 7)]⟩,
 ⟨(some 4), none, .move (.tmp 8)⟩])
 (.ret)))

/-- provenance/signature.find -/
def fn49 : AFn := .mk [.cellN 3 4, .tmp 5] (
 .seq
 (.ops [⟨(some 4), none, .alloc [(.str ⟨#[]⟩), (.int .i64 0), (.list [] (some none))]⟩,
 ⟨(some 5), none, .move (.val (.bool false))⟩])
 (.seq
 (.ops [⟨(some 9), none, .move (.tmp 0)⟩,
 ⟨(some 10), none, .move (.tmp 1)⟩,
 ⟨(some 11), none, .call (.val (.func 67 [] [])) [(.tmp 9), (.tmp 10), (.val (.func 68 [] []))]⟩,
 ⟨(some 8), none, .move (.tmp 11)⟩,
 ⟨(some 12), none, .extract 0 (.tmp 8)⟩,
 ⟨(some 13), none, .extract 1 (.tmp 8)⟩,
 ⟨(some 6), none, .move (.tmp 12)⟩,
 ⟨(some 7), none, .move (.tmp 13)⟩])
 (.seq
 (.seq
 (.ops [⟨(some 14), none, .move (.tmp 7)⟩,
 ⟨(some 15), none, .un .not (.tmp 14)⟩])
 (.cond (.tmp 15)
 (.seq
 (.ops [⟨(some 16), none, .build [(.str ⟨#[]⟩), (.int .i64 0), (.list [] (some none))] []⟩,
 ⟨none, none, .store 3 (.tmp 4) (.tmp 16)⟩,
 ⟨(some 5), none, .move (.val (.bool false))⟩])
 (.ret))
 (.skip)))
 (.seq
 (.ops [⟨(some 17), none, .move (.tmp 0)⟩,
 ⟨(some 18), none, .move (.tmp 6)⟩,
 ⟨(some 19), none, .indexList 3 (.tmp 17) (.tmp 18)⟩,
 ⟨(some 20), none, .loadN 3 (.tmp 19)⟩,
 ⟨none, none, .store 3 (.tmp 4) (.tmp 20)⟩,
 ⟨(some 5), none, .move (.val (.bool true))⟩])
 (.ret)))))

/-- slices.BinarySearchFunc[provenance/api.ValSig,provenance/api.ValSig,string] -/
def fn32_l0 : ACode :=
 .seq
 (.seq
 (.ops [⟨(some 15), none, .move (.tmp 9)⟩,
 ⟨(some 16), none, .move (.tmp 10)⟩,
 ⟨(some 17), none, .bin .lss .none (.tmp 15) (.tmp 16)⟩])
 (.cond (.tmp 17)
 (.skip)
 (.exit 0)))
 (.block 1 (
 .seq
 (.ops [⟨(some 18), none, .move (.tmp 9)⟩,
 ⟨(some 19), none, .move (.tmp 10)⟩,
 ⟨(some 20), none, .bin .add .none (.tmp 18) (.tmp 19)⟩,
 ⟨(some 21), none, .conv .u64 (.tmp 20)⟩,
 ⟨(some 22), none, .bin .shr .none (.tmp 21) (.val (.int .u64 1))⟩,
 ⟨(some 23), none, .conv .i64 (.tmp 22)⟩,
 ⟨(some 11), none, .move (.tmp 23)⟩])
 (.seq
 (.ops [⟨(some 24), none, .move (.tmp 2)⟩,
 ⟨(some 25), none, .move (.tmp 0)⟩,
 ⟨(some 26), none, .move (.tmp 11)⟩,
 ⟨(some 27), none, .indexList 7 (.tmp 25) (.tmp 26)⟩,
 ⟨(some 28), none, .loadN 7 (.tmp 27)⟩,
 ⟨(some 29), none, .move (.tmp 1)⟩,
 ⟨(some 30), none, .call (.tmp 24) [(.tmp 28), (.tmp 29)]⟩,
 ⟨(some 31), none, .bin .lss .none (.tmp 30) (.val (.int .i64 0))⟩])
 (.cond (.tmp 31)
 (.ops [⟨(some 32), none, .move (.tmp 11)⟩,
 ⟨(some 33), none, .bin .add .none (.tmp 32) (.val (.int .i64 1))⟩,
 ⟨(some 9), none, .move (.tmp 33)⟩])
 (.ops [⟨(some 34), none, .move (.tmp 11)⟩,
 ⟨(some 10), none, .move (.tmp 34)⟩])))))

def fn32 : AFn := .mk [.tmp 6, .tmp 7] (
 .seq
 (.ops [⟨(some 6), none, .move (.val (.int .i64 0))⟩,
 ⟨(some 7), none, .move (.val (.bool false))⟩])
 (.seq
 (.ops [⟨(some 12), none, .move (.tmp 0)⟩,
 ⟨(some 13), none, .len .slice (.tmp 12)⟩,
 ⟨(some 8), none, .move (.tmp 13)⟩])
 (.seq
 (.ops [⟨(some 14), none, .move (.tmp 8)⟩,
 ⟨(some 9), none, .move (.val (.int .i64 0))⟩,
 ⟨(some 10), none, .move (.tmp 14)⟩])
 (.seq
 (.frame [0, 1, 2, 8, 9] (
 .block 0 (
 .gloop [0, 1, 2, 8, 9, 10] fn32_l0)))
 (.seq
 (.ops [⟨(some 35), none, .move (.tmp 9)⟩,
 ⟨(some 36), none, .move (.tmp 9)⟩,
 ⟨(some 37), none, .move (.tmp 8)⟩,
 ⟨(some 38), none, .bin .lss .none (.tmp 36) (.tmp 37)⟩,
 ⟨(some 39), none, .move (.tmp 38)⟩,
 ⟨(some 40), (some ((some 39), true)), .move (.tmp 2)⟩,
 ⟨(some 41), (some ((some 39), true)), .move (.tmp 0)⟩,
 ⟨(some 42), (some ((some 39), true)), .move (.tmp 9)⟩,
 ⟨(some 43), (some ((some 39), true)), .indexList 7 (.tmp 41) (.tmp 42)⟩,
 ⟨(some 44), (some ((some 39), true)), .loadN 7 (.tmp 43)⟩,
 ⟨(some 45), (some ((some 39), true)), .move (.tmp 1)⟩,
 ⟨(some 46), (some ((some 39), true)), .call (.tmp 40) [(.tmp 44), (.tmp 45)]⟩,
 ⟨(some 47), (some ((some 39), true)), .bin .eql .none (.tmp 46) (.val (.int .i64 0))⟩,
 ⟨(some 48), none, .pick (.tmp 39) (.tmp 47) (.val (.bool false))⟩,
 ⟨(some 6), none, .move (.tmp 35)⟩,
 ⟨(some 7), none, .move (.tmp 48)⟩])
 (.ret))))))

/-- provenance/signature.Match.1 -/
def fn33 : AFn := .mk [.tmp 4] (
 .seq
 (.ops [⟨(some 2), none, .box (.tmp 0)⟩,
 ⟨(some 4), none, .move (.val (.int .i64 0))⟩])
 (.seq
 (.ops [⟨(some 5), none, .field 0 (.tmp 2)⟩,
 ⟨(some 6), none, .load1 (.tmp 5)⟩,
 ⟨(some 7), none, .move (.tmp 1)⟩,
 ⟨(some 8), none, .pcall 34 [(.tmp 6), (.tmp 7)]⟩,
 ⟨(some 4), none, .move (.tmp 8)⟩])
 (.ret)))

end Go.Abs
/-
 The resolved code of some functions, as a program of ours prints it. Conditions: none.
-/
namespace Go.Abs

/-- provenance/signature.dataError -/
def fn37_l0 : ACode :=
 .seq
 (.ops [⟨(some 46), none, .bin .lss .none (.tmp 45) (.tmp 44)⟩])
 (.seq
 (.cond (.tmp 46)
 (.skip)
 (.exit 2))
 (.seq
 (.block 3 (
 .seq
 (.ops [⟨(some 47), none, .indexList 4 (.tmp 43) (.tmp 45)⟩,
 ⟨(some 48), none, .loadN 4 (.tmp 47)⟩,
 ⟨(some 6), none, .alloc [(.int .i64 0), (.str ⟨#[]⟩), (.int .i64 0), (.list [] (some none))]⟩,
 ⟨none, none, .store 4 (.tmp 6) (.tmp 48)⟩])
 (.seq
 (.ops [⟨(some 49), none, .loadN 4 (.tmp 6)⟩,
 ⟨(some 50), none, .field 1 (.tmp 1)⟩,
 ⟨(some 51), none, .load1 (.tmp 50)⟩,
 ⟨(some 52), none, .pcall 60 [(.tmp 49), (.tmp 51), (.val (.int .i64 1))]⟩,
 ⟨(some 7), none, .move (.tmp 52)⟩])
 (.seq
 (.ops [⟨(some 53), none, .move (.tmp 7)⟩,
 ⟨(some 54), none, .bin .neq .none (.tmp 53) (.val (.int .i64 0))⟩])
 (.cond (.tmp 54)
 (.seq
 (.ops [⟨(some 55), none, .move (.tmp 7)⟩,
 ⟨(some 2), none, .move (.tmp 55)⟩])
 (.ret))
 (.skip))))))
 (.ops [⟨(some 56), none, .bin .add .none (.tmp 45) (.val (.int .i64 1))⟩,
 ⟨(some 45), none, .move (.tmp 56)⟩])))

def fn37_l1 : ACode :=
 .seq
 (.ops [⟨(some 23), none, .bin .lss .none (.tmp 22) (.tmp 21)⟩])
 (.seq
 (.cond (.tmp 23)
 (.skip)
 (.exit 0))
 (.seq
 (.block 1 (
 .seq
 (.ops [⟨(some 24), none, .move (.tmp 22)⟩,
 ⟨(some 25), none, .indexList 2 (.tmp 20) (.tmp 22)⟩,
 ⟨(some 26), none, .loadN 2 (.tmp 25)⟩,
 ⟨(some 4), none, .alloc [(.str ⟨#[]⟩), (.list [] (some none))]⟩,
 ⟨(some 3), none, .move (.tmp 24)⟩,
 ⟨none, none, .store 2 (.tmp 4) (.tmp 26)⟩])
 (.seq
 (.seq
 (.ops [⟨(some 27), none, .field 0 (.tmp 4)⟩,
 ⟨(some 28), none, .load1 (.tmp 27)⟩,
 ⟨(some 29), none, .pcall 29 [(.tmp 28)]⟩,
 ⟨(some 30), none, .move (.tmp 29)⟩,
 ⟨(some 31), (some ((some 30), false)), .field 1 (.tmp 4)⟩,
 ⟨(some 32), (some ((some 30), false)), .load1 (.tmp 31)⟩,
 ⟨(some 33), (some ((some 30), false)), .len .slice (.tmp 32)⟩,
 ⟨(some 34), (some ((some 30), false)), .bin .gtr .none (.tmp 33) (.val (.int .i64 16))⟩,
 ⟨(some 35), none, .pick (.tmp 30) (.val (.bool true)) (.tmp 34)⟩])
 (.cond (.tmp 35)
 (.seq
 (.ops [⟨(some 2), none, .move (.val (.int .i64 3))⟩])
 (.ret))
 (.skip)))
 (.seq
 (.seq
 (.freeze 4 (
 .ops [⟨(some 36), none, .field 2 (.tmp 1)⟩,
 ⟨(some 37), none, .load1 (.tmp 36)⟩,
 ⟨(some 38), none, .move (.tmp 3)⟩,
 ⟨(some 39), none, .slice 2 (.tmp 37) none (some (.tmp 38)) none⟩,
 ⟨(some 40), none, .makeFunc 59 [] [(.tmp 4)]⟩,
 ⟨(some 41), none, .call (.val (.func 58 [] [])) [(.tmp 39), (.tmp 40)]⟩]))
 (.cond (.tmp 41)
 (.seq
 (.ops [⟨(some 2), none, .move (.val (.int .i64 7))⟩])
 (.ret))
 (.skip)))
 (.seq
 (.ops [⟨(some 42), none, .field 1 (.tmp 4)⟩,
 ⟨(some 43), none, .load1 (.tmp 42)⟩,
 ⟨(some 44), none, .len .slice (.tmp 43)⟩,
 ⟨(some 45), none, .move (.val (.int .i64 0))⟩])
 (.frame [1, 2, 20, 21, 22] (
 .block 2 (
 .gloop [1, 20, 21, 22, 43, 44, 45] fn37_l0))))))))
 (.ops [⟨(some 57), none, .bin .add .none (.tmp 22) (.val (.int .i64 1))⟩,
 ⟨(some 22), none, .move (.tmp 57)⟩])))

def fn37 : AFn := .mk [.tmp 2] (
 .seq
 (.ops [⟨(some 1), none, .box (.tmp 0)⟩,
 ⟨(some 2), none, .move (.val (.int .i64 0))⟩])
 (.seq
 (.seq
 (.ops [⟨(some 8), none, .field 0 (.tmp 1)⟩,
 ⟨(some 9), none, .load1 (.tmp 8)⟩,
 ⟨(some 10), none, .pcall 29 [(.tmp 9)]⟩])
 (.cond (.tmp 10)
 (.seq
 (.ops [⟨(some 2), none, .move (.val (.int .i64 3))⟩])
 (.ret))
 (.skip)))
 (.seq
 (.seq
 (.ops [⟨(some 11), none, .field 1 (.tmp 1)⟩,
 ⟨(some 12), none, .load1 (.tmp 11)⟩,
 ⟨(some 13), none, .bin .lss .none (.tmp 12) (.val (.int .i64 0))⟩,
 ⟨(some 14), none, .move (.tmp 13)⟩,
 ⟨(some 15), (some ((some 14), false)), .field 1 (.tmp 1)⟩,
 ⟨(some 16), (some ((some 14), false)), .load1 (.tmp 15)⟩,
 ⟨(some 17), (some ((some 14), false)), .bin .gtr .none (.tmp 16) (.val (.int .i64 8))⟩,
 ⟨(some 18), none, .pick (.tmp 14) (.val (.bool true)) (.tmp 17)⟩])
 (.cond (.tmp 18)
 (.seq
 (.ops [⟨(some 2), none, .move (.val (.int .i64 4))⟩])
 (.ret))
 (.skip)))
 (.seq
 (.seq
 (.ops [⟨(some 19), none, .field 2 (.tmp 1)⟩,
 ⟨(some 20), none, .load1 (.tmp 19)⟩,
 ⟨(some 21), none, .len .slice (.tmp 20)⟩,
 ⟨(some 22), none, .move (.val (.int .i64 0))⟩])
 (.frame [2] (
 .block 0 (
 .gloop [1, 20, 21, 22] fn37_l1))))
 (.seq
 (.ops [⟨(some 2), none, .move (.val (.int .i64 0))⟩])
 (.ret))))))

/-- provenance/signature.schemeError -/
def fn38_l0 : ACode :=
 .seq
 (.ops [⟨(some 18), none, .bin .lss .none (.tmp 17) (.tmp 16)⟩])
 (.seq
 (.cond (.tmp 18)
 (.skip)
 (.exit 0))
 (.seq
 (.block 1 (
 .seq
 (.ops [⟨(some 19), none, .indexList 5 (.tmp 15) (.tmp 17)⟩,
 ⟨(some 20), none, .loadN 5 (.tmp 19)⟩,
 ⟨(some 4), none, .alloc [(.str ⟨#[]⟩), (.int .i64 0), (.str ⟨#[]⟩), (.int .i64 0), (.list [] (some none))]⟩,
 ⟨none, none, .store 5 (.tmp 4) (.tmp 20)⟩])
 (.seq
 (.seq
 (.ops [⟨(some 21), none, .field 0 (.tmp 4)⟩,
 ⟨(some 22), none, .load1 (.tmp 21)⟩,
 ⟨(some 23), none, .pcall 29 [(.tmp 22)]⟩])
 (.cond (.tmp 23)
 (.seq
 (.ops [⟨(some 2), none, .move (.val (.int .i64 3))⟩])
 (.ret))
 (.skip)))
 (.seq
 (.ops [⟨(some 24), none, .field 1 (.tmp 4)⟩,
 ⟨(some 25), none, .loadN 4 (.tmp 24)⟩,
 ⟨(some 26), none, .field 0 (.tmp 1)⟩,
 ⟨(some 27), none, .load1 (.tmp 26)⟩,
 ⟨(some 28), none, .pcall 60 [(.tmp 25), (.tmp 27), (.val (.int .i64 1))]⟩,
 ⟨(some 5), none, .move (.tmp 28)⟩])
 (.seq
 (.ops [⟨(some 29), none, .move (.tmp 5)⟩,
 ⟨(some 30), none, .bin .neq .none (.tmp 29) (.val (.int .i64 0))⟩])
 (.cond (.tmp 30)
 (.seq
 (.ops [⟨(some 31), none, .move (.tmp 5)⟩,
 ⟨(some 2), none, .move (.tmp 31)⟩])
 (.ret))
 (.skip)))))))
 (.ops [⟨(some 32), none, .bin .add .none (.tmp 17) (.val (.int .i64 1))⟩,
 ⟨(some 17), none, .move (.tmp 32)⟩])))

def fn38 : AFn := .mk [.tmp 2] (
 .seq
 (.ops [⟨(some 1), none, .box (.tmp 0)⟩,
 ⟨(some 2), none, .move (.val (.int .i64 0))⟩])
 (.seq
 (.seq
 (.ops [⟨(some 6), none, .field 0 (.tmp 1)⟩,
 ⟨(some 7), none, .load1 (.tmp 6)⟩,
 ⟨(some 8), none, .bin .lss .none (.tmp 7) (.val (.int .i64 0))⟩,
 ⟨(some 9), none, .move (.tmp 8)⟩,
 ⟨(some 10), (some ((some 9), false)), .field 0 (.tmp 1)⟩,
 ⟨(some 11), (some ((some 9), false)), .load1 (.tmp 10)⟩,
 ⟨(some 12), (some ((some 9), false)), .bin .gtr .none (.tmp 11) (.val (.int .i64 40))⟩,
 ⟨(some 13), none, .pick (.tmp 9) (.val (.bool true)) (.tmp 12)⟩])
 (.cond (.tmp 13)
 (.seq
 (.ops [⟨(some 2), none, .move (.val (.int .i64 4))⟩])
 (.ret))
 (.skip)))
 (.seq
 (.seq
 (.ops [⟨(some 14), none, .field 1 (.tmp 1)⟩,
 ⟨(some 15), none, .load1 (.tmp 14)⟩,
 ⟨(some 16), none, .len .slice (.tmp 15)⟩,
 ⟨(some 17), none, .move (.val (.int .i64 0))⟩])
 (.frame [1, 2] (
 .block 0 (
 .gloop [1, 15, 16, 17] fn38_l0))))
 (.seq
 (.ops [⟨(some 33), none, .field 2 (.tmp 1)⟩,
 ⟨(some 34), none, .loadN 4 (.tmp 33)⟩,
 ⟨(some 35), none, .field 0 (.tmp 1)⟩,
 ⟨(some 36), none, .load1 (.tmp 35)⟩,
 ⟨(some 37), none, .pcall 60 [(.tmp 34), (.tmp 36), (.val (.int .i64 1))]⟩,
 ⟨(some 2), none, .move (.tmp 37)⟩])
 (.ret)))))

/-- provenance/signature.kindsError -/
def fn39_l0 : ACode :=
 .seq
 (.ops [⟨(some 28), none, .bin .lss .none (.tmp 27) (.tmp 26)⟩])
 (.seq
 (.cond (.tmp 28)
 (.skip)
 (.exit 2))
 (.seq
 (.block 3 (
 .seq
 (.ops [⟨(some 29), none, .indexList 2 (.tmp 25) (.tmp 27)⟩,
 ⟨(some 30), none, .loadN 2 (.tmp 29)⟩,
 ⟨(some 9), none, .alloc [(.str ⟨#[]⟩), (.list [] (some none))]⟩,
 ⟨none, none, .store 2 (.tmp 9) (.tmp 30)⟩])
 (.ops [⟨(some 31), none, .move (.tmp 5)⟩,
 ⟨(some 32), none, .field 1 (.tmp 9)⟩,
 ⟨(some 33), none, .load1 (.tmp 32)⟩,
 ⟨(some 34), none, .append 4 56 (.tmp 31) (.tmp 33)⟩,
 ⟨(some 5), none, .move (.tmp 34)⟩])))
 (.ops [⟨(some 35), none, .bin .add .none (.tmp 27) (.val (.int .i64 1))⟩,
 ⟨(some 27), none, .move (.tmp 35)⟩])))

def fn39_l1 : ACode :=
 .seq
 (.ops [⟨(some 21), none, .bin .lss .none (.tmp 20) (.tmp 19)⟩])
 (.seq
 (.cond (.tmp 21)
 (.skip)
 (.exit 0))
 (.seq
 (.block 1 (
 .seq
 (.ops [⟨(some 22), none, .indexList 3 (.tmp 18) (.tmp 20)⟩,
 ⟨(some 23), none, .loadN 3 (.tmp 22)⟩,
 ⟨(some 7), none, .alloc [(.str ⟨#[]⟩), (.int .i64 0), (.list [] (some none))]⟩,
 ⟨none, none, .store 3 (.tmp 7) (.tmp 23)⟩])
 (.seq
 (.ops [⟨(some 24), none, .field 2 (.tmp 7)⟩,
 ⟨(some 25), none, .load1 (.tmp 24)⟩,
 ⟨(some 26), none, .len .slice (.tmp 25)⟩,
 ⟨(some 27), none, .move (.val (.int .i64 0))⟩])
 (.frame [0, 3, 5, 18, 19, 20] (
 .block 2 (
 .gloop [0, 3, 5, 18, 19, 20, 25, 26, 27] fn39_l0))))))
 (.ops [⟨(some 36), none, .bin .add .none (.tmp 20) (.val (.int .i64 1))⟩,
 ⟨(some 20), none, .move (.tmp 36)⟩])))

def fn39_l2 : ACode :=
 .seq
 (.ops [⟨(some 49), none, .bin .lss .none (.tmp 48) (.tmp 47)⟩])
 (.seq
 (.cond (.tmp 49)
 (.skip)
 (.exit 6))
 (.seq
 (.block 7 (
 .seq
 (.ops [⟨(some 50), none, .indexList 5 (.tmp 46) (.tmp 48)⟩,
 ⟨(some 51), none, .loadN 5 (.tmp 50)⟩,
 ⟨(some 13), none, .alloc [(.str ⟨#[]⟩), (.int .i64 0), (.str ⟨#[]⟩), (.int .i64 0), (.list [] (some none))]⟩,
 ⟨none, none, .store 5 (.tmp 13) (.tmp 51)⟩])
 (.ops [⟨(some 52), none, .move (.tmp 5)⟩,
 ⟨(some 53), none, .field 1 (.tmp 13)⟩,
 ⟨(some 54), none, .loadN 4 (.tmp 53)⟩,
 ⟨(some 55), none, .buildSlice 4 [(.tmp 54)]⟩,
 ⟨(some 56), none, .append 4 56 (.tmp 52) (.tmp 55)⟩,
 ⟨(some 5), none, .move (.tmp 56)⟩])))
 (.ops [⟨(some 57), none, .bin .add .none (.tmp 48) (.val (.int .i64 1))⟩,
 ⟨(some 48), none, .move (.tmp 57)⟩])))

def fn39_l3 : ACode :=
 .seq
 (.ops [⟨(some 41), none, .bin .lss .none (.tmp 40) (.tmp 39)⟩])
 (.seq
 (.cond (.tmp 41)
 (.skip)
 (.exit 4))
 (.seq
 (.block 5 (
 .seq
 (.ops [⟨(some 42), none, .indexList 7 (.tmp 38) (.tmp 40)⟩,
 ⟨(some 43), none, .loadN 7 (.tmp 42)⟩,
 ⟨(some 11), none, .alloc [(.str ⟨#[]⟩), (.int .i64 0), (.list [] (some none)), (.int .i64 0), (.str ⟨#[]⟩), (.int .i64 0), (.list [] (some none))]⟩,
 ⟨none, none, .store 7 (.tmp 11) (.tmp 43)⟩])
 (.seq
 (.seq
 (.ops [⟨(some 44), none, .field 1 (.tmp 11)⟩,
 ⟨(some 45), none, .field 1 (.tmp 44)⟩,
 ⟨(some 46), none, .load1 (.tmp 45)⟩,
 ⟨(some 47), none, .len .slice (.tmp 46)⟩,
 ⟨(some 48), none, .move (.val (.int .i64 0))⟩])
 (.frame [0, 5, 11, 38, 39, 40] (
 .block 6 (
 .gloop [0, 5, 11, 38, 39, 40, 46, 47, 48] fn39_l2))))
 (.ops [⟨(some 58), none, .move (.tmp 5)⟩,
 ⟨(some 59), none, .field 1 (.tmp 11)⟩,
 ⟨(some 60), none, .field 2 (.tmp 59)⟩,
 ⟨(some 61), none, .loadN 4 (.tmp 60)⟩,
 ⟨(some 62), none, .buildSlice 4 [(.tmp 61)]⟩,
 ⟨(some 63), none, .append 4 56 (.tmp 58) (.tmp 62)⟩,
 ⟨(some 5), none, .move (.tmp 63)⟩]))))
 (.ops [⟨(some 64), none, .bin .add .none (.tmp 40) (.val (.int .i64 1))⟩,
 ⟨(some 40), none, .move (.tmp 64)⟩])))

def fn39_l4 : ACode :=
 .seq
 (.ops [⟨(some 68), none, .bin .lss .none (.tmp 67) (.tmp 66)⟩])
 (.seq
 (.cond (.tmp 68)
 (.skip)
 (.exit 8))
 (.seq
 (.block 9 (
 .seq
 (.ops [⟨(some 69), none, .indexList 4 (.tmp 65) (.tmp 67)⟩,
 ⟨(some 70), none, .loadN 4 (.tmp 69)⟩,
 ⟨(some 15), none, .alloc [(.int .i64 0), (.str ⟨#[]⟩), (.int .i64 0), (.list [] (some none))]⟩,
 ⟨none, none, .store 4 (.tmp 15) (.tmp 70)⟩])
 (.seq
 (.ops [⟨(some 71), none, .move (.tmp 0)⟩,
 ⟨(some 72), none, .loadN 4 (.tmp 15)⟩,
 ⟨(some 73), none, .pcall 61 [(.tmp 71), (.tmp 72)]⟩,
 ⟨(some 16), none, .move (.tmp 73)⟩])
 (.seq
 (.ops [⟨(some 74), none, .move (.tmp 16)⟩,
 ⟨(some 75), none, .bin .neq .none (.tmp 74) (.val (.int .i64 0))⟩])
 (.cond (.tmp 75)
 (.seq
 (.ops [⟨(some 76), none, .move (.tmp 16)⟩,
 ⟨(some 4), none, .move (.tmp 76)⟩])
 (.ret))
 (.skip))))))
 (.ops [⟨(some 77), none, .bin .add .none (.tmp 67) (.val (.int .i64 1))⟩,
 ⟨(some 67), none, .move (.tmp 77)⟩])))

def fn39 : AFn := .mk [.tmp 4] (
 .seq
 (.ops [⟨(some 3), none, .box (.tmp 1)⟩,
 ⟨(some 4), none, .move (.val (.int .i64 0))⟩])
 (.seq
 (.ops [⟨(some 5), none, .move (.val (.list [] (some none)))⟩])
 (.seq
 (.seq
 (.ops [⟨(some 17), none, .field 0 (.tmp 3)⟩,
 ⟨(some 18), none, .load1 (.tmp 17)⟩,
 ⟨(some 19), none, .len .slice (.tmp 18)⟩,
 ⟨(some 20), none, .move (.val (.int .i64 0))⟩])
 (.frame [0, 3, 5] (
 .block 0 (
 .gloop [0, 3, 5, 18, 19, 20] fn39_l1))))
 (.seq
 (.seq
 (.ops [⟨(some 37), none, .field 1 (.tmp 3)⟩,
 ⟨(some 38), none, .load1 (.tmp 37)⟩,
 ⟨(some 39), none, .len .slice (.tmp 38)⟩,
 ⟨(some 40), none, .move (.val (.int .i64 0))⟩])
 (.frame [0, 5] (
 .block 4 (
 .gloop [0, 5, 38, 39, 40] fn39_l3))))
 (.seq
 (.seq
 (.ops [⟨(some 65), none, .move (.tmp 5)⟩,
 ⟨(some 66), none, .len .slice (.tmp 65)⟩,
 ⟨(some 67), none, .move (.val (.int .i64 0))⟩])
 (.frame [4] (
 .block 8 (
 .gloop [0, 65, 66, 67] fn39_l4))))
 (.seq
 (.ops [⟨(some 4), none, .move (.val (.int .i64 0))⟩])
 (.ret)))))))

/-- provenance/signature.Check -/
def fn12_l0 : ACode :=
 .seq
 (.ops [⟨(some 23), none, .bin .lss .none (.tmp 22) (.tmp 21)⟩])
 (.seq
 (.cond (.tmp 23)
 (.skip)
 (.exit 0))
 (.seq
 (.block 1 (
 .seq
 (.ops [⟨(some 24), none, .move (.tmp 22)⟩,
 ⟨(some 25), none, .indexList 3 (.tmp 20) (.tmp 22)⟩,
 ⟨(some 26), none, .loadN 3 (.tmp 25)⟩,
 ⟨(some 4), none, .alloc [(.str ⟨#[]⟩), (.int .i64 0), (.list [] (some none))]⟩,
 ⟨(some 3), none, .move (.tmp 24)⟩,
 ⟨none, none, .store 3 (.tmp 4) (.tmp 26)⟩])
 (.seq
 (.seq
 (.ops [⟨(some 27), none, .loadN 3 (.tmp 4)⟩,
 ⟨(some 28), none, .pcall 37 [(.tmp 27)]⟩,
 ⟨(some 5), none, .move (.tmp 28)⟩])
 (.seq
 (.ops [⟨(some 29), none, .move (.tmp 5)⟩,
 ⟨(some 30), none, .bin .neq .none (.tmp 29) (.val (.int .i64 0))⟩])
 (.cond (.tmp 30)
 (.seq
 (.ops [⟨(some 31), none, .move (.tmp 5)⟩,
 ⟨(some 2), none, .move (.tmp 31)⟩])
 (.ret))
 (.skip))))
 (.seq
 (.draw [⟨(some 32), none, .move (.tmp 3)⟩,
 ⟨(some 33), none, .bin .gtr .none (.tmp 32) (.val (.int .i64 0))⟩,
 ⟨(some 34), none, .move (.tmp 33)⟩,
 ⟨(some 35), (some ((some 34), true)), .field 0 (.tmp 1)⟩,
 ⟨(some 36), (some ((some 34), true)), .load1 (.tmp 35)⟩,
 ⟨(some 37), (some ((some 34), true)), .move (.tmp 3)⟩,
 ⟨(some 38), (some ((some 34), true)), .bin .sub .none (.tmp 37) (.val (.int .i64 1))⟩,
 ⟨(some 39), (some ((some 34), true)), .indexList 3 (.tmp 36) (.tmp 38)⟩,
 ⟨(some 40), (some ((some 34), true)), .field 0 (.tmp 39)⟩,
 ⟨(some 41), (some ((some 34), true)), .load1 (.tmp 40)⟩,
 ⟨(some 42), (some ((some 34), true)), .field 0 (.tmp 4)⟩,
 ⟨(some 43), (some ((some 34), true)), .load1 (.tmp 42)⟩,
 ⟨(some 44), (some ((some 34), true)), .bin .geq .none (.tmp 41) (.tmp 43)⟩,
 ⟨(some 45), none, .pick (.tmp 34) (.tmp 44) (.val (.bool false))⟩]
 [])
 (.cond (.tmp 45)
 (.seq
 (.ops [⟨(some 2), none, .move (.val (.int .i64 7))⟩])
 (.ret))
 (.skip))))))
 (.ops [⟨(some 46), none, .bin .add .none (.tmp 22) (.val (.int .i64 1))⟩,
 ⟨(some 22), none, .move (.tmp 46)⟩])))

def fn12_l1 : ACode :=
 .seq
 (.ops [⟨(some 51), none, .bin .lss .none (.tmp 50) (.tmp 49)⟩])
 (.seq
 (.cond (.tmp 51)
 (.skip)
 (.exit 2))
 (.seq
 (.block 3 (
 .seq
 (.ops [⟨(some 52), none, .move (.tmp 50)⟩,
 ⟨(some 53), none, .indexList 7 (.tmp 48) (.tmp 50)⟩,
 ⟨(some 54), none, .loadN 7 (.tmp 53)⟩,
 ⟨(some 7), none, .alloc [(.str ⟨#[]⟩), (.int .i64 0), (.list [] (some none)), (.int .i64 0), (.str ⟨#[]⟩), (.int .i64 0), (.list [] (some none))]⟩,
 ⟨(some 6), none, .move (.tmp 52)⟩,
 ⟨none, none, .store 7 (.tmp 7) (.tmp 54)⟩])
 (.seq
 (.seq
 (.ops [⟨(some 55), none, .field 0 (.tmp 7)⟩,
 ⟨(some 56), none, .load1 (.tmp 55)⟩,
 ⟨(some 57), none, .pcall 29 [(.tmp 56)]⟩])
 (.cond (.tmp 57)
 (.seq
 (.ops [⟨(some 2), none, .move (.val (.int .i64 3))⟩])
 (.ret))
 (.skip)))
 (.seq
 (.seq
 (.ops [⟨(some 58), none, .field 1 (.tmp 7)⟩,
 ⟨(some 59), none, .loadN 6 (.tmp 58)⟩,
 ⟨(some 60), none, .pcall 38 [(.tmp 59)]⟩,
 ⟨(some 8), none, .move (.tmp 60)⟩])
 (.seq
 (.ops [⟨(some 61), none, .move (.tmp 8)⟩,
 ⟨(some 62), none, .bin .neq .none (.tmp 61) (.val (.int .i64 0))⟩])
 (.cond (.tmp 62)
 (.seq
 (.ops [⟨(some 63), none, .move (.tmp 8)⟩,
 ⟨(some 2), none, .move (.tmp 63)⟩])
 (.ret))
 (.skip))))
 (.seq
 (.draw [⟨(some 64), none, .move (.tmp 6)⟩,
 ⟨(some 65), none, .bin .gtr .none (.tmp 64) (.val (.int .i64 0))⟩,
 ⟨(some 66), none, .move (.tmp 65)⟩,
 ⟨(some 67), (some ((some 66), true)), .field 1 (.tmp 1)⟩,
 ⟨(some 68), (some ((some 66), true)), .load1 (.tmp 67)⟩,
 ⟨(some 69), (some ((some 66), true)), .move (.tmp 6)⟩,
 ⟨(some 70), (some ((some 66), true)), .bin .sub .none (.tmp 69) (.val (.int .i64 1))⟩,
 ⟨(some 71), (some ((some 66), true)), .indexList 7 (.tmp 68) (.tmp 70)⟩,
 ⟨(some 72), (some ((some 66), true)), .field 0 (.tmp 71)⟩,
 ⟨(some 73), (some ((some 66), true)), .load1 (.tmp 72)⟩,
 ⟨(some 74), (some ((some 66), true)), .field 0 (.tmp 7)⟩,
 ⟨(some 75), (some ((some 66), true)), .load1 (.tmp 74)⟩,
 ⟨(some 76), (some ((some 66), true)), .bin .geq .none (.tmp 73) (.tmp 75)⟩,
 ⟨(some 77), none, .pick (.tmp 66) (.tmp 76) (.val (.bool false))⟩]
 [])
 (.cond (.tmp 77)
 (.seq
 (.ops [⟨(some 2), none, .move (.val (.int .i64 7))⟩])
 (.ret))
 (.skip)))))))
 (.ops [⟨(some 78), none, .bin .add .none (.tmp 50) (.val (.int .i64 1))⟩,
 ⟨(some 50), none, .move (.tmp 78)⟩])))

def fn12 : AFn := .mk [.tmp 2] (
 .seq
 (.ops [⟨(some 1), none, .box (.tmp 0)⟩,
 ⟨(some 2), none, .move (.val (.int .i64 0))⟩])
 (.seq
 (.seq
 (.ops [⟨(some 9), none, .field 0 (.tmp 1)⟩,
 ⟨(some 10), none, .load1 (.tmp 9)⟩,
 ⟨(some 11), none, .len .slice (.tmp 10)⟩,
 ⟨(some 12), none, .bin .gtr .none (.tmp 11) (.val (.int .i64 40))⟩,
 ⟨(some 13), none, .move (.tmp 12)⟩,
 ⟨(some 14), (some ((some 13), false)), .field 1 (.tmp 1)⟩,
 ⟨(some 15), (some ((some 13), false)), .load1 (.tmp 14)⟩,
 ⟨(some 16), (some ((some 13), false)), .len .slice (.tmp 15)⟩,
 ⟨(some 17), (some ((some 13), false)), .bin .gtr .none (.tmp 16) (.val (.int .i64 40))⟩,
 ⟨(some 18), none, .pick (.tmp 13) (.val (.bool true)) (.tmp 17)⟩])
 (.cond (.tmp 18)
 (.seq
 (.ops [⟨(some 2), none, .move (.val (.int .i64 2))⟩])
 (.ret))
 (.skip)))
 (.seq
 (.seq
 (.ops [⟨(some 19), none, .field 0 (.tmp 1)⟩,
 ⟨(some 20), none, .load1 (.tmp 19)⟩,
 ⟨(some 21), none, .len .slice (.tmp 20)⟩,
 ⟨(some 22), none, .move (.val (.int .i64 0))⟩])
 (.frame [1, 2] (
 .block 0 (
 .gloop [1, 20, 21, 22] fn12_l0))))
 (.seq
 (.seq
 (.ops [⟨(some 47), none, .field 1 (.tmp 1)⟩,
 ⟨(some 48), none, .load1 (.tmp 47)⟩,
 ⟨(some 49), none, .len .slice (.tmp 48)⟩,
 ⟨(some 50), none, .move (.val (.int .i64 0))⟩])
 (.frame [1, 2] (
 .block 2 (
 .gloop [1, 48, 49, 50] fn12_l1))))
 (.seq
 (.ops [⟨(some 79), none, .field 0 (.tmp 1)⟩,
 ⟨(some 80), none, .load1 (.tmp 79)⟩,
 ⟨(some 81), none, .loadN 2 (.tmp 1)⟩,
 ⟨(some 82), none, .pcall 39 [(.tmp 80), (.tmp 81)]⟩,
 ⟨(some 2), none, .move (.tmp 82)⟩])
 (.ret))))))

/-- provenance/signature.Subst -/
def fn15_l0 : ACode :=
 .seq
 (.ops [⟨(some 21), none, .bin .lss .none (.tmp 20) (.tmp 19)⟩])
 (.seq
 (.cond (.tmp 21)
 (.skip)
 (.exit 0))
 (.seq
 (.block 1 (
 .seq
 (.ops [⟨(some 22), none, .indexList 4 (.tmp 18) (.tmp 20)⟩,
 ⟨(some 23), none, .loadN 4 (.tmp 22)⟩,
 ⟨(some 7), none, .alloc [(.int .i64 0), (.str ⟨#[]⟩), (.int .i64 0), (.list [] (some none))]⟩,
 ⟨none, none, .store 4 (.tmp 7) (.tmp 23)⟩])
 (.draw [⟨(some 24), none, .field 3 (.tmp 5)⟩,
 ⟨(some 25), none, .load1 (.tmp 24)⟩,
 ⟨(some 26), none, .loadN 4 (.tmp 7)⟩,
 ⟨(some 27), none, .move (.tmp 1)⟩,
 ⟨(some 28), none, .pcall 15 [(.tmp 26), (.tmp 27)]⟩,
 ⟨(some 29), none, .buildSlice 4 [(.tmp 28)]⟩,
 ⟨(some 30), none, .append 4 56 (.tmp 25) (.tmp 29)⟩,
 ⟨(some 31), none, .field 3 (.tmp 5)⟩,
 ⟨none, none, .store 1 (.tmp 31) (.tmp 30)⟩]
 [])))
 (.ops [⟨(some 32), none, .bin .add .none (.tmp 20) (.val (.int .i64 1))⟩,
 ⟨(some 20), none, .move (.tmp 32)⟩])))

def fn15_l1 : ACode :=
 .seq
 (.ops [⟨(some 39), none, .bin .lss .none (.tmp 38) (.tmp 37)⟩])
 (.seq
 (.cond (.tmp 39)
 (.skip)
 (.exit 2))
 (.seq
 (.block 3 (
 .seq
 (.ops [⟨(some 40), none, .indexList 5 (.tmp 36) (.tmp 38)⟩,
 ⟨(some 41), none, .loadN 5 (.tmp 40)⟩,
 ⟨(some 9), none, .alloc [(.str ⟨#[]⟩), (.int .i64 0), (.str ⟨#[]⟩), (.int .i64 0), (.list [] (some none))]⟩,
 ⟨none, none, .store 5 (.tmp 9) (.tmp 41)⟩])
 (.seq
 (.ops [⟨(some 42), none, .field 0 (.tmp 9)⟩,
 ⟨(some 43), none, .load1 (.tmp 42)⟩,
 ⟨(some 44), none, .field 1 (.tmp 2)⟩,
 ⟨(some 45), none, .load1 (.tmp 44)⟩,
 ⟨(some 46), none, .bin .eql .none (.tmp 43) (.tmp 45)⟩])
 (.cond (.tmp 46)
 (.seq
 (.ops [⟨(some 47), none, .field 1 (.tmp 9)⟩,
 ⟨(some 48), none, .loadN 4 (.tmp 47)⟩,
 ⟨(some 49), none, .field 3 (.tmp 5)⟩,
 ⟨(some 50), none, .load1 (.tmp 49)⟩,
 ⟨(some 51), none, .pcall 44 [(.tmp 48), (.tmp 50)]⟩,
 ⟨none, none, .store 4 (.tmp 4) (.tmp 51)⟩])
 (.ret))
 (.skip)))))
 (.ops [⟨(some 52), none, .bin .add .none (.tmp 38) (.val (.int .i64 1))⟩,
 ⟨(some 38), none, .move (.tmp 52)⟩])))

def fn15 : AFn := .mk [.cellN 4 4] (
 .seq
 (.ops [⟨(some 2), none, .box (.tmp 0)⟩,
 ⟨(some 4), none, .alloc [(.int .i64 0), (.str ⟨#[]⟩), (.int .i64 0), (.list [] (some none))]⟩])
 (.seq
 (.ops [⟨(some 10), none, .field 0 (.tmp 2)⟩,
 ⟨(some 11), none, .load1 (.tmp 10)⟩,
 ⟨(some 12), none, .field 1 (.tmp 2)⟩,
 ⟨(some 13), none, .load1 (.tmp 12)⟩,
 ⟨(some 14), none, .field 2 (.tmp 2)⟩,
 ⟨(some 15), none, .load1 (.tmp 14)⟩,
 ⟨(some 16), none, .build [(.int .i64 0), (.str ⟨#[]⟩), (.int .i64 0), (.list [] (some none))] [(0, 1, (.tmp 11)), (1, 1, (.tmp 13)), (2, 1, (.tmp 15))]⟩,
 ⟨(some 5), none, .alloc [(.int .i64 0), (.str ⟨#[]⟩), (.int .i64 0), (.list [] (some none))]⟩,
 ⟨none, none, .store 4 (.tmp 5) (.tmp 16)⟩])
 (.seq
 (.seq
 (.ops [⟨(some 17), none, .field 3 (.tmp 2)⟩,
 ⟨(some 18), none, .load1 (.tmp 17)⟩,
 ⟨(some 19), none, .len .slice (.tmp 18)⟩,
 ⟨(some 20), none, .move (.val (.int .i64 0))⟩])
 (.frame [1, 2, 4, 5] (
 .block 0 (
 .gloop [1, 2, 4, 5, 18, 19, 20] fn15_l0))))
 (.seq
 (.seq
 (.ops [⟨(some 33), none, .field 0 (.tmp 2)⟩,
 ⟨(some 34), none, .load1 (.tmp 33)⟩,
 ⟨(some 35), none, .bin .eql .none (.tmp 34) (.val (.int .i64 1))⟩])
 (.cond (.tmp 35)
 (.seq
 (.ops [⟨(some 36), none, .move (.tmp 1)⟩,
 ⟨(some 37), none, .len .slice (.tmp 36)⟩,
 ⟨(some 38), none, .move (.val (.int .i64 0))⟩])
 (.frame [4, 5] (
 .block 2 (
 .gloop [2, 4, 5, 36, 37, 38] fn15_l1))))
 (.skip)))
 (.seq
 (.ops [⟨(some 53), none, .loadN 4 (.tmp 5)⟩,
 ⟨none, none, .store 4 (.tmp 4) (.tmp 53)⟩])
 (.ret))))))

/-- provenance/signature.mapped -/
def fn36_l0 : ACode :=
 .seq
 (.ops [⟨(some 19), none, .bin .lss .none (.tmp 18) (.tmp 17)⟩])
 (.seq
 (.cond (.tmp 19)
 (.skip)
 (.exit 0))
 (.seq
 (.block 1 (
 .seq
 (.ops [⟨(some 20), none, .indexList 5 (.tmp 16) (.tmp 18)⟩,
 ⟨(some 21), none, .loadN 5 (.tmp 20)⟩,
 ⟨(some 7), none, .alloc [(.str ⟨#[]⟩), (.int .i64 0), (.str ⟨#[]⟩), (.int .i64 0), (.list [] (some none))]⟩,
 ⟨none, none, .store 5 (.tmp 7) (.tmp 21)⟩])
 (.draw [⟨(some 22), none, .field 1 (.tmp 5)⟩,
 ⟨(some 23), none, .load1 (.tmp 22)⟩,
 ⟨(some 24), none, .field 0 (.tmp 7)⟩,
 ⟨(some 25), none, .load1 (.tmp 24)⟩,
 ⟨(some 26), none, .field 1 (.tmp 7)⟩,
 ⟨(some 27), none, .loadN 4 (.tmp 26)⟩,
 ⟨(some 28), none, .move (.tmp 1)⟩,
 ⟨(some 29), none, .pcall 15 [(.tmp 27), (.tmp 28)]⟩,
 ⟨(some 30), none, .build [(.str ⟨#[]⟩), (.int .i64 0), (.str ⟨#[]⟩), (.int .i64 0), (.list [] (some none))] [(0, 1, (.tmp 25)), (1, 4, (.tmp 29))]⟩,
 ⟨(some 31), none, .buildSlice 5 [(.tmp 30)]⟩,
 ⟨(some 32), none, .append 5 72 (.tmp 23) (.tmp 31)⟩,
 ⟨(some 33), none, .field 1 (.tmp 5)⟩,
 ⟨none, none, .store 1 (.tmp 33) (.tmp 32)⟩]
 [])))
 (.ops [⟨(some 34), none, .bin .add .none (.tmp 18) (.val (.int .i64 1))⟩,
 ⟨(some 18), none, .move (.tmp 34)⟩])))

def fn36 : AFn := .mk [.cellN 6 4] (
 .seq
 (.ops [⟨(some 2), none, .box (.tmp 0)⟩,
 ⟨(some 4), none, .alloc [(.int .i64 0), (.list [] (some none)), (.int .i64 0), (.str ⟨#[]⟩), (.int .i64 0), (.list [] (some none))]⟩])
 (.seq
 (.draw [⟨(some 8), none, .field 0 (.tmp 2)⟩,
 ⟨(some 9), none, .load1 (.tmp 8)⟩,
 ⟨(some 10), none, .field 2 (.tmp 2)⟩,
 ⟨(some 11), none, .loadN 4 (.tmp 10)⟩,
 ⟨(some 12), none, .move (.tmp 1)⟩,
 ⟨(some 13), none, .pcall 15 [(.tmp 11), (.tmp 12)]⟩,
 ⟨(some 14), none, .build [(.int .i64 0), (.list [] (some none)), (.int .i64 0), (.str ⟨#[]⟩), (.int .i64 0), (.list [] (some none))] [(0, 1, (.tmp 9)), (2, 4, (.tmp 13))]⟩,
 ⟨(some 5), none, .alloc [(.int .i64 0), (.list [] (some none)), (.int .i64 0), (.str ⟨#[]⟩), (.int .i64 0), (.list [] (some none))]⟩,
 ⟨none, none, .store 6 (.tmp 5) (.tmp 14)⟩]
 [(1, 0, 1), (3, 0, 1)])
 (.seq
 (.seq
 (.ops [⟨(some 15), none, .field 1 (.tmp 2)⟩,
 ⟨(some 16), none, .load1 (.tmp 15)⟩,
 ⟨(some 17), none, .len .slice (.tmp 16)⟩,
 ⟨(some 18), none, .move (.val (.int .i64 0))⟩])
 (.frame [4, 5] (
 .block 0 (
 .gloop [1, 4, 5, 16, 17, 18] fn36_l0))))
 (.seq
 (.ops [⟨(some 35), none, .loadN 6 (.tmp 5)⟩,
 ⟨none, none, .store 6 (.tmp 4) (.tmp 35)⟩])
 (.ret)))))

/-- provenance/signature.variables -/
def fn53_l0 : ACode :=
 .seq
 (.ops [⟨(some 7), none, .bin .lss .none (.tmp 6) (.tmp 5)⟩])
 (.seq
 (.cond (.tmp 7)
 (.skip)
 (.exit 0))
 (.seq
 (.block 1 (
 .seq
 (.ops [⟨(some 8), none, .move (.tmp 6)⟩,
 ⟨(some 4), none, .move (.tmp 8)⟩])
 (.ops [⟨(some 9), none, .move (.tmp 3)⟩,
 ⟨(some 10), none, .move (.tmp 4)⟩,
 ⟨(some 11), none, .build [(.int .i64 0), (.str ⟨#[]⟩), (.int .i64 0), (.list [] (some none))] [(0, 1, (.val (.int .i64 0))), (2, 1, (.tmp 10))]⟩,
 ⟨(some 12), none, .buildSlice 4 [(.tmp 11)]⟩,
 ⟨(some 13), none, .append 4 56 (.tmp 9) (.tmp 12)⟩,
 ⟨(some 3), none, .move (.tmp 13)⟩])))
 (.ops [⟨(some 14), none, .bin .add .none (.tmp 6) (.val (.int .i64 1))⟩,
 ⟨(some 6), none, .move (.tmp 14)⟩])))

def fn53 : AFn := .mk [.tmp 2] (
 .seq
 (.ops [⟨(some 2), none, .move (.val (.list [] (some none)))⟩])
 (.seq
 (.ops [⟨(some 3), none, .move (.val (.list [] (some none)))⟩])
 (.seq
 (.seq
 (.ops [⟨(some 5), none, .move (.tmp 0)⟩,
 ⟨(some 6), none, .move (.val (.int .i64 0))⟩])
 (.frame [3] (
 .block 0 (
 .gloop [3, 5, 6] fn53_l0))))
 (.seq
 (.ops [⟨(some 15), none, .move (.tmp 3)⟩,
 ⟨(some 2), none, .move (.tmp 15)⟩])
 (.ret)))))

/-- provenance/signature.outer -/
def fn31_l0 : ACode :=
 .seq
 (.ops [⟨(some 12), none, .bin .lss .none (.tmp 11) (.tmp 10)⟩])
 (.seq
 (.cond (.tmp 12)
 (.skip)
 (.exit 0))
 (.seq
 (.block 1 (
 .seq
 (.ops [⟨(some 13), none, .indexList 3 (.tmp 9) (.tmp 11)⟩,
 ⟨(some 14), none, .loadN 3 (.tmp 13)⟩,
 ⟨(some 7), none, .alloc [(.str ⟨#[]⟩), (.int .i64 0), (.list [] (some none))]⟩,
 ⟨none, none, .store 3 (.tmp 7) (.tmp 14)⟩])
 (.draw [⟨(some 15), none, .move (.tmp 5)⟩,
 ⟨(some 16), none, .field 0 (.tmp 7)⟩,
 ⟨(some 17), none, .load1 (.tmp 16)⟩,
 ⟨(some 18), none, .move (.tmp 1)⟩,
 ⟨(some 19), none, .bin .add .none (.tmp 18) (.val (.str ⟨#[46]⟩))⟩,
 ⟨(some 20), none, .field 0 (.tmp 7)⟩,
 ⟨(some 21), none, .load1 (.tmp 20)⟩,
 ⟨(some 22), none, .bin .add .none (.tmp 19) (.tmp 21)⟩,
 ⟨(some 23), none, .field 1 (.tmp 7)⟩,
 ⟨(some 24), none, .load1 (.tmp 23)⟩,
 ⟨(some 25), none, .pcall 53 [(.tmp 24)]⟩,
 ⟨(some 26), none, .build [(.int .i64 0), (.str ⟨#[]⟩), (.int .i64 0), (.list [] (some none))] [(0, 1, (.val (.int .i64 1))), (1, 1, (.tmp 22)), (3, 1, (.tmp 25))]⟩,
 ⟨(some 27), none, .build [(.str ⟨#[]⟩), (.int .i64 0), (.str ⟨#[]⟩), (.int .i64 0), (.list [] (some none))] [(0, 1, (.tmp 17)), (1, 4, (.tmp 26))]⟩,
 ⟨(some 28), none, .buildSlice 5 [(.tmp 27)]⟩,
 ⟨(some 29), none, .append 5 72 (.tmp 15) (.tmp 28)⟩,
 ⟨(some 5), none, .move (.tmp 29)⟩]
 [])))
 (.ops [⟨(some 30), none, .bin .add .none (.tmp 11) (.val (.int .i64 1))⟩,
 ⟨(some 11), none, .move (.tmp 30)⟩])))

def fn31 : AFn := .mk [.tmp 4] (
 .seq
 (.ops [⟨(some 2), none, .box (.tmp 0)⟩,
 ⟨(some 4), none, .move (.val (.list [] (some none)))⟩])
 (.seq
 (.ops [⟨(some 5), none, .move (.val (.list [] (some none)))⟩])
 (.seq
 (.seq
 (.ops [⟨(some 8), none, .field 0 (.tmp 2)⟩,
 ⟨(some 9), none, .load1 (.tmp 8)⟩,
 ⟨(some 10), none, .len .slice (.tmp 9)⟩,
 ⟨(some 11), none, .move (.val (.int .i64 0))⟩])
 (.frame [5] (
 .block 0 (
 .gloop [1, 5, 9, 10, 11] fn31_l0))))
 (.seq
 (.ops [⟨(some 31), none, .move (.tmp 5)⟩,
 ⟨(some 4), none, .move (.tmp 31)⟩])
 (.ret)))))

/-- provenance/signature.types -/
def fn30_l0 : ACode :=
 .seq
 (.ops [⟨(some 17), none, .bin .lss .none (.tmp 16) (.tmp 15)⟩])
 (.seq
 (.cond (.tmp 17)
 (.skip)
 (.exit 0))
 (.seq
 (.block 1 (
 .seq
 (.ops [⟨(some 18), none, .indexList 3 (.tmp 14) (.tmp 16)⟩,
 ⟨(some 19), none, .loadN 3 (.tmp 18)⟩,
 ⟨(some 10), none, .alloc [(.str ⟨#[]⟩), (.int .i64 0), (.list [] (some none))]⟩,
 ⟨none, none, .store 3 (.tmp 10) (.tmp 19)⟩])
 (.seq
 (.ops [⟨(some 21), none, .field 0 (.tmp 3)⟩,
 ⟨(some 22), none, .load1 (.tmp 21)⟩,
 ⟨(some 23), none, .field 0 (.tmp 10)⟩,
 ⟨(some 24), none, .load1 (.tmp 23)⟩,
 ⟨(some 25), none, .pcall 49 [(.tmp 22), (.tmp 24)]⟩,
 ⟨(some 20), none, .move (.tmp 25)⟩,
 ⟨(some 26), none, .extract 0 (.tmp 20)⟩,
 ⟨(some 27), none, .extract 1 (.tmp 20)⟩,
 ⟨(some 11), none, .alloc [(.str ⟨#[]⟩), (.int .i64 0), (.list [] (some none))]⟩,
 ⟨none, none, .store 3 (.tmp 11) (.tmp 26)⟩,
 ⟨(some 12), none, .move (.tmp 27)⟩])
 (.seq
 (.block 2 (
 .seq
 (.ops [⟨(some 29), none, .move (.tmp 12)⟩,
 ⟨(some 30), none, .un .not (.tmp 29)⟩,
 ⟨(some 28), none, .move (.tmp 30)⟩])
 (.cond (.tmp 28)
 (.seq
 (.ops [⟨(some 6), none, .move (.val (.list [] (some none)))⟩,
 ⟨(some 7), none, .move (.val (.int .i64 6))⟩])
 (.ret))
 (.seq
 (.ops [⟨(some 32), none, .field 1 (.tmp 11)⟩,
 ⟨(some 33), none, .load1 (.tmp 32)⟩,
 ⟨(some 34), none, .field 1 (.tmp 10)⟩,
 ⟨(some 35), none, .load1 (.tmp 34)⟩,
 ⟨(some 36), none, .bin .neq .none (.tmp 33) (.tmp 35)⟩,
 ⟨(some 31), none, .move (.tmp 36)⟩])
 (.cond (.tmp 31)
 (.seq
 (.ops [⟨(some 6), none, .move (.val (.list [] (some none)))⟩,
 ⟨(some 7), none, .move (.val (.int .i64 9))⟩])
 (.ret))
 (.seq
 (.ops [⟨(some 38), none, .field 2 (.tmp 10)⟩,
 ⟨(some 39), none, .load1 (.tmp 38)⟩,
 ⟨(some 40), none, .len .slice (.tmp 39)⟩,
 ⟨(some 41), none, .bin .gtr .none (.tmp 40) (.val (.int .i64 0))⟩,
 ⟨(some 42), none, .move (.tmp 41)⟩,
 ⟨(some 43), (some ((some 42), true)), .field 2 (.tmp 11)⟩,
 ⟨(some 44), (some ((some 42), true)), .load1 (.tmp 43)⟩,
 ⟨(some 45), (some ((some 42), true)), .field 2 (.tmp 10)⟩,
 ⟨(some 46), (some ((some 42), true)), .load1 (.tmp 45)⟩,
 ⟨(some 47), (some ((some 42), true)), .call (.val (.func 51 [] [])) [(.tmp 44), (.tmp 46), (.val (.func 52 [] []))]⟩,
 ⟨(some 48), (some ((some 42), true)), .un .not (.tmp 47)⟩,
 ⟨(some 49), none, .pick (.tmp 42) (.tmp 48) (.val (.bool false))⟩,
 ⟨(some 37), none, .move (.tmp 49)⟩])
 (.cond (.tmp 37)
 (.seq
 (.ops [⟨(some 6), none, .move (.val (.list [] (some none)))⟩,
 ⟨(some 7), none, .move (.val (.int .i64 10))⟩])
 (.ret))
 (.skip))))))))
 (.draw [⟨(some 50), none, .move (.tmp 8)⟩,
 ⟨(some 51), none, .field 0 (.tmp 10)⟩,
 ⟨(some 52), none, .load1 (.tmp 51)⟩,
 ⟨(some 53), none, .move (.tmp 2)⟩,
 ⟨(some 54), none, .bin .add .none (.tmp 53) (.val (.str ⟨#[46]⟩))⟩,
 ⟨(some 55), none, .field 0 (.tmp 10)⟩,
 ⟨(some 56), none, .load1 (.tmp 55)⟩,
 ⟨(some 57), none, .bin .add .none (.tmp 54) (.tmp 56)⟩,
 ⟨(some 58), none, .field 1 (.tmp 10)⟩,
 ⟨(some 59), none, .load1 (.tmp 58)⟩,
 ⟨(some 60), none, .pcall 53 [(.tmp 59)]⟩,
 ⟨(some 61), none, .build [(.int .i64 0), (.str ⟨#[]⟩), (.int .i64 0), (.list [] (some none))] [(0, 1, (.val (.int .i64 1))), (1, 1, (.tmp 57)), (3, 1, (.tmp 60))]⟩,
 ⟨(some 62), none, .build [(.str ⟨#[]⟩), (.int .i64 0), (.str ⟨#[]⟩), (.int .i64 0), (.list [] (some none))] [(0, 1, (.tmp 52)), (1, 4, (.tmp 61))]⟩,
 ⟨(some 63), none, .buildSlice 5 [(.tmp 62)]⟩,
 ⟨(some 64), none, .append 5 72 (.tmp 50) (.tmp 63)⟩,
 ⟨(some 8), none, .move (.tmp 64)⟩]
 [])))))
 (.ops [⟨(some 65), none, .bin .add .none (.tmp 16) (.val (.int .i64 1))⟩,
 ⟨(some 16), none, .move (.tmp 65)⟩])))

def fn30 : AFn := .mk [.tmp 6, .tmp 7] (
 .seq
 (.ops [⟨(some 3), none, .box (.tmp 0)⟩,
 ⟨(some 4), none, .box (.tmp 1)⟩,
 ⟨(some 6), none, .move (.val (.list [] (some none)))⟩,
 ⟨(some 7), none, .move (.val (.int .i64 0))⟩])
 (.seq
 (.ops [⟨(some 8), none, .move (.val (.list [] (some none)))⟩])
 (.seq
 (.seq
 (.ops [⟨(some 13), none, .field 0 (.tmp 4)⟩,
 ⟨(some 14), none, .load1 (.tmp 13)⟩,
 ⟨(some 15), none, .len .slice (.tmp 14)⟩,
 ⟨(some 16), none, .move (.val (.int .i64 0))⟩])
 (.frame [6, 7, 8] (
 .block 0 (
 .gloop [2, 3, 8, 14, 15, 16] fn30_l0))))
 (.seq
 (.ops [⟨(some 66), none, .move (.tmp 8)⟩,
 ⟨(some 6), none, .move (.tmp 66)⟩,
 ⟨(some 7), none, .move (.val (.int .i64 0))⟩])
 (.ret)))))

end Go.Abs
/-
 The resolved code of some functions, as a program of ours prints it. Conditions: none.
-/
namespace Go.Abs

/-- (*provenance/signature.matcher).instance -/
def fn55 : AFn := .mk [.tmp 6] (
 .frame [6] (
 .seq
 (.ops [⟨(some 4), none, .box (.tmp 1)⟩,
 ⟨(some 5), none, .box (.tmp 2)⟩,
 ⟨(some 6), none, .move (.val (.bool false))⟩])
 (.seq
 (.seq
 (.ops [⟨(some 9), none, .field 0 (.tmp 4)⟩,
 ⟨(some 10), none, .load1 (.tmp 9)⟩,
 ⟨(some 11), none, .bin .eql .none (.tmp 10) (.val (.int .i64 0))⟩])
 (.cond (.tmp 11)
 (.seq
 (.seq
 (.draw [⟨(some 13), none, .move (.tmp 0)⟩,
 ⟨(some 14), none, .nilCheck (.tmp 13)⟩,
 ⟨(some 15), none, .field 0 (.tmp 14)⟩,
 ⟨(some 16), none, .load1 (.tmp 15)⟩,
 ⟨(some 17), none, .field 2 (.tmp 4)⟩,
 ⟨(some 18), none, .load1 (.tmp 17)⟩,
 ⟨(some 19), none, .lookup .int (.agg [(.int .i64 0), (.str ⟨#[]⟩), (.int .i64 0), (.list [] (some none))]) true (.tmp 16) (.tmp 18)⟩,
 ⟨(some 12), none, .move (.tmp 19)⟩,
 ⟨(some 20), none, .extract 0 (.tmp 12)⟩,
 ⟨(some 21), none, .extract 1 (.tmp 12)⟩,
 ⟨(some 7), none, .alloc [(.int .i64 0), (.str ⟨#[]⟩), (.int .i64 0), (.list [] (some none))]⟩,
 ⟨none, none, .store 4 (.tmp 7) (.tmp 20)⟩,
 ⟨(some 8), none, .move (.tmp 21)⟩]
 [(3, 0, 1), (5, 0, 1), (6, 0, 1)])
 (.seq
 (.ops [⟨(some 22), none, .move (.tmp 8)⟩])
 (.cond (.tmp 22)
 (.seq
 (.ops [⟨(some 23), none, .loadN 4 (.tmp 7)⟩,
 ⟨(some 24), none, .loadN 4 (.tmp 5)⟩,
 ⟨(some 25), none, .pcall 71 [(.tmp 23), (.tmp 24)]⟩,
 ⟨(some 6), none, .move (.tmp 25)⟩])
 (.ret))
 (.skip))))
 (.seq
 (.draw [⟨(some 26), none, .move (.tmp 0)⟩,
 ⟨(some 27), none, .nilCheck (.tmp 26)⟩,
 ⟨(some 28), none, .field 0 (.tmp 27)⟩,
 ⟨(some 29), none, .load1 (.tmp 28)⟩,
 ⟨(some 30), none, .field 2 (.tmp 4)⟩,
 ⟨(some 31), none, .load1 (.tmp 30)⟩,
 ⟨(some 32), none, .loadN 4 (.tmp 5)⟩,
 ⟨none, none, .mapUpdate .int (.tmp 29) (.tmp 31) (.tmp 32)⟩]
 [])
 (.seq
 (.ops [⟨(some 6), none, .move (.val (.bool true))⟩])
 (.ret))))
 (.skip)))
 (.seq
 (.seq
 (.ops [⟨(some 33), none, .field 0 (.tmp 4)⟩,
 ⟨(some 34), none, .load1 (.tmp 33)⟩,
 ⟨(some 35), none, .field 0 (.tmp 5)⟩,
 ⟨(some 36), none, .load1 (.tmp 35)⟩,
 ⟨(some 37), none, .bin .neq .none (.tmp 34) (.tmp 36)⟩,
 ⟨(some 38), none, .move (.tmp 37)⟩,
 ⟨(some 39), (some ((some 38), false)), .field 0 (.tmp 4)⟩,
 ⟨(some 40), (some ((some 38), false)), .load1 (.tmp 39)⟩,
 ⟨(some 41), (some ((some 38), false)), .bin .eql .none (.tmp 40) (.val (.int .i64 1))⟩,
 ⟨(some 42), (some ((some 38), false)), .move (.tmp 41)⟩,
 ⟨(some 43), (some ((some 42), false)), .field 0 (.tmp 4)⟩,
 ⟨(some 44), (some ((some 42), false)), .load1 (.tmp 43)⟩,
 ⟨(some 45), (some ((some 42), false)), .bin .eql .none (.tmp 44) (.val (.int .i64 5))⟩,
 ⟨(some 46), (some ((some 38), false)), .pick (.tmp 42) (.val (.bool true)) (.tmp 45)⟩,
 ⟨(some 47), (some ((some 38), false)), .move (.tmp 46)⟩,
 ⟨(some 48), (some ((some 47), true)), .field 1 (.tmp 4)⟩,
 ⟨(some 49), (some ((some 47), true)), .load1 (.tmp 48)⟩,
 ⟨(some 50), (some ((some 47), true)), .field 1 (.tmp 5)⟩,
 ⟨(some 51), (some ((some 47), true)), .load1 (.tmp 50)⟩,
 ⟨(some 52), (some ((some 47), true)), .bin .neq .none (.tmp 49) (.tmp 51)⟩,
 ⟨(some 53), (some ((some 38), false)), .pick (.tmp 47) (.tmp 52) (.val (.bool false))⟩,
 ⟨(some 54), none, .pick (.tmp 38) (.val (.bool true)) (.tmp 53)⟩])
 (.cond (.tmp 54)
 (.seq
 (.ops [⟨(some 6), none, .move (.val (.bool false))⟩])
 (.ret))
 (.skip)))
 (.seq
 (.freeze 59 (
 .ops [⟨(some 55), none, .field 3 (.tmp 4)⟩,
 ⟨(some 56), none, .load1 (.tmp 55)⟩,
 ⟨(some 57), none, .field 3 (.tmp 5)⟩,
 ⟨(some 58), none, .load1 (.tmp 57)⟩,
 ⟨(some 59), none, .move (.tmp 0)⟩,
 ⟨(some 60), none, .makeFunc 55 [(.tmp 59)] []⟩,
 ⟨(some 61), none, .call (.val (.func 70 [] [])) [(.tmp 56), (.tmp 58), (.tmp 60)]⟩,
 ⟨(some 6), none, .move (.tmp 61)⟩]))
 (.ret))))))

/-- provenance/signature.general.1 -/
def fn57_k0 : RangeK :=
 ⟨[⟨(some 11), none, .load1 (.tmp 1)⟩,
 ⟨(some 12), none, .nilCheck (.tmp 11)⟩,
 ⟨(some 13), none, .field 0 (.tmp 12)⟩,
 ⟨(some 14), none, .load1 (.tmp 13)⟩], (.tmp 14), 15, 16,
 [⟨(some 17), none, .extract 0 (.tmp 16)⟩], (.tmp 17), 0, 1, (some 18),
 [⟨(some 19), none, .extract 0 (.tmp 18)⟩,
 ⟨(some 20), none, .extract 1 (.tmp 18)⟩,
 ⟨(some 7), none, .alloc [(.int .i64 0), (.str ⟨#[]⟩), (.int .i64 0), (.list [] (some none))]⟩,
 ⟨(some 6), none, .move (.tmp 19)⟩,
 ⟨none, none, .store 4 (.tmp 7) (.tmp 20)⟩], false, [2, 3, 5, 15], [4]⟩

def fn57_b0 : ACode :=
 .draw [⟨(some 21), none, .move (.tmp 5)⟩,
 ⟨(some 22), none, .nilCheck (.tmp 21)⟩,
 ⟨(some 23), none, .field 0 (.tmp 22)⟩,
 ⟨(some 24), none, .load1 (.tmp 23)⟩,
 ⟨(some 25), none, .move (.tmp 6)⟩,
 ⟨(some 26), none, .loadN 4 (.tmp 7)⟩,
 ⟨none, none, .mapUpdate .int (.tmp 24) (.tmp 25) (.tmp 26)⟩]
 []

def fn57_a0 : ACode :=
 .seq
 (.ops [⟨(some 27), none, .field 0 (.tmp 3)⟩,
 ⟨(some 28), none, .load1 (.tmp 27)⟩,
 ⟨(some 29), none, .field 0 (.tmp 2)⟩,
 ⟨(some 30), none, .load1 (.tmp 29)⟩,
 ⟨(some 31), none, .bin .eql .none (.tmp 28) (.tmp 30)⟩,
 ⟨(some 32), none, .move (.tmp 31)⟩,
 ⟨(some 33), (some ((some 32), true)), .move (.tmp 5)⟩,
 ⟨(some 34), (some ((some 32), true)), .field 1 (.tmp 2)⟩,
 ⟨(some 35), (some ((some 32), true)), .loadN 4 (.tmp 34)⟩,
 ⟨(some 36), (some ((some 32), true)), .field 1 (.tmp 3)⟩,
 ⟨(some 37), (some ((some 32), true)), .loadN 4 (.tmp 36)⟩,
 ⟨(some 38), (some ((some 32), true)), .call (.val (.func 55 [] [])) [(.tmp 33), (.tmp 35), (.tmp 37)]⟩,
 ⟨(some 39), none, .pick (.tmp 32) (.tmp 38) (.val (.bool false))⟩,
 ⟨(some 4), none, .move (.tmp 39)⟩])
 (.ret)

def fn57 : AFn := .mk [.tmp 4] (
 .frame [4] (
 .seq
 (.ops [⟨(some 3), none, .box (.tmp 0)⟩,
 ⟨(some 4), none, .move (.val (.bool false))⟩])
 (.seq
 (.ops [⟨(some 8), none, .makeMap⟩,
 ⟨(some 9), none, .build [(.map none)] [(0, 1, (.tmp 8))]⟩,
 ⟨(some 10), none, .box (.tmp 9)⟩,
 ⟨(some 5), none, .move (.tmp 10)⟩])
 (.range fn57_k0 fn57_b0 fn57_a0))))

/-- provenance/signature.general -/
def fn35_l0 : ACode :=
 .seq
 (.ops [⟨(some 23), none, .bin .lss .none (.tmp 22) (.tmp 21)⟩])
 (.seq
 (.cond (.tmp 23)
 (.skip)
 (.exit 0))
 (.seq
 (.block 1 (
 .seq
 (.ops [⟨(some 24), none, .indexList 5 (.tmp 20) (.tmp 22)⟩,
 ⟨(some 25), none, .loadN 5 (.tmp 24)⟩,
 ⟨(some 7), none, .alloc [(.str ⟨#[]⟩), (.int .i64 0), (.str ⟨#[]⟩), (.int .i64 0), (.list [] (some none))]⟩,
 ⟨none, none, .store 5 (.tmp 7) (.tmp 25)⟩])
 (.seq
 (.freeze 5 (
 .freeze 7 (
 .ops [⟨(some 26), none, .field 1 (.tmp 3)⟩,
 ⟨(some 27), none, .load1 (.tmp 26)⟩,
 ⟨(some 28), none, .makeFunc 57 [] [(.tmp 5), (.tmp 7)]⟩,
 ⟨(some 29), none, .call (.val (.func 56 [] [])) [(.tmp 27), (.tmp 28)]⟩,
 ⟨(some 8), none, .move (.tmp 29)⟩])))
 (.seq
 (.ops [⟨(some 30), none, .move (.tmp 8)⟩,
 ⟨(some 31), none, .un .not (.tmp 30)⟩])
 (.cond (.tmp 31)
 (.seq
 (.ops [⟨(some 4), none, .move (.val (.bool false))⟩])
 (.ret))
 (.skip))))))
 (.ops [⟨(some 32), none, .bin .add .none (.tmp 22) (.val (.int .i64 1))⟩,
 ⟨(some 22), none, .move (.tmp 32)⟩])))

def fn35 : AFn := .mk [.tmp 4] (
 .seq
 (.ops [⟨(some 2), none, .box (.tmp 0)⟩,
 ⟨(some 3), none, .box (.tmp 1)⟩,
 ⟨(some 4), none, .move (.val (.bool false))⟩])
 (.seq
 (.ops [⟨(some 9), none, .makeMap⟩,
 ⟨(some 10), none, .build [(.map none)] [(0, 1, (.tmp 9))]⟩,
 ⟨(some 11), none, .box (.tmp 10)⟩,
 ⟨(some 5), none, .alloc [(.ptr none)]⟩,
 ⟨none, none, .store 1 (.tmp 5) (.tmp 11)⟩])
 (.seq
 (.seq
 (.ops [⟨(some 12), none, .load1 (.tmp 5)⟩,
 ⟨(some 13), none, .field 2 (.tmp 2)⟩,
 ⟨(some 14), none, .loadN 4 (.tmp 13)⟩,
 ⟨(some 15), none, .field 2 (.tmp 3)⟩,
 ⟨(some 16), none, .loadN 4 (.tmp 15)⟩,
 ⟨(some 17), none, .call (.val (.func 55 [] [])) [(.tmp 12), (.tmp 14), (.tmp 16)]⟩,
 ⟨(some 18), none, .un .not (.tmp 17)⟩])
 (.cond (.tmp 18)
 (.seq
 (.ops [⟨(some 4), none, .move (.val (.bool false))⟩])
 (.ret))
 (.skip)))
 (.seq
 (.seq
 (.ops [⟨(some 19), none, .field 1 (.tmp 2)⟩,
 ⟨(some 20), none, .load1 (.tmp 19)⟩,
 ⟨(some 21), none, .len .slice (.tmp 20)⟩,
 ⟨(some 22), none, .move (.val (.int .i64 0))⟩])
 (.frame [4] (
 .block 0 (
 .gloop [3, 5, 20, 21, 22] fn35_l0))))
 (.seq
 (.ops [⟨(some 4), none, .move (.val (.bool true))⟩])
 (.ret))))))

/-- provenance/signature.Match -/
def fn10_l0 : ACode :=
 .seq
 (.ops [⟨(some 46), none, .bin .lss .none (.tmp 45) (.tmp 44)⟩])
 (.seq
 (.cond (.tmp 46)
 (.skip)
 (.exit 0))
 (.seq
 (.block 1 (
 .seq
 (.ops [⟨(some 47), none, .indexList 7 (.tmp 43) (.tmp 45)⟩,
 ⟨(some 48), none, .loadN 7 (.tmp 47)⟩,
 ⟨(some 14), none, .alloc [(.str ⟨#[]⟩), (.int .i64 0), (.list [] (some none)), (.int .i64 0), (.str ⟨#[]⟩), (.int .i64 0), (.list [] (some none))]⟩,
 ⟨none, none, .store 7 (.tmp 14) (.tmp 48)⟩])
 (.seq
 (.ops [⟨(some 50), none, .field 1 (.tmp 3)⟩,
 ⟨(some 51), none, .load1 (.tmp 50)⟩,
 ⟨(some 52), none, .field 0 (.tmp 14)⟩,
 ⟨(some 53), none, .load1 (.tmp 52)⟩,
 ⟨(some 54), none, .call (.val (.func 32 [] [])) [(.tmp 51), (.tmp 53), (.val (.func 33 [] []))]⟩,
 ⟨(some 49), none, .move (.tmp 54)⟩,
 ⟨(some 55), none, .extract 0 (.tmp 49)⟩,
 ⟨(some 56), none, .extract 1 (.tmp 49)⟩,
 ⟨(some 15), none, .move (.tmp 55)⟩,
 ⟨(some 16), none, .move (.tmp 56)⟩])
 (.seq
 (.seq
 (.ops [⟨(some 57), none, .move (.tmp 16)⟩,
 ⟨(some 58), none, .un .not (.tmp 57)⟩])
 (.cond (.tmp 58)
 (.seq
 (.ops [⟨(some 6), none, .move (.val (.list [] (some none)))⟩,
 ⟨(some 7), none, .move (.val (.int .i64 6))⟩])
 (.ret))
 (.skip)))
 (.seq
 (.draw [⟨(some 59), none, .field 1 (.tmp 3)⟩,
 ⟨(some 60), none, .load1 (.tmp 59)⟩,
 ⟨(some 61), none, .move (.tmp 15)⟩,
 ⟨(some 62), none, .indexList 7 (.tmp 60) (.tmp 61)⟩,
 ⟨(some 63), none, .field 1 (.tmp 62)⟩,
 ⟨(some 64), none, .loadN 6 (.tmp 63)⟩,
 ⟨(some 65), none, .move (.tmp 12)⟩,
 ⟨(some 66), none, .pcall 36 [(.tmp 64), (.tmp 65)]⟩,
 ⟨(some 67), none, .field 1 (.tmp 14)⟩,
 ⟨(some 68), none, .loadN 6 (.tmp 67)⟩,
 ⟨(some 69), none, .move (.tmp 10)⟩,
 ⟨(some 70), none, .pcall 36 [(.tmp 68), (.tmp 69)]⟩,
 ⟨(some 71), none, .pcall 35 [(.tmp 66), (.tmp 70)]⟩,
 ⟨(some 72), none, .un .not (.tmp 71)⟩]
 [])
 (.cond (.tmp 72)
 (.seq
 (.ops [⟨(some 6), none, .move (.val (.list [] (some none)))⟩,
 ⟨(some 7), none, .move (.val (.int .i64 10))⟩])
 (.ret))
 (.skip)))))))
 (.ops [⟨(some 73), none, .bin .add .none (.tmp 45) (.val (.int .i64 1))⟩,
 ⟨(some 45), none, .move (.tmp 73)⟩])))

def fn10 : AFn := .mk [.tmp 6, .tmp 7] (
 .seq
 (.ops [⟨(some 3), none, .box (.tmp 0)⟩,
 ⟨(some 4), none, .box (.tmp 1)⟩,
 ⟨(some 6), none, .move (.val (.list [] (some none)))⟩,
 ⟨(some 7), none, .move (.val (.int .i64 0))⟩])
 (.seq
 (.seq
 (.ops [⟨(some 17), none, .loadN 2 (.tmp 3)⟩,
 ⟨(some 18), none, .pcall 12 [(.tmp 17)]⟩,
 ⟨(some 8), none, .move (.tmp 18)⟩])
 (.seq
 (.ops [⟨(some 19), none, .move (.tmp 8)⟩,
 ⟨(some 20), none, .bin .neq .none (.tmp 19) (.val (.int .i64 0))⟩])
 (.cond (.tmp 20)
 (.seq
 (.ops [⟨(some 21), none, .move (.tmp 8)⟩,
 ⟨(some 6), none, .move (.val (.list [] (some none)))⟩,
 ⟨(some 7), none, .move (.tmp 21)⟩])
 (.ret))
 (.skip))))
 (.seq
 (.seq
 (.ops [⟨(some 22), none, .loadN 2 (.tmp 4)⟩,
 ⟨(some 23), none, .pcall 12 [(.tmp 22)]⟩,
 ⟨(some 9), none, .move (.tmp 23)⟩])
 (.seq
 (.ops [⟨(some 24), none, .move (.tmp 9)⟩,
 ⟨(some 25), none, .bin .neq .none (.tmp 24) (.val (.int .i64 0))⟩])
 (.cond (.tmp 25)
 (.seq
 (.ops [⟨(some 26), none, .move (.tmp 9)⟩,
 ⟨(some 6), none, .move (.val (.list [] (some none)))⟩,
 ⟨(some 7), none, .move (.tmp 26)⟩])
 (.ret))
 (.skip))))
 (.seq
 (.seq
 (.ops [⟨(some 27), none, .move (.tmp 2)⟩,
 ⟨(some 28), none, .pcall 29 [(.tmp 27)]⟩])
 (.cond (.tmp 28)
 (.seq
 (.ops [⟨(some 6), none, .move (.val (.list [] (some none)))⟩,
 ⟨(some 7), none, .move (.val (.int .i64 3))⟩])
 (.ret))
 (.skip)))
 (.seq
 (.kops [⟨(some 30), none, .loadN 2 (.tmp 3)⟩,
 ⟨(some 31), none, .loadN 2 (.tmp 4)⟩,
 ⟨(some 32), none, .move (.tmp 2)⟩,
 ⟨(some 33), none, .pcall 30 [(.tmp 30), (.tmp 31), (.tmp 32)]⟩,
 ⟨(some 29), none, .move (.tmp 33)⟩,
 ⟨(some 34), none, .extract 0 (.tmp 29)⟩,
 ⟨(some 35), none, .extract 1 (.tmp 29)⟩,
 ⟨(some 10), none, .move (.tmp 34)⟩,
 ⟨(some 11), none, .move (.tmp 35)⟩])
 (.seq
 (.seq
 (.ops [⟨(some 36), none, .move (.tmp 11)⟩,
 ⟨(some 37), none, .bin .neq .none (.tmp 36) (.val (.int .i64 0))⟩])
 (.cond (.tmp 37)
 (.seq
 (.ops [⟨(some 38), none, .move (.tmp 11)⟩,
 ⟨(some 6), none, .move (.val (.list [] (some none)))⟩,
 ⟨(some 7), none, .move (.tmp 38)⟩])
 (.ret))
 (.skip)))
 (.seq
 (.ops [⟨(some 39), none, .loadN 2 (.tmp 3)⟩,
 ⟨(some 40), none, .move (.tmp 2)⟩,
 ⟨(some 41), none, .pcall 31 [(.tmp 39), (.tmp 40)]⟩,
 ⟨(some 12), none, .move (.tmp 41)⟩])
 (.seq
 (.seq
 (.ops [⟨(some 42), none, .field 1 (.tmp 4)⟩,
 ⟨(some 43), none, .load1 (.tmp 42)⟩,
 ⟨(some 44), none, .len .slice (.tmp 43)⟩,
 ⟨(some 45), none, .move (.val (.int .i64 0))⟩])
 (.frame [6, 7, 10] (
 .block 0 (
 .gloop [3, 10, 12, 43, 44, 45] fn10_l0))))
 (.seq
 (.ops [⟨(some 74), none, .move (.tmp 10)⟩,
 ⟨(some 6), none, .move (.tmp 74)⟩,
 ⟨(some 7), none, .move (.val (.int .i64 0))⟩])
 (.ret))))))))))

/-- provenance/provenancekeep2.signatureFact -/
def fn11 : AFn := .mk [.tmp 0] (
 .seq
 (.ops [⟨(some 0), none, .move (.val (.bool false))⟩])
 (.seq
 (.ops [⟨(some 4), none, .build [(.str ⟨#[]⟩), (.int .i64 0), (.list [] (some none))] [(0, 1, (.val (.str ⟨#[116]⟩)))]⟩,
 ⟨(some 5), none, .buildSlice 3 [(.tmp 4)]⟩,
 ⟨(some 6), none, .build [(.list [] (some none)), (.list [] (some none))] [(0, 1, (.tmp 5))]⟩,
 ⟨(some 1), none, .alloc [(.list [] (some none)), (.list [] (some none))]⟩,
 ⟨none, none, .store 2 (.tmp 1) (.tmp 6)⟩])
 (.seq
 (.ops [⟨(some 8), none, .loadN 2 (.tmp 1)⟩,
 ⟨(some 9), none, .loadN 2 (.tmp 1)⟩,
 ⟨(some 10), none, .pcall 10 [(.tmp 8), (.tmp 9), (.val (.str ⟨#[77]⟩))]⟩,
 ⟨(some 7), none, .move (.tmp 10)⟩,
 ⟨(some 11), none, .extract 0 (.tmp 7)⟩,
 ⟨(some 12), none, .extract 1 (.tmp 7)⟩,
 ⟨(some 2), none, .move (.tmp 11)⟩,
 ⟨(some 3), none, .move (.tmp 12)⟩])
 (.seq
 (.ops [⟨(some 13), none, .move (.tmp 3)⟩,
 ⟨(some 14), none, .bin .eql .none (.tmp 13) (.val (.int .i64 0))⟩,
 ⟨(some 15), none, .move (.tmp 14)⟩,
 ⟨(some 16), (some ((some 15), true)), .move (.tmp 2)⟩,
 ⟨(some 17), (some ((some 15), true)), .len .slice (.tmp 16)⟩,
 ⟨(some 18), (some ((some 15), true)), .bin .eql .none (.tmp 17) (.val (.int .i64 1))⟩,
 ⟨(some 19), none, .pick (.tmp 15) (.tmp 18) (.val (.bool false))⟩,
 ⟨(some 20), none, .move (.tmp 19)⟩,
 ⟨(some 21), (some ((some 20), true)), .move (.tmp 2)⟩,
 ⟨(some 22), (some ((some 20), true)), .indexList 5 (.tmp 21) (.val (.int .i64 0))⟩,
 ⟨(some 23), (some ((some 20), true)), .field 0 (.tmp 22)⟩,
 ⟨(some 24), (some ((some 20), true)), .load1 (.tmp 23)⟩,
 ⟨(some 25), (some ((some 20), true)), .bin .eql .none (.tmp 24) (.val (.str ⟨#[116]⟩))⟩,
 ⟨(some 26), none, .pick (.tmp 20) (.tmp 25) (.val (.bool false))⟩,
 ⟨(some 27), none, .move (.tmp 26)⟩,
 ⟨(some 28), (some ((some 27), true)), .move (.tmp 2)⟩,
 ⟨(some 29), (some ((some 27), true)), .indexList 5 (.tmp 28) (.val (.int .i64 0))⟩,
 ⟨(some 30), (some ((some 27), true)), .field 1 (.tmp 29)⟩,
 ⟨(some 31), (some ((some 27), true)), .field 1 (.tmp 30)⟩,
 ⟨(some 32), (some ((some 27), true)), .load1 (.tmp 31)⟩,
 ⟨(some 33), (some ((some 27), true)), .bin .eql .none (.tmp 32) (.val (.str ⟨#[77, 46, 116]⟩))⟩,
 ⟨(some 34), none, .pick (.tmp 27) (.tmp 33) (.val (.bool false))⟩,
 ⟨(some 0), none, .move (.tmp 34)⟩])
 (.ret)))))

/-- provenance/signature.General -/
def fn17 : AFn := .mk [.tmp 4, .tmp 5] (
 .seq
 (.ops [⟨(some 2), none, .box (.tmp 0)⟩,
 ⟨(some 3), none, .box (.tmp 1)⟩,
 ⟨(some 4), none, .move (.val (.bool false))⟩,
 ⟨(some 5), none, .move (.val (.int .i64 0))⟩])
 (.seq
 (.seq
 (.ops [⟨(some 8), none, .loadN 6 (.tmp 2)⟩,
 ⟨(some 9), none, .pcall 38 [(.tmp 8)]⟩,
 ⟨(some 6), none, .move (.tmp 9)⟩])
 (.seq
 (.ops [⟨(some 10), none, .move (.tmp 6)⟩,
 ⟨(some 11), none, .bin .neq .none (.tmp 10) (.val (.int .i64 0))⟩])
 (.cond (.tmp 11)
 (.seq
 (.ops [⟨(some 12), none, .move (.tmp 6)⟩,
 ⟨(some 4), none, .move (.val (.bool false))⟩,
 ⟨(some 5), none, .move (.tmp 12)⟩])
 (.ret))
 (.skip))))
 (.seq
 (.seq
 (.ops [⟨(some 13), none, .loadN 6 (.tmp 3)⟩,
 ⟨(some 14), none, .pcall 38 [(.tmp 13)]⟩,
 ⟨(some 7), none, .move (.tmp 14)⟩])
 (.seq
 (.ops [⟨(some 15), none, .move (.tmp 7)⟩,
 ⟨(some 16), none, .bin .neq .none (.tmp 15) (.val (.int .i64 0))⟩])
 (.cond (.tmp 16)
 (.seq
 (.ops [⟨(some 17), none, .move (.tmp 7)⟩,
 ⟨(some 4), none, .move (.val (.bool false))⟩,
 ⟨(some 5), none, .move (.tmp 17)⟩])
 (.ret))
 (.skip))))
 (.seq
 (.ops [⟨(some 18), none, .loadN 6 (.tmp 2)⟩,
 ⟨(some 19), none, .loadN 6 (.tmp 3)⟩,
 ⟨(some 20), none, .pcall 35 [(.tmp 18), (.tmp 19)]⟩,
 ⟨(some 4), none, .move (.tmp 20)⟩,
 ⟨(some 5), none, .move (.val (.int .i64 0))⟩])
 (.ret)))))

/-- provenance/provenancekeep2.replaced -/
def fn19_l0 : ACode :=
 .seq
 (.ops [⟨(some 21), none, .bin .lss .none (.tmp 20) (.tmp 19)⟩])
 (.seq
 (.cond (.tmp 21)
 (.skip)
 (.exit 0))
 (.seq
 (.block 1 (
 .seq
 (.ops [⟨(some 22), none, .indexList 4 (.tmp 18) (.tmp 20)⟩,
 ⟨(some 23), none, .loadN 4 (.tmp 22)⟩,
 ⟨(some 7), none, .alloc [(.int .i64 0), (.str ⟨#[]⟩), (.int .i64 0), (.list [] (some none))]⟩,
 ⟨none, none, .store 4 (.tmp 7) (.tmp 23)⟩])
 (.draw [⟨(some 24), none, .field 3 (.tmp 5)⟩,
 ⟨(some 25), none, .load1 (.tmp 24)⟩,
 ⟨(some 26), none, .loadN 4 (.tmp 7)⟩,
 ⟨(some 27), none, .loadN 4 (.tmp 3)⟩,
 ⟨(some 28), none, .pcall 19 [(.tmp 26), (.tmp 27)]⟩,
 ⟨(some 29), none, .buildSlice 4 [(.tmp 28)]⟩,
 ⟨(some 30), none, .append 4 56 (.tmp 25) (.tmp 29)⟩,
 ⟨(some 31), none, .field 3 (.tmp 5)⟩,
 ⟨none, none, .store 1 (.tmp 31) (.tmp 30)⟩]
 [])))
 (.ops [⟨(some 32), none, .bin .add .none (.tmp 20) (.val (.int .i64 1))⟩,
 ⟨(some 20), none, .move (.tmp 32)⟩])))

def fn19 : AFn := .mk [.cellN 4 4] (
 .seq
 (.ops [⟨(some 2), none, .box (.tmp 0)⟩,
 ⟨(some 3), none, .box (.tmp 1)⟩,
 ⟨(some 4), none, .alloc [(.int .i64 0), (.str ⟨#[]⟩), (.int .i64 0), (.list [] (some none))]⟩])
 (.seq
 (.seq
 (.ops [⟨(some 8), none, .field 0 (.tmp 2)⟩,
 ⟨(some 9), none, .load1 (.tmp 8)⟩,
 ⟨(some 10), none, .bin .eql .none (.tmp 9) (.val (.int .i64 0))⟩])
 (.cond (.tmp 10)
 (.seq
 (.ops [⟨(some 11), none, .loadN 4 (.tmp 3)⟩,
 ⟨none, none, .store 4 (.tmp 4) (.tmp 11)⟩])
 (.ret))
 (.skip)))
 (.seq
 (.ops [⟨(some 12), none, .field 0 (.tmp 2)⟩,
 ⟨(some 13), none, .load1 (.tmp 12)⟩,
 ⟨(some 14), none, .field 1 (.tmp 2)⟩,
 ⟨(some 15), none, .load1 (.tmp 14)⟩,
 ⟨(some 16), none, .build [(.int .i64 0), (.str ⟨#[]⟩), (.int .i64 0), (.list [] (some none))] [(0, 1, (.tmp 13)), (1, 1, (.tmp 15))]⟩,
 ⟨(some 5), none, .alloc [(.int .i64 0), (.str ⟨#[]⟩), (.int .i64 0), (.list [] (some none))]⟩,
 ⟨none, none, .store 4 (.tmp 5) (.tmp 16)⟩])
 (.seq
 (.seq
 (.ops [⟨(some 17), none, .field 3 (.tmp 2)⟩,
 ⟨(some 18), none, .load1 (.tmp 17)⟩,
 ⟨(some 19), none, .len .slice (.tmp 18)⟩,
 ⟨(some 20), none, .move (.val (.int .i64 0))⟩])
 (.frame [4, 5] (
 .block 0 (
 .gloop [3, 4, 5, 18, 19, 20] fn19_l0))))
 (.seq
 (.ops [⟨(some 33), none, .loadN 4 (.tmp 5)⟩,
 ⟨none, none, .store 4 (.tmp 4) (.tmp 33)⟩])
 (.ret))))))

/-- provenance/provenancekeep2.mentions -/
def fn13 : AFn := .mk [.tmp 4] (
 .seq
 (.ops [⟨(some 2), none, .box (.tmp 0)⟩,
 ⟨(some 3), none, .box (.tmp 1)⟩,
 ⟨(some 4), none, .move (.val (.bool false))⟩])
 (.seq
 (.seq
 (.freeze 2 (
 .ops [⟨(some 5), none, .field 0 (.tmp 2)⟩,
 ⟨(some 6), none, .load1 (.tmp 5)⟩,
 ⟨(some 7), none, .bin .eql .none (.tmp 6) (.val (.int .i64 1))⟩,
 ⟨(some 8), none, .move (.tmp 7)⟩,
 ⟨(some 9), (some ((some 8), true)), .load1 (.tmp 3)⟩,
 ⟨(some 10), (some ((some 8), true)), .makeFunc 41 [] [(.tmp 2)]⟩,
 ⟨(some 11), (some ((some 8), true)), .call (.val (.func 40 [] [])) [(.tmp 9), (.tmp 10)]⟩,
 ⟨(some 12), none, .pick (.tmp 8) (.tmp 11) (.val (.bool false))⟩]))
 (.cond (.tmp 12)
 (.seq
 (.ops [⟨(some 4), none, .move (.val (.bool true))⟩])
 (.ret))
 (.skip)))
 (.seq
 (.freeze 3 (
 .ops [⟨(some 13), none, .field 3 (.tmp 2)⟩,
 ⟨(some 14), none, .load1 (.tmp 13)⟩,
 ⟨(some 15), none, .makeFunc 43 [] [(.tmp 3)]⟩,
 ⟨(some 16), none, .call (.val (.func 42 [] [])) [(.tmp 14), (.tmp 15)]⟩,
 ⟨(some 4), none, .move (.tmp 16)⟩]))
 (.ret))))

/-- provenance/provenancekeep2.mentions.1 -/
def fn41 : AFn := .mk [.tmp 3] (
 .seq
 (.ops [⟨(some 2), none, .box (.tmp 0)⟩,
 ⟨(some 3), none, .move (.val (.bool false))⟩])
 (.seq
 (.ops [⟨(some 4), none, .field 0 (.tmp 2)⟩,
 ⟨(some 5), none, .load1 (.tmp 4)⟩,
 ⟨(some 6), none, .field 1 (.tmp 1)⟩,
 ⟨(some 7), none, .load1 (.tmp 6)⟩,
 ⟨(some 8), none, .bin .eql .none (.tmp 5) (.tmp 7)⟩,
 ⟨(some 3), none, .move (.tmp 8)⟩])
 (.ret)))

/-- provenance/provenancekeep2.mentions.2 -/
def fn43 : AFn := .mk [.tmp 3] (
 .seq
 (.ops [⟨(some 2), none, .box (.tmp 0)⟩,
 ⟨(some 3), none, .move (.val (.bool false))⟩])
 (.seq
 (.ops [⟨(some 4), none, .loadN 4 (.tmp 2)⟩,
 ⟨(some 5), none, .load1 (.tmp 1)⟩,
 ⟨(some 6), none, .pcall 13 [(.tmp 4), (.tmp 5)]⟩,
 ⟨(some 3), none, .move (.tmp 6)⟩])
 (.ret)))

/-- provenance/provenanceref2.SameType -/
def fn16 : AFn := .mk [.tmp 4] (
 .seq
 (.ops [⟨(some 2), none, .box (.tmp 0)⟩,
 ⟨(some 3), none, .box (.tmp 1)⟩,
 ⟨(some 4), none, .move (.val (.bool false))⟩])
 (.seq
 (.draw [⟨(some 5), none, .loadN 4 (.tmp 2)⟩,
 ⟨(some 6), none, .pcall 45 [(.tmp 5)]⟩,
 ⟨(some 7), none, .loadN 4 (.tmp 3)⟩,
 ⟨(some 8), none, .pcall 45 [(.tmp 7)]⟩,
 ⟨(some 9), none, .bin .eql .none (.tmp 6) (.tmp 8)⟩,
 ⟨(some 4), none, .move (.tmp 9)⟩]
 [])
 (.ret)))

/-- provenance/provenanceref2.num -/
def fn64 : AFn := .mk [.tmp 2] (
 .seq
 (.ops [⟨(some 2), none, .move (.val (.str ⟨#[]⟩))⟩])
 (.seq
 (.seq
 (.ops [⟨(some 3), none, .move (.tmp 0)⟩,
 ⟨(some 4), none, .bin .leq .none (.tmp 3) (.val (.int .i64 (-10)))⟩])
 (.cond (.tmp 4)
 (.seq
 (.ops [⟨(some 5), none, .move (.tmp 0)⟩,
 ⟨(some 6), none, .bin .quo .none (.tmp 5) (.val (.int .i64 10))⟩,
 ⟨(some 7), none, .pcall 64 [(.tmp 6)]⟩,
 ⟨(some 8), none, .move (.tmp 0)⟩,
 ⟨(some 9), none, .bin .rem .none (.tmp 8) (.val (.int .i64 10))⟩,
 ⟨(some 10), none, .un .neg (.tmp 9)⟩,
 ⟨(some 11), none, .pcall 64 [(.tmp 10)]⟩,
 ⟨(some 12), none, .bin .add .none (.tmp 7) (.tmp 11)⟩,
 ⟨(some 2), none, .move (.tmp 12)⟩])
 (.ret))
 (.skip)))
 (.seq
 (.seq
 (.ops [⟨(some 13), none, .move (.tmp 0)⟩,
 ⟨(some 14), none, .bin .lss .none (.tmp 13) (.val (.int .i64 0))⟩])
 (.cond (.tmp 14)
 (.seq
 (.ops [⟨(some 15), none, .move (.tmp 0)⟩,
 ⟨(some 16), none, .un .neg (.tmp 15)⟩,
 ⟨(some 17), none, .pcall 64 [(.tmp 16)]⟩,
 ⟨(some 18), none, .bin .add .none (.val (.str ⟨#[45]⟩)) (.tmp 17)⟩,
 ⟨(some 2), none, .move (.tmp 18)⟩])
 (.ret))
 (.skip)))
 (.seq
 (.seq
 (.ops [⟨(some 19), none, .move (.tmp 0)⟩,
 ⟨(some 20), none, .bin .lss .none (.tmp 19) (.val (.int .i64 10))⟩])
 (.cond (.tmp 20)
 (.seq
 (.ops [⟨(some 21), none, .move (.tmp 0)⟩,
 ⟨(some 22), none, .move (.tmp 0)⟩,
 ⟨(some 23), none, .bin .add .none (.tmp 22) (.val (.int .i64 1))⟩,
 ⟨(some 24), none, .sliceStr (.val (.str ⟨#[48, 49, 50, 51, 52, 53, 54, 55, 56, 57]⟩)) (some (.tmp 21)) (some (.tmp 23))⟩,
 ⟨(some 2), none, .move (.tmp 24)⟩])
 (.ret))
 (.skip)))
 (.seq
 (.ops [⟨(some 25), none, .move (.tmp 0)⟩,
 ⟨(some 26), none, .bin .quo .none (.tmp 25) (.val (.int .i64 10))⟩,
 ⟨(some 27), none, .pcall 64 [(.tmp 26)]⟩,
 ⟨(some 28), none, .move (.tmp 0)⟩,
 ⟨(some 29), none, .bin .rem .none (.tmp 28) (.val (.int .i64 10))⟩,
 ⟨(some 30), none, .pcall 64 [(.tmp 29)]⟩,
 ⟨(some 31), none, .bin .add .none (.tmp 27) (.tmp 30)⟩,
 ⟨(some 2), none, .move (.tmp 31)⟩])
 (.ret))))))

/-- provenance/provenanceref2.TypeText -/
def fn45_l0 : ACode :=
 .seq
 (.ops [⟨(some 40), none, .bin .lss .none (.tmp 39) (.tmp 38)⟩])
 (.seq
 (.cond (.tmp 40)
 (.skip)
 (.exit 0))
 (.seq
 (.block 1 (
 .seq
 (.ops [⟨(some 41), none, .indexList 4 (.tmp 37) (.tmp 39)⟩,
 ⟨(some 42), none, .loadN 4 (.tmp 41)⟩,
 ⟨(some 5), none, .alloc [(.int .i64 0), (.str ⟨#[]⟩), (.int .i64 0), (.list [] (some none))]⟩,
 ⟨none, none, .store 4 (.tmp 5) (.tmp 42)⟩])
 (.ops [⟨(some 43), none, .move (.tmp 3)⟩,
 ⟨(some 44), none, .loadN 4 (.tmp 5)⟩,
 ⟨(some 45), none, .pcall 45 [(.tmp 44)]⟩,
 ⟨(some 46), none, .bin .add .none (.val (.str ⟨#[59]⟩)) (.tmp 45)⟩,
 ⟨(some 47), none, .bin .add .none (.tmp 43) (.tmp 46)⟩,
 ⟨(some 3), none, .move (.tmp 47)⟩])))
 (.ops [⟨(some 48), none, .bin .add .none (.tmp 39) (.val (.int .i64 1))⟩,
 ⟨(some 39), none, .move (.tmp 48)⟩])))

def fn45 : AFn := .mk [.tmp 2] (
 .seq
 (.ops [⟨(some 1), none, .box (.tmp 0)⟩,
 ⟨(some 2), none, .move (.val (.str ⟨#[]⟩))⟩])
 (.seq
 (.ops [⟨(some 6), none, .field 0 (.tmp 1)⟩,
 ⟨(some 7), none, .load1 (.tmp 6)⟩,
 ⟨(some 8), none, .pcall 64 [(.tmp 7)]⟩,
 ⟨(some 9), none, .bin .add .none (.tmp 8) (.val (.str ⟨#[60]⟩))⟩,
 ⟨(some 3), none, .move (.tmp 9)⟩])
 (.seq
 (.seq
 (.ops [⟨(some 10), none, .field 0 (.tmp 1)⟩,
 ⟨(some 11), none, .load1 (.tmp 10)⟩,
 ⟨(some 12), none, .bin .eql .none (.tmp 11) (.val (.int .i64 0))⟩])
 (.cond (.tmp 12)
 (.ops [⟨(some 13), none, .move (.tmp 3)⟩,
 ⟨(some 14), none, .field 2 (.tmp 1)⟩,
 ⟨(some 15), none, .load1 (.tmp 14)⟩,
 ⟨(some 16), none, .pcall 64 [(.tmp 15)]⟩,
 ⟨(some 17), none, .bin .add .none (.tmp 13) (.tmp 16)⟩,
 ⟨(some 3), none, .move (.tmp 17)⟩])
 (.skip)))
 (.seq
 (.seq
 (.ops [⟨(some 18), none, .field 0 (.tmp 1)⟩,
 ⟨(some 19), none, .load1 (.tmp 18)⟩,
 ⟨(some 20), none, .bin .eql .none (.tmp 19) (.val (.int .i64 1))⟩,
 ⟨(some 21), none, .move (.tmp 20)⟩,
 ⟨(some 22), (some ((some 21), false)), .field 0 (.tmp 1)⟩,
 ⟨(some 23), (some ((some 21), false)), .load1 (.tmp 22)⟩,
 ⟨(some 24), (some ((some 21), false)), .bin .eql .none (.tmp 23) (.val (.int .i64 5))⟩,
 ⟨(some 25), none, .pick (.tmp 21) (.val (.bool true)) (.tmp 24)⟩])
 (.cond (.tmp 25)
 (.draw [⟨(some 26), none, .move (.tmp 3)⟩,
 ⟨(some 27), none, .field 1 (.tmp 1)⟩,
 ⟨(some 28), none, .load1 (.tmp 27)⟩,
 ⟨(some 29), none, .len .str (.tmp 28)⟩,
 ⟨(some 30), none, .pcall 64 [(.tmp 29)]⟩,
 ⟨(some 31), none, .bin .add .none (.tmp 30) (.val (.str ⟨#[58]⟩))⟩,
 ⟨(some 32), none, .field 1 (.tmp 1)⟩,
 ⟨(some 33), none, .load1 (.tmp 32)⟩,
 ⟨(some 34), none, .bin .add .none (.tmp 31) (.tmp 33)⟩,
 ⟨(some 35), none, .bin .add .none (.tmp 26) (.tmp 34)⟩,
 ⟨(some 3), none, .move (.tmp 35)⟩]
 [])
 (.skip)))
 (.seq
 (.seq
 (.ops [⟨(some 36), none, .field 3 (.tmp 1)⟩,
 ⟨(some 37), none, .load1 (.tmp 36)⟩,
 ⟨(some 38), none, .len .slice (.tmp 37)⟩,
 ⟨(some 39), none, .move (.val (.int .i64 0))⟩])
 (.frame [3] (
 .block 0 (
 .gloop [3, 37, 38, 39] fn45_l0))))
 (.seq
 (.ops [⟨(some 49), none, .move (.tmp 3)⟩,
 ⟨(some 50), none, .bin .add .none (.tmp 49) (.val (.str ⟨#[62]⟩))⟩,
 ⟨(some 2), none, .move (.tmp 50)⟩])
 (.ret)))))))

/-- provenance/signature.CheckFunctor -/
def fn28_l0 : ACode :=
 .seq
 (.ops [⟨(some 29), none, .bin .lss .none (.tmp 28) (.tmp 27)⟩])
 (.seq
 (.cond (.tmp 29)
 (.skip)
 (.exit 0))
 (.seq
 (.block 1 (
 .seq
 (.ops [⟨(some 30), none, .indexList 3 (.tmp 26) (.tmp 28)⟩,
 ⟨(some 31), none, .loadN 3 (.tmp 30)⟩,
 ⟨(some 6), none, .alloc [(.str ⟨#[]⟩), (.int .i64 0), (.list [] (some none))]⟩,
 ⟨none, none, .store 3 (.tmp 6) (.tmp 31)⟩])
 (.seq
 (.ops [⟨(some 33), none, .field 1 (.tmp 1)⟩,
 ⟨(some 34), none, .field 0 (.tmp 33)⟩,
 ⟨(some 35), none, .load1 (.tmp 34)⟩,
 ⟨(some 36), none, .field 0 (.tmp 6)⟩,
 ⟨(some 37), none, .load1 (.tmp 36)⟩,
 ⟨(some 38), none, .pcall 49 [(.tmp 35), (.tmp 37)]⟩,
 ⟨(some 32), none, .move (.tmp 38)⟩,
 ⟨(some 39), none, .extract 0 (.tmp 32)⟩,
 ⟨(some 40), none, .extract 1 (.tmp 32)⟩,
 ⟨(some 7), none, .alloc [(.str ⟨#[]⟩), (.int .i64 0), (.list [] (some none))]⟩,
 ⟨none, none, .store 3 (.tmp 7) (.tmp 39)⟩,
 ⟨(some 8), none, .move (.tmp 40)⟩])
 (.seq
 (.ops [⟨(some 41), none, .move (.tmp 8)⟩])
 (.cond (.tmp 41)
 (.seq
 (.ops [⟨(some 2), none, .move (.val (.int .i64 7))⟩])
 (.ret))
 (.skip))))))
 (.ops [⟨(some 42), none, .bin .add .none (.tmp 28) (.val (.int .i64 1))⟩,
 ⟨(some 28), none, .move (.tmp 42)⟩])))

def fn28 : AFn := .mk [.tmp 2] (
 .seq
 (.ops [⟨(some 1), none, .box (.tmp 0)⟩,
 ⟨(some 2), none, .move (.val (.int .i64 0))⟩])
 (.seq
 (.seq
 (.ops [⟨(some 9), none, .field 0 (.tmp 1)⟩,
 ⟨(some 10), none, .load1 (.tmp 9)⟩,
 ⟨(some 11), none, .pcall 29 [(.tmp 10)]⟩])
 (.cond (.tmp 11)
 (.seq
 (.ops [⟨(some 2), none, .move (.val (.int .i64 3))⟩])
 (.ret))
 (.skip)))
 (.seq
 (.seq
 (.ops [⟨(some 12), none, .field 1 (.tmp 1)⟩,
 ⟨(some 13), none, .loadN 2 (.tmp 12)⟩,
 ⟨(some 14), none, .pcall 12 [(.tmp 13)]⟩,
 ⟨(some 3), none, .move (.tmp 14)⟩])
 (.seq
 (.ops [⟨(some 15), none, .move (.tmp 3)⟩,
 ⟨(some 16), none, .bin .neq .none (.tmp 15) (.val (.int .i64 0))⟩])
 (.cond (.tmp 16)
 (.seq
 (.ops [⟨(some 17), none, .move (.tmp 3)⟩,
 ⟨(some 2), none, .move (.tmp 17)⟩])
 (.ret))
 (.skip))))
 (.seq
 (.seq
 (.ops [⟨(some 18), none, .field 3 (.tmp 1)⟩,
 ⟨(some 19), none, .loadN 2 (.tmp 18)⟩,
 ⟨(some 20), none, .pcall 12 [(.tmp 19)]⟩,
 ⟨(some 4), none, .move (.tmp 20)⟩])
 (.seq
 (.ops [⟨(some 21), none, .move (.tmp 4)⟩,
 ⟨(some 22), none, .bin .neq .none (.tmp 21) (.val (.int .i64 0))⟩])
 (.cond (.tmp 22)
 (.seq
 (.ops [⟨(some 23), none, .move (.tmp 4)⟩,
 ⟨(some 2), none, .move (.tmp 23)⟩])
 (.ret))
 (.skip))))
 (.seq
 (.seq
 (.ops [⟨(some 24), none, .field 3 (.tmp 1)⟩,
 ⟨(some 25), none, .field 0 (.tmp 24)⟩,
 ⟨(some 26), none, .load1 (.tmp 25)⟩,
 ⟨(some 27), none, .len .slice (.tmp 26)⟩,
 ⟨(some 28), none, .move (.val (.int .i64 0))⟩])
 (.frame [1, 2] (
 .block 0 (
 .gloop [1, 26, 27, 28] fn28_l0))))
 (.seq
 (.ops [⟨(some 43), none, .field 1 (.tmp 1)⟩,
 ⟨(some 44), none, .field 0 (.tmp 43)⟩,
 ⟨(some 45), none, .load1 (.tmp 44)⟩,
 ⟨(some 46), none, .field 3 (.tmp 1)⟩,
 ⟨(some 47), none, .loadN 2 (.tmp 46)⟩,
 ⟨(some 48), none, .pcall 39 [(.tmp 45), (.tmp 47)]⟩,
 ⟨(some 2), none, .move (.tmp 48)⟩])
 (.ret)))))))

/-- provenance/signature.Apply -/
def fn26_l0 : ACode :=
 .seq
 (.ops [⟨(some 98), none, .bin .lss .none (.tmp 97) (.tmp 96)⟩])
 (.seq
 (.cond (.tmp 98)
 (.skip)
 (.exit 4))
 (.seq
 (.block 5 (
 .seq
 (.ops [⟨(some 99), none, .indexList 4 (.tmp 95) (.tmp 97)⟩,
 ⟨(some 100), none, .loadN 4 (.tmp 99)⟩,
 ⟨(some 22), none, .alloc [(.int .i64 0), (.str ⟨#[]⟩), (.int .i64 0), (.list [] (some none))]⟩,
 ⟨none, none, .store 4 (.tmp 22) (.tmp 100)⟩])
 (.draw [⟨(some 101), none, .field 1 (.tmp 20)⟩,
 ⟨(some 102), none, .load1 (.tmp 101)⟩,
 ⟨(some 103), none, .loadN 4 (.tmp 22)⟩,
 ⟨(some 104), none, .move (.tmp 11)⟩,
 ⟨(some 105), none, .pcall 15 [(.tmp 103), (.tmp 104)]⟩,
 ⟨(some 106), none, .buildSlice 4 [(.tmp 105)]⟩,
 ⟨(some 107), none, .append 4 56 (.tmp 102) (.tmp 106)⟩,
 ⟨(some 108), none, .field 1 (.tmp 20)⟩,
 ⟨none, none, .store 1 (.tmp 108) (.tmp 107)⟩]
 [])))
 (.ops [⟨(some 109), none, .bin .add .none (.tmp 97) (.val (.int .i64 1))⟩,
 ⟨(some 97), none, .move (.tmp 109)⟩])))

def fn26_l1 : ACode :=
 .seq
 (.ops [⟨(some 88), none, .bin .lss .none (.tmp 87) (.tmp 86)⟩])
 (.seq
 (.cond (.tmp 88)
 (.skip)
 (.exit 2))
 (.seq
 (.block 3 (
 .seq
 (.ops [⟨(some 89), none, .indexList 2 (.tmp 85) (.tmp 87)⟩,
 ⟨(some 90), none, .loadN 2 (.tmp 89)⟩,
 ⟨(some 19), none, .alloc [(.str ⟨#[]⟩), (.list [] (some none))]⟩,
 ⟨none, none, .store 2 (.tmp 19) (.tmp 90)⟩])
 (.seq
 (.ops [⟨(some 91), none, .field 0 (.tmp 19)⟩,
 ⟨(some 92), none, .load1 (.tmp 91)⟩,
 ⟨(some 93), none, .build [(.str ⟨#[]⟩), (.list [] (some none))] [(0, 1, (.tmp 92))]⟩,
 ⟨(some 20), none, .alloc [(.str ⟨#[]⟩), (.list [] (some none))]⟩,
 ⟨none, none, .store 2 (.tmp 20) (.tmp 93)⟩])
 (.seq
 (.seq
 (.ops [⟨(some 94), none, .field 1 (.tmp 19)⟩,
 ⟨(some 95), none, .load1 (.tmp 94)⟩,
 ⟨(some 96), none, .len .slice (.tmp 95)⟩,
 ⟨(some 97), none, .move (.val (.int .i64 0))⟩])
 (.frame [4, 8, 11, 14, 17, 20, 73, 74, 75, 85, 86, 87] (
 .block 4 (
 .gloop [4, 8, 11, 14, 17, 20, 73, 74, 75, 85, 86, 87, 95, 96, 97] fn26_l0))))
 (.ops [⟨(some 110), none, .field 2 (.tmp 17)⟩,
 ⟨(some 111), none, .load1 (.tmp 110)⟩,
 ⟨(some 112), none, .loadN 2 (.tmp 20)⟩,
 ⟨(some 113), none, .buildSlice 2 [(.tmp 112)]⟩,
 ⟨(some 114), none, .append 2 40 (.tmp 111) (.tmp 113)⟩,
 ⟨(some 115), none, .field 2 (.tmp 17)⟩,
 ⟨none, none, .store 1 (.tmp 115) (.tmp 114)⟩])))))
 (.ops [⟨(some 116), none, .bin .add .none (.tmp 87) (.val (.int .i64 1))⟩,
 ⟨(some 87), none, .move (.tmp 116)⟩])))

def fn26_l2 : ACode :=
 .seq
 (.ops [⟨(some 76), none, .bin .lss .none (.tmp 75) (.tmp 74)⟩])
 (.seq
 (.cond (.tmp 76)
 (.skip)
 (.exit 0))
 (.seq
 (.block 1 (
 .seq
 (.ops [⟨(some 77), none, .indexList 3 (.tmp 73) (.tmp 75)⟩,
 ⟨(some 78), none, .loadN 3 (.tmp 77)⟩,
 ⟨(some 16), none, .alloc [(.str ⟨#[]⟩), (.int .i64 0), (.list [] (some none))]⟩,
 ⟨none, none, .store 3 (.tmp 16) (.tmp 78)⟩])
 (.seq
 (.ops [⟨(some 79), none, .field 0 (.tmp 16)⟩,
 ⟨(some 80), none, .load1 (.tmp 79)⟩,
 ⟨(some 81), none, .field 1 (.tmp 16)⟩,
 ⟨(some 82), none, .load1 (.tmp 81)⟩,
 ⟨(some 83), none, .build [(.str ⟨#[]⟩), (.int .i64 0), (.list [] (some none))] [(0, 1, (.tmp 80)), (1, 1, (.tmp 82))]⟩,
 ⟨(some 17), none, .alloc [(.str ⟨#[]⟩), (.int .i64 0), (.list [] (some none))]⟩,
 ⟨none, none, .store 3 (.tmp 17) (.tmp 83)⟩])
 (.seq
 (.seq
 (.ops [⟨(some 84), none, .field 2 (.tmp 16)⟩,
 ⟨(some 85), none, .load1 (.tmp 84)⟩,
 ⟨(some 86), none, .len .slice (.tmp 85)⟩,
 ⟨(some 87), none, .move (.val (.int .i64 0))⟩])
 (.frame [4, 8, 11, 14, 17, 73, 74, 75] (
 .block 2 (
 .gloop [4, 8, 11, 14, 17, 73, 74, 75, 85, 86, 87] fn26_l1))))
 (.ops [⟨(some 117), none, .field 0 (.tmp 14)⟩,
 ⟨(some 118), none, .load1 (.tmp 117)⟩,
 ⟨(some 119), none, .loadN 3 (.tmp 17)⟩,
 ⟨(some 120), none, .buildSlice 3 [(.tmp 119)]⟩,
 ⟨(some 121), none, .append 3 48 (.tmp 118) (.tmp 120)⟩,
 ⟨(some 122), none, .field 0 (.tmp 14)⟩,
 ⟨none, none, .store 1 (.tmp 122) (.tmp 121)⟩])))))
 (.ops [⟨(some 123), none, .bin .add .none (.tmp 75) (.val (.int .i64 1))⟩,
 ⟨(some 75), none, .move (.tmp 123)⟩])))

def fn26_l3 : ACode :=
 .seq
 (.ops [⟨(some 129), none, .bin .lss .none (.tmp 128) (.tmp 127)⟩])
 (.seq
 (.cond (.tmp 129)
 (.skip)
 (.exit 6))
 (.seq
 (.block 7 (
 .seq
 (.ops [⟨(some 130), none, .indexList 7 (.tmp 126) (.tmp 128)⟩,
 ⟨(some 131), none, .loadN 7 (.tmp 130)⟩,
 ⟨(some 24), none, .alloc [(.str ⟨#[]⟩), (.int .i64 0), (.list [] (some none)), (.int .i64 0), (.str ⟨#[]⟩), (.int .i64 0), (.list [] (some none))]⟩,
 ⟨none, none, .store 7 (.tmp 24) (.tmp 131)⟩])
 (.draw [⟨(some 132), none, .field 1 (.tmp 14)⟩,
 ⟨(some 133), none, .load1 (.tmp 132)⟩,
 ⟨(some 134), none, .field 0 (.tmp 24)⟩,
 ⟨(some 135), none, .load1 (.tmp 134)⟩,
 ⟨(some 136), none, .field 1 (.tmp 24)⟩,
 ⟨(some 137), none, .loadN 6 (.tmp 136)⟩,
 ⟨(some 138), none, .move (.tmp 11)⟩,
 ⟨(some 139), none, .pcall 36 [(.tmp 137), (.tmp 138)]⟩,
 ⟨(some 140), none, .build [(.str ⟨#[]⟩), (.int .i64 0), (.list [] (some none)), (.int .i64 0), (.str ⟨#[]⟩), (.int .i64 0), (.list [] (some none))] [(0, 1, (.tmp 135)), (1, 6, (.tmp 139))]⟩,
 ⟨(some 141), none, .buildSlice 7 [(.tmp 140)]⟩,
 ⟨(some 142), none, .append 7 104 (.tmp 133) (.tmp 141)⟩,
 ⟨(some 143), none, .field 1 (.tmp 14)⟩,
 ⟨none, none, .store 1 (.tmp 143) (.tmp 142)⟩]
 [])))
 (.ops [⟨(some 144), none, .bin .add .none (.tmp 128) (.val (.int .i64 1))⟩,
 ⟨(some 128), none, .move (.tmp 144)⟩])))

def fn26 : AFn := .mk [.cellN 2 8, .tmp 9] (
 .seq
 (.ops [⟨(some 4), none, .box (.tmp 0)⟩,
 ⟨(some 5), none, .box (.tmp 1)⟩,
 ⟨(some 8), none, .alloc [(.list [] (some none)), (.list [] (some none))]⟩,
 ⟨(some 9), none, .move (.val (.int .i64 0))⟩])
 (.seq
 (.seq
 (.ops [⟨(some 25), none, .loadN 6 (.tmp 4)⟩,
 ⟨(some 26), none, .pcall 28 [(.tmp 25)]⟩,
 ⟨(some 10), none, .move (.tmp 26)⟩])
 (.seq
 (.ops [⟨(some 27), none, .move (.tmp 10)⟩,
 ⟨(some 28), none, .bin .neq .none (.tmp 27) (.val (.int .i64 0))⟩])
 (.cond (.tmp 28)
 (.seq
 (.ops [⟨(some 29), none, .build [(.list [] (some none)), (.list [] (some none))] []⟩,
 ⟨(some 30), none, .move (.tmp 10)⟩,
 ⟨none, none, .store 2 (.tmp 8) (.tmp 29)⟩,
 ⟨(some 9), none, .move (.tmp 30)⟩])
 (.ret))
 (.skip))))
 (.seq
 (.kops [⟨(some 32), none, .loadN 2 (.tmp 5)⟩,
 ⟨(some 33), none, .field 1 (.tmp 4)⟩,
 ⟨(some 34), none, .loadN 2 (.tmp 33)⟩,
 ⟨(some 35), none, .move (.tmp 2)⟩,
 ⟨(some 36), none, .pcall 10 [(.tmp 32), (.tmp 34), (.tmp 35)]⟩,
 ⟨(some 31), none, .move (.tmp 36)⟩,
 ⟨(some 37), none, .extract 0 (.tmp 31)⟩,
 ⟨(some 38), none, .extract 1 (.tmp 31)⟩,
 ⟨(some 11), none, .move (.tmp 37)⟩,
 ⟨(some 12), none, .move (.tmp 38)⟩])
 (.seq
 (.seq
 (.ops [⟨(some 39), none, .move (.tmp 12)⟩,
 ⟨(some 40), none, .bin .neq .none (.tmp 39) (.val (.int .i64 0))⟩])
 (.cond (.tmp 40)
 (.seq
 (.ops [⟨(some 41), none, .build [(.list [] (some none)), (.list [] (some none))] []⟩,
 ⟨(some 42), none, .move (.tmp 12)⟩,
 ⟨none, none, .store 2 (.tmp 8) (.tmp 41)⟩,
 ⟨(some 9), none, .move (.tmp 42)⟩])
 (.ret))
 (.skip)))
 (.seq
 (.seq
 (.ops [⟨(some 43), none, .move (.tmp 3)⟩,
 ⟨(some 44), none, .bin .lss .none (.tmp 43) (.val (.int .i64 0))⟩,
 ⟨(some 45), none, .move (.tmp 44)⟩,
 ⟨(some 46), (some ((some 45), false)), .move (.tmp 3)⟩,
 ⟨(some 47), (some ((some 45), false)), .bin .gtr .none (.tmp 46) (.val (.int .i64 1048576))⟩,
 ⟨(some 48), none, .pick (.tmp 45) (.val (.bool true)) (.tmp 47)⟩])
 (.cond (.tmp 48)
 (.seq
 (.ops [⟨(some 49), none, .build [(.list [] (some none)), (.list [] (some none))] []⟩,
 ⟨none, none, .store 2 (.tmp 8) (.tmp 49)⟩,
 ⟨(some 9), none, .move (.val (.int .i64 4))⟩])
 (.ret))
 (.skip)))
 (.seq
 (.ops [⟨(some 50), none, .field 0 (.tmp 4)⟩,
 ⟨(some 51), none, .load1 (.tmp 50)⟩,
 ⟨(some 52), none, .bin .add .none (.tmp 51) (.val (.str ⟨#[40]⟩))⟩,
 ⟨(some 53), none, .move (.tmp 2)⟩,
 ⟨(some 54), none, .bin .add .none (.tmp 52) (.tmp 53)⟩,
 ⟨(some 55), none, .bin .add .none (.tmp 54) (.val (.str ⟨#[41]⟩))⟩,
 ⟨(some 13), none, .move (.tmp 55)⟩])
 (.seq
 (.seq
 (.ops [⟨(some 56), none, .field 5 (.tmp 4)⟩,
 ⟨(some 57), none, .load1 (.tmp 56)⟩])
 (.cond (.tmp 57)
 (.draw [⟨(some 58), none, .field 0 (.tmp 4)⟩,
 ⟨(some 59), none, .load1 (.tmp 58)⟩,
 ⟨(some 60), none, .bin .add .none (.tmp 59) (.val (.str ⟨#[35]⟩))⟩,
 ⟨(some 61), none, .move (.tmp 3)⟩,
 ⟨(some 62), none, .pcall 48 [(.tmp 61)]⟩,
 ⟨(some 63), none, .bin .add .none (.tmp 60) (.tmp 62)⟩,
 ⟨(some 13), none, .move (.tmp 63)⟩]
 [])
 (.skip)))
 (.seq
 (.ops [⟨(some 64), none, .move (.tmp 11)⟩,
 ⟨(some 65), none, .field 3 (.tmp 4)⟩,
 ⟨(some 66), none, .loadN 2 (.tmp 65)⟩,
 ⟨(some 67), none, .move (.tmp 13)⟩,
 ⟨(some 68), none, .pcall 31 [(.tmp 66), (.tmp 67)]⟩,
 ⟨(some 69), none, .append 5 72 (.tmp 64) (.tmp 68)⟩,
 ⟨(some 11), none, .move (.tmp 69)⟩])
 (.seq
 (.ops [⟨(some 70), none, .build [(.list [] (some none)), (.list [] (some none))] []⟩,
 ⟨(some 14), none, .alloc [(.list [] (some none)), (.list [] (some none))]⟩,
 ⟨none, none, .store 2 (.tmp 14) (.tmp 70)⟩])
 (.seq
 (.seq
 (.ops [⟨(some 71), none, .field 3 (.tmp 4)⟩,
 ⟨(some 72), none, .field 0 (.tmp 71)⟩,
 ⟨(some 73), none, .load1 (.tmp 72)⟩,
 ⟨(some 74), none, .len .slice (.tmp 73)⟩,
 ⟨(some 75), none, .move (.val (.int .i64 0))⟩])
 (.frame [4, 8, 11, 14] (
 .block 0 (
 .gloop [4, 8, 11, 14, 73, 74, 75] fn26_l2))))
 (.seq
 (.seq
 (.ops [⟨(some 124), none, .field 3 (.tmp 4)⟩,
 ⟨(some 125), none, .field 1 (.tmp 124)⟩,
 ⟨(some 126), none, .load1 (.tmp 125)⟩,
 ⟨(some 127), none, .len .slice (.tmp 126)⟩,
 ⟨(some 128), none, .move (.val (.int .i64 0))⟩])
 (.frame [8, 14] (
 .block 6 (
 .gloop [8, 11, 14, 126, 127, 128] fn26_l3))))
 (.seq
 (.ops [⟨(some 145), none, .loadN 2 (.tmp 14)⟩,
 ⟨none, none, .store 2 (.tmp 8) (.tmp 145)⟩,
 ⟨(some 9), none, .move (.val (.int .i64 0))⟩])
 (.ret)))))))))))))

/-- provenance/provenancekeep2.FunctorEqual.1 -/
def fn27 : AFn := .mk [.tmp 3] (
 .seq
 (.ops [⟨(some 2), none, .box (.tmp 0)⟩,
 ⟨(some 3), none, .move (.val (.bool false))⟩])
 (.seq
 (.ops [⟨(some 4), none, .loadN 4 (.tmp 2)⟩,
 ⟨(some 5), none, .field 3 (.tmp 1)⟩,
 ⟨(some 6), none, .field 0 (.tmp 5)⟩,
 ⟨(some 7), none, .load1 (.tmp 6)⟩,
 ⟨(some 8), none, .pcall 13 [(.tmp 4), (.tmp 7)]⟩,
 ⟨(some 3), none, .move (.tmp 8)⟩])
 (.ret)))

/-- provenance/provenancekeep2.FunctorEqual -/
def fn8_l0 : ACode :=
 .seq
 (.ops [⟨(some 90), none, .bin .lss .none (.tmp 89) (.tmp 88)⟩])
 (.seq
 (.cond (.tmp 90)
 (.skip)
 (.exit 0))
 (.seq
 (.block 1 (
 .seq
 (.ops [⟨(some 91), none, .move (.tmp 89)⟩,
 ⟨(some 14), none, .move (.tmp 91)⟩])
 (.seq
 (.draw [⟨(some 92), none, .field 1 (.tmp 9)⟩,
 ⟨(some 93), none, .load1 (.tmp 92)⟩,
 ⟨(some 94), none, .move (.tmp 14)⟩,
 ⟨(some 95), none, .indexList 7 (.tmp 93) (.tmp 94)⟩,
 ⟨(some 96), none, .field 1 (.tmp 95)⟩,
 ⟨(some 97), none, .field 2 (.tmp 96)⟩,
 ⟨(some 98), none, .loadN 4 (.tmp 97)⟩,
 ⟨(some 99), none, .field 1 (.tmp 11)⟩,
 ⟨(some 100), none, .load1 (.tmp 99)⟩,
 ⟨(some 101), none, .move (.tmp 14)⟩,
 ⟨(some 102), none, .indexList 7 (.tmp 100) (.tmp 101)⟩,
 ⟨(some 103), none, .field 1 (.tmp 102)⟩,
 ⟨(some 104), none, .field 2 (.tmp 103)⟩,
 ⟨(some 105), none, .loadN 4 (.tmp 104)⟩,
 ⟨(some 106), none, .pcall 16 [(.tmp 98), (.tmp 105)]⟩,
 ⟨(some 15), none, .move (.tmp 106)⟩]
 [])
 (.seq
 (.ops [⟨(some 107), none, .move (.tmp 15)⟩,
 ⟨(some 108), none, .field 5 (.tmp 4)⟩,
 ⟨(some 109), none, .load1 (.tmp 108)⟩,
 ⟨(some 110), none, .move (.tmp 109)⟩,
 ⟨(some 111), (some ((some 110), true)), .move (.tmp 13)⟩,
 ⟨(some 112), (some ((some 110), true)), .field 3 (.tmp 4)⟩,
 ⟨(some 113), (some ((some 110), true)), .field 1 (.tmp 112)⟩,
 ⟨(some 114), (some ((some 110), true)), .load1 (.tmp 113)⟩,
 ⟨(some 115), (some ((some 110), true)), .move (.tmp 14)⟩,
 ⟨(some 116), (some ((some 110), true)), .indexList 7 (.tmp 114) (.tmp 115)⟩,
 ⟨(some 117), (some ((some 110), true)), .field 1 (.tmp 116)⟩,
 ⟨(some 118), (some ((some 110), true)), .field 2 (.tmp 117)⟩,
 ⟨(some 119), (some ((some 110), true)), .loadN 4 (.tmp 118)⟩,
 ⟨(some 120), (some ((some 110), true)), .call (.tmp 111) [(.tmp 119)]⟩,
 ⟨(some 121), none, .pick (.tmp 110) (.tmp 120) (.val (.bool false))⟩,
 ⟨(some 122), none, .bin .eql .bool (.tmp 107) (.tmp 121)⟩])
 (.cond (.tmp 122)
 (.seq
 (.ops [⟨(some 8), none, .move (.val (.bool false))⟩])
 (.ret))
 (.skip))))))
 (.ops [⟨(some 123), none, .bin .add .none (.tmp 89) (.val (.int .i64 1))⟩,
 ⟨(some 89), none, .move (.tmp 123)⟩])))

def fn8 : AFn := .mk [.tmp 8] (
 .seq
 (.ops [⟨(some 4), none, .box (.tmp 0)⟩,
 ⟨(some 5), none, .box (.tmp 1)⟩,
 ⟨(some 8), none, .move (.val (.bool false))⟩])
 (.seq
 (.ops [⟨(some 16), none, .move (.tmp 2)⟩,
 ⟨(some 17), none, .minMax true [(.val (.int .i64 0)), (.tmp 16)]⟩,
 ⟨(some 18), none, .bin .rem .none (.tmp 17) (.val (.int .i64 1000))⟩,
 ⟨(some 19), none, .move (.tmp 3)⟩,
 ⟨(some 20), none, .minMax true [(.val (.int .i64 0)), (.tmp 19)]⟩,
 ⟨(some 21), none, .bin .rem .none (.tmp 20) (.val (.int .i64 1000))⟩,
 ⟨(some 2), none, .move (.tmp 18)⟩,
 ⟨(some 3), none, .move (.tmp 21)⟩])
 (.seq
 (.seq
 (.ops [⟨(some 22), none, .move (.tmp 2)⟩,
 ⟨(some 23), none, .move (.tmp 3)⟩,
 ⟨(some 24), none, .bin .eql .none (.tmp 22) (.tmp 23)⟩])
 (.cond (.tmp 24)
 (.ops [⟨(some 25), none, .move (.tmp 3)⟩,
 ⟨(some 26), none, .bin .add .none (.tmp 25) (.val (.int .i64 1))⟩,
 ⟨(some 3), none, .move (.tmp 26)⟩])
 (.skip)))
 (.seq
 (.ops [⟨(some 28), none, .loadN 6 (.tmp 4)⟩,
 ⟨(some 29), none, .loadN 2 (.tmp 5)⟩,
 ⟨(some 30), none, .move (.tmp 2)⟩,
 ⟨(some 31), none, .pcall 26 [(.tmp 28), (.tmp 29), (.val (.str ⟨#[77]⟩)), (.tmp 30)]⟩,
 ⟨(some 27), none, .move (.tmp 31)⟩,
 ⟨(some 32), none, .extract 0 (.tmp 27)⟩,
 ⟨(some 33), none, .extract 1 (.tmp 27)⟩,
 ⟨(some 9), none, .alloc [(.list [] (some none)), (.list [] (some none))]⟩,
 ⟨none, none, .store 2 (.tmp 9) (.tmp 32)⟩,
 ⟨(some 10), none, .move (.tmp 33)⟩])
 (.seq
 (.ops [⟨(some 35), none, .loadN 6 (.tmp 4)⟩,
 ⟨(some 36), none, .loadN 2 (.tmp 5)⟩,
 ⟨(some 37), none, .move (.tmp 3)⟩,
 ⟨(some 38), none, .pcall 26 [(.tmp 35), (.tmp 36), (.val (.str ⟨#[77]⟩)), (.tmp 37)]⟩,
 ⟨(some 34), none, .move (.tmp 38)⟩,
 ⟨(some 39), none, .extract 0 (.tmp 34)⟩,
 ⟨(some 40), none, .extract 1 (.tmp 34)⟩,
 ⟨(some 11), none, .alloc [(.list [] (some none)), (.list [] (some none))]⟩,
 ⟨none, none, .store 2 (.tmp 11) (.tmp 39)⟩,
 ⟨(some 12), none, .move (.tmp 40)⟩])
 (.seq
 (.seq
 (.ops [⟨(some 41), none, .move (.tmp 10)⟩,
 ⟨(some 42), none, .bin .neq .none (.tmp 41) (.val (.int .i64 0))⟩,
 ⟨(some 43), none, .move (.tmp 42)⟩,
 ⟨(some 44), (some ((some 43), false)), .move (.tmp 12)⟩,
 ⟨(some 45), (some ((some 43), false)), .bin .neq .none (.tmp 44) (.val (.int .i64 0))⟩,
 ⟨(some 46), none, .pick (.tmp 43) (.val (.bool true)) (.tmp 45)⟩])
 (.cond (.tmp 46)
 (.seq
 (.ops [⟨(some 47), none, .pcall 11 []⟩,
 ⟨(some 48), none, .move (.tmp 47)⟩,
 ⟨(some 49), (some ((some 48), true)), .move (.tmp 10)⟩,
 ⟨(some 50), (some ((some 48), true)), .move (.tmp 12)⟩,
 ⟨(some 51), (some ((some 48), true)), .bin .eql .none (.tmp 49) (.tmp 50)⟩,
 ⟨(some 52), none, .pick (.tmp 48) (.tmp 51) (.val (.bool false))⟩,
 ⟨(some 53), none, .move (.tmp 52)⟩,
 ⟨(some 54), (some ((some 53), true)), .field 1 (.tmp 9)⟩,
 ⟨(some 55), (some ((some 53), true)), .load1 (.tmp 54)⟩,
 ⟨(some 56), (some ((some 53), true)), .len .slice (.tmp 55)⟩,
 ⟨(some 57), (some ((some 53), true)), .bin .eql .none (.tmp 56) (.val (.int .i64 0))⟩,
 ⟨(some 58), none, .pick (.tmp 53) (.tmp 57) (.val (.bool false))⟩,
 ⟨(some 59), none, .move (.tmp 58)⟩,
 ⟨(some 60), (some ((some 59), true)), .field 1 (.tmp 11)⟩,
 ⟨(some 61), (some ((some 59), true)), .load1 (.tmp 60)⟩,
 ⟨(some 62), (some ((some 59), true)), .len .slice (.tmp 61)⟩,
 ⟨(some 63), (some ((some 59), true)), .bin .eql .none (.tmp 62) (.val (.int .i64 0))⟩,
 ⟨(some 64), none, .pick (.tmp 59) (.tmp 63) (.val (.bool false))⟩,
 ⟨(some 8), none, .move (.tmp 64)⟩])
 (.ret))
 (.skip)))
 (.seq
 (.seq
 (.ops [⟨(some 65), none, .field 1 (.tmp 9)⟩,
 ⟨(some 66), none, .load1 (.tmp 65)⟩,
 ⟨(some 67), none, .len .slice (.tmp 66)⟩,
 ⟨(some 68), none, .field 1 (.tmp 11)⟩,
 ⟨(some 69), none, .load1 (.tmp 68)⟩,
 ⟨(some 70), none, .len .slice (.tmp 69)⟩,
 ⟨(some 71), none, .bin .neq .none (.tmp 67) (.tmp 70)⟩,
 ⟨(some 72), none, .move (.tmp 71)⟩,
 ⟨(some 73), (some ((some 72), false)), .field 0 (.tmp 9)⟩,
 ⟨(some 74), (some ((some 72), false)), .load1 (.tmp 73)⟩,
 ⟨(some 75), (some ((some 72), false)), .len .slice (.tmp 74)⟩,
 ⟨(some 76), (some ((some 72), false)), .field 0 (.tmp 11)⟩,
 ⟨(some 77), (some ((some 72), false)), .load1 (.tmp 76)⟩,
 ⟨(some 78), (some ((some 72), false)), .len .slice (.tmp 77)⟩,
 ⟨(some 79), (some ((some 72), false)), .bin .neq .none (.tmp 75) (.tmp 78)⟩,
 ⟨(some 80), none, .pick (.tmp 72) (.val (.bool true)) (.tmp 79)⟩,
 ⟨(some 81), none, .move (.tmp 80)⟩,
 ⟨(some 82), (some ((some 81), false)), .pcall 11 []⟩,
 ⟨(some 83), (some ((some 81), false)), .un .not (.tmp 82)⟩,
 ⟨(some 84), none, .pick (.tmp 81) (.val (.bool true)) (.tmp 83)⟩])
 (.cond (.tmp 84)
 (.seq
 (.ops [⟨(some 8), none, .move (.val (.bool false))⟩])
 (.ret))
 (.skip)))
 (.seq
 (.freeze 4 (
 .ops [⟨(some 85), none, .makeFunc 27 [] [(.tmp 4)]⟩,
 ⟨(some 13), none, .move (.tmp 85)⟩]))
 (.seq
 (.seq
 (.ops [⟨(some 86), none, .field 1 (.tmp 9)⟩,
 ⟨(some 87), none, .load1 (.tmp 86)⟩,
 ⟨(some 88), none, .len .slice (.tmp 87)⟩,
 ⟨(some 89), none, .move (.val (.int .i64 0))⟩])
 (.frame [8] (
 .block 0 (
 .gloop [4, 9, 11, 13, 88, 89] fn8_l0))))
 (.seq
 (.ops [⟨(some 8), none, .move (.val (.bool true))⟩])
 (.ret)))))))))))

end Go.Abs
/-
 The resolved code of some functions, as a program of ours prints it. Conditions: none.
-/
namespace Go.Abs

/-- strings.ContainsAny -/
def fn50 : AFn := .mk [.tmp 4] (
 .seq
 (.ops [⟨(some 4), none, .move (.val (.bool false))⟩])
 (.seq
 (.ops [⟨(some 5), none, .move (.tmp 0)⟩,
 ⟨(some 6), none, .move (.tmp 1)⟩,
 ⟨(some 7), none, .pcall 69 [(.tmp 5), (.tmp 6)]⟩,
 ⟨(some 8), none, .bin .geq .none (.tmp 7) (.val (.int .i64 0))⟩,
 ⟨(some 4), none, .move (.tmp 8)⟩])
 (.ret)))

/-- strings.IndexAny -/
def fn69_l0 : ACode :=
 .seq
 (.seq
 (.ops [⟨(some 33), none, .move (.tmp 8)⟩,
 ⟨(some 34), none, .move (.tmp 0)⟩,
 ⟨(some 35), none, .len .str (.tmp 34)⟩,
 ⟨(some 36), none, .bin .lss .none (.tmp 33) (.tmp 35)⟩])
 (.cond (.tmp 36)
 (.skip)
 (.exit 0)))
 (.seq
 (.block 1 (
 .seq
 (.ops [⟨(some 39), none, .move (.tmp 0)⟩,
 ⟨(some 40), none, .move (.tmp 8)⟩,
 ⟨(some 41), none, .indexStr (.tmp 39) (.tmp 40)⟩,
 ⟨(some 42), none, .call (.val (.func 81 [] [])) [(.tmp 6), (.tmp 41)]⟩])
 (.cond (.tmp 42)
 (.seq
 (.ops [⟨(some 43), none, .move (.tmp 8)⟩,
 ⟨(some 4), none, .move (.tmp 43)⟩])
 (.ret))
 (.skip))))
 (.ops [⟨(some 37), none, .move (.tmp 8)⟩,
 ⟨(some 38), none, .bin .add .none (.tmp 37) (.val (.int .i64 1))⟩,
 ⟨(some 8), none, .move (.tmp 38)⟩]))

def fn69_k1 : RangeK :=
 ⟨[⟨(some 44), none, .move (.tmp 0)⟩], (.tmp 44), 45, 46,
 [⟨(some 47), none, .extract 0 (.tmp 46)⟩], (.tmp 47), 2, 3, none,
 [], true, [1, 45], [4]⟩

def fn69_b1 : ACode :=
 .seq
 (.ops [⟨(some 48), none, .extract 1 (.tmp 46)⟩,
 ⟨(some 49), none, .extract 2 (.tmp 46)⟩,
 ⟨(some 9), none, .move (.tmp 48)⟩,
 ⟨(some 10), none, .move (.tmp 49)⟩])
 (.seq
 (.ops [⟨(some 50), none, .move (.tmp 1)⟩,
 ⟨(some 51), none, .move (.tmp 10)⟩,
 ⟨(some 52), none, .pcall 78 [(.tmp 50), (.tmp 51)]⟩,
 ⟨(some 53), none, .bin .geq .none (.tmp 52) (.val (.int .i64 0))⟩])
 (.cond (.tmp 53)
 (.seq
 (.ops [⟨(some 54), none, .move (.tmp 9)⟩,
 ⟨(some 4), none, .move (.tmp 54)⟩])
 (.ret))
 (.skip)))

def fn69_a1 : ACode :=
 .seq
 (.ops [⟨(some 4), none, .move (.val (.int .i64 (-1)))⟩])
 (.ret)

def fn69 : AFn := .mk [.tmp 4] (
 .seq
 (.ops [⟨(some 4), none, .move (.val (.int .i64 0))⟩])
 (.seq
 (.seq
 (.ops [⟨(some 11), none, .move (.tmp 1)⟩,
 ⟨(some 12), none, .bin .eql .none (.tmp 11) (.val (.str ⟨#[]⟩))⟩])
 (.cond (.tmp 12)
 (.seq
 (.ops [⟨(some 4), none, .move (.val (.int .i64 (-1)))⟩])
 (.ret))
 (.skip)))
 (.seq
 (.seq
 (.ops [⟨(some 13), none, .move (.tmp 1)⟩,
 ⟨(some 14), none, .len .str (.tmp 13)⟩,
 ⟨(some 15), none, .bin .eql .none (.tmp 14) (.val (.int .i64 1))⟩])
 (.cond (.tmp 15)
 (.seq
 (.ops [⟨(some 16), none, .move (.tmp 1)⟩,
 ⟨(some 17), none, .indexStr (.tmp 16) (.val (.int .i64 0))⟩,
 ⟨(some 18), none, .conv .i32 (.tmp 17)⟩,
 ⟨(some 5), none, .move (.tmp 18)⟩])
 (.seq
 (.seq
 (.ops [⟨(some 19), none, .move (.tmp 5)⟩,
 ⟨(some 20), none, .bin .geq .none (.tmp 19) (.val (.int .i32 128))⟩])
 (.cond (.tmp 20)
 (.ops [⟨(some 5), none, .move (.val (.int .i32 65533))⟩])
 (.skip)))
 (.seq
 (.ops [⟨(some 21), none, .move (.tmp 0)⟩,
 ⟨(some 22), none, .move (.tmp 5)⟩,
 ⟨(some 23), none, .pcall 78 [(.tmp 21), (.tmp 22)]⟩,
 ⟨(some 4), none, .move (.tmp 23)⟩])
 (.ret))))
 (.skip)))
 (.seq
 (.seq
 (.ops [⟨(some 24), none, .move (.tmp 0)⟩,
 ⟨(some 25), none, .len .str (.tmp 24)⟩,
 ⟨(some 26), none, .pcall 79 [(.tmp 25)]⟩])
 (.cond (.tmp 26)
 (.seq
 (.ops [⟨(some 28), none, .move (.tmp 1)⟩,
 ⟨(some 29), none, .pcall 80 [(.tmp 28)]⟩,
 ⟨(some 27), none, .move (.tmp 29)⟩,
 ⟨(some 30), none, .extract 0 (.tmp 27)⟩,
 ⟨(some 31), none, .extract 1 (.tmp 27)⟩,
 ⟨(some 6), none, .alloc (List.replicate 256 (.bool false))⟩,
 ⟨none, none, .store 256 (.tmp 6) (.tmp 30)⟩,
 ⟨(some 7), none, .move (.tmp 31)⟩])
 (.seq
 (.ops [⟨(some 32), none, .move (.tmp 7)⟩])
 (.cond (.tmp 32)
 (.seq
 (.seq
 (.ops [⟨(some 8), none, .move (.val (.int .i64 0))⟩])
 (.frame [4] (
 .block 0 (
 .gloop [0, 6, 8] fn69_l0))))
 (.seq
 (.ops [⟨(some 4), none, .move (.val (.int .i64 (-1)))⟩])
 (.ret)))
 (.skip))))
 (.skip)))
 (.range fn69_k1 fn69_b1 fn69_a1)))))

/-- strings.shouldUseASCIISet -/
def fn79 : AFn := .mk [.tmp 2] (
 .seq
 (.ops [⟨(some 2), none, .move (.val (.bool false))⟩])
 (.seq
 (.ops [⟨(some 3), none, .move (.tmp 0)⟩,
 ⟨(some 4), none, .bin .gtr .none (.tmp 3) (.val (.int .i64 8))⟩,
 ⟨(some 2), none, .move (.tmp 4)⟩])
 (.ret)))

/-- strings.makeASCIISet -/
def fn80_l0 : ACode :=
 .seq
 (.seq
 (.ops [⟨(some 6), none, .move (.tmp 4)⟩,
 ⟨(some 7), none, .move (.tmp 0)⟩,
 ⟨(some 8), none, .len .str (.tmp 7)⟩,
 ⟨(some 9), none, .bin .lss .none (.tmp 6) (.tmp 8)⟩])
 (.cond (.tmp 9)
 (.skip)
 (.exit 0)))
 (.seq
 (.block 1 (
 .seq
 (.ops [⟨(some 12), none, .move (.tmp 0)⟩,
 ⟨(some 13), none, .move (.tmp 4)⟩,
 ⟨(some 14), none, .indexStr (.tmp 12) (.tmp 13)⟩,
 ⟨(some 5), none, .move (.tmp 14)⟩])
 (.seq
 (.seq
 (.ops [⟨(some 15), none, .move (.tmp 5)⟩,
 ⟨(some 16), none, .bin .geq .none (.tmp 15) (.val (.int .u8 128))⟩])
 (.cond (.tmp 16)
 (.seq
 (.ops [⟨(some 17), none, .loadN 256 (.tmp 2)⟩,
 ⟨none, none, .store 256 (.tmp 2) (.tmp 17)⟩,
 ⟨(some 3), none, .move (.val (.bool false))⟩])
 (.ret))
 (.skip)))
 (.ops [⟨(some 18), none, .move (.tmp 5)⟩,
 ⟨(some 19), none, .indexArr 256 1 (.tmp 2) (.tmp 18)⟩,
 ⟨none, none, .store 1 (.tmp 19) (.val (.bool true))⟩]))))
 (.ops [⟨(some 10), none, .move (.tmp 4)⟩,
 ⟨(some 11), none, .bin .add .none (.tmp 10) (.val (.int .i64 1))⟩,
 ⟨(some 4), none, .move (.tmp 11)⟩]))

def fn80 : AFn := .mk [.cellN 256 2, .tmp 3] (
 .seq
 (.ops [⟨(some 2), none, .alloc (List.replicate 256 (.bool false))⟩,
 ⟨(some 3), none, .move (.val (.bool false))⟩])
 (.seq
 (.seq
 (.ops [⟨(some 4), none, .move (.val (.int .i64 0))⟩])
 (.frame [2, 3] (
 .block 0 (
 .gloop [0, 2, 4] fn80_l0))))
 (.seq
 (.ops [⟨(some 20), none, .loadN 256 (.tmp 2)⟩,
 ⟨none, none, .store 256 (.tmp 2) (.tmp 20)⟩,
 ⟨(some 3), none, .move (.val (.bool true))⟩])
 (.ret))))

/-- (*strings.asciiSet).contains -/
def fn81 : AFn := .mk [.tmp 4] (
 .seq
 (.ops [⟨(some 4), none, .move (.val (.bool false))⟩])
 (.seq
 (.ops [⟨(some 5), none, .move (.tmp 0)⟩,
 ⟨(some 6), none, .move (.tmp 1)⟩,
 ⟨(some 7), none, .nilCheck (.tmp 5)⟩,
 ⟨(some 8), none, .indexArr 256 1 (.tmp 7) (.tmp 6)⟩,
 ⟨(some 9), none, .load1 (.tmp 8)⟩,
 ⟨(some 4), none, .move (.tmp 9)⟩])
 (.ret)))

/-- strings.IndexRune -/
def fn78_k0 : RangeK :=
 ⟨[⟨(some 174), none, .move (.tmp 0)⟩], (.tmp 174), 175, 176,
 [⟨(some 177), none, .extract 0 (.tmp 176)⟩], (.tmp 177), 9, 10, none,
 [], true, [175], [4]⟩

def fn78_b0 : ACode :=
 .seq
 (.ops [⟨(some 178), none, .extract 1 (.tmp 176)⟩,
 ⟨(some 179), none, .extract 2 (.tmp 176)⟩,
 ⟨(some 5), none, .move (.tmp 178)⟩,
 ⟨(some 6), none, .move (.tmp 179)⟩])
 (.seq
 (.ops [⟨(some 180), none, .move (.tmp 6)⟩,
 ⟨(some 181), none, .bin .eql .none (.tmp 180) (.val (.int .i32 65533))⟩])
 (.cond (.tmp 181)
 (.seq
 (.ops [⟨(some 182), none, .move (.tmp 5)⟩,
 ⟨(some 4), none, .move (.tmp 182)⟩])
 (.ret))
 (.skip)))

def fn78_a0 : ACode :=
 .seq
 (.ops [⟨(some 4), none, .move (.val (.int .i64 (-1)))⟩])
 (.ret)

def fn78 : AFn := .mk [.tmp 4] (
 .seq
 (.ops [⟨(some 4), none, .move (.val (.int .i64 0))⟩])
 (.block 0 (
 .seq
 (.ops [⟨(some 161), none, .move (.tmp 1)⟩,
 ⟨(some 162), none, .bin .leq .none (.val (.int .i32 0)) (.tmp 161)⟩,
 ⟨(some 163), none, .move (.tmp 162)⟩,
 ⟨(some 164), (some ((some 163), true)), .move (.tmp 1)⟩,
 ⟨(some 165), (some ((some 163), true)), .bin .lss .none (.tmp 164) (.val (.int .i32 128))⟩,
 ⟨(some 166), none, .pick (.tmp 163) (.tmp 165) (.val (.bool false))⟩,
 ⟨(some 160), none, .move (.tmp 166)⟩])
 (.cond (.tmp 160)
 (.seq
 (.ops [⟨(some 167), none, .move (.tmp 0)⟩,
 ⟨(some 168), none, .move (.tmp 1)⟩,
 ⟨(some 169), none, .conv .u8 (.tmp 168)⟩,
 ⟨(some 170), none, .pcall 86 [(.tmp 167), (.tmp 169)]⟩,
 ⟨(some 4), none, .move (.tmp 170)⟩])
 (.ret))
 (.seq
 (.ops [⟨(some 172), none, .move (.tmp 1)⟩,
 ⟨(some 173), none, .bin .eql .none (.tmp 172) (.val (.int .i32 65533))⟩,
 ⟨(some 171), none, .move (.tmp 173)⟩])
 (.cond (.tmp 171)
 (.range fn78_k0 fn78_b0 fn78_a0)
 (.seq
 (.ops [⟨(some 184), none, .move (.tmp 1)⟩,
 ⟨(some 185), none, .pcall 87 [(.tmp 184)]⟩,
 ⟨(some 186), none, .un .not (.tmp 185)⟩,
 ⟨(some 183), none, .move (.tmp 186)⟩])
 (.cond (.tmp 183)
 (.seq
 (.ops [⟨(some 4), none, .move (.val (.int .i64 (-1)))⟩])
 (.ret))
 (.stuck)))))))))

end Go.Abs
