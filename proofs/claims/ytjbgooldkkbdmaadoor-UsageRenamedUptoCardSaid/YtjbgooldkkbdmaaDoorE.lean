/-
  PARTS OF A PROOF, joined: an abstract machine for quiet code, its evaluation, and what the seat's functions answer on it. Conditions: none.
-/
import Derived.Shelf.Sort.Plain
import Derived.Ground.Names2Prog
import Derived.Shelf.Slices.Clone
import Derived.Shelf.Slices.In.SortNone
import Derived.Test.YtjbgooldkkbdmaaDoorProg
import Derived.Test.YtjbgooldkkbdmaaDoorAbsN
namespace Go.Proofs
open Go.Shelf
def Tryd.lays189_ren:Go.Shelf.Ren:=⟨fun | 189=>57 | 125=>29 | 257=>66 | 128=>52 | 129=>53 | 294=>70 | 295=>71 | 296=>72 | 297=>73 | 298=>74 | 299=>75 | 216=>76 | 300=>77 | 301=>78 | 328=>80 | 329=>60 | 330=>61 | 331=>81 | 332=>82 | 215=>30 | 343=>83 | n=>n,fun | 28=>31 | 3=>3 | 46=>72 | 0=>0 | 51=>97 | 53=>99 | 4=>4 | 183=>91 | 182=>90 | 131=>81 | 5=>5 | 9=>9 | 218=>106 | 222=>110 | 228=>115 | 229=>116 | n=>n,fun | n=>n⟩
theorem Tryd.lays189:Go.Proofs.Lays.n189 Tryd.prog Tryd.lays189_ren:={
 mixed:=by kernel_rfl
 f125:=Tryd.func29.trans (congrArg some (by kernel_rfl))
 f128:=Tryd.func52.trans (congrArg some (by kernel_rfl))
 f129:=Tryd.func53.trans (congrArg some (by kernel_rfl))
 f189:=Tryd.func57.trans (congrArg some (by kernel_rfl))
 f215:=Tryd.func30.trans (congrArg some (by kernel_rfl))
 f216:=Tryd.func76.trans (congrArg some (by kernel_rfl))
 f257:=Tryd.func66.trans (congrArg some (by kernel_rfl))
 f294:=Tryd.func70.trans (congrArg some (by kernel_rfl))
 f295:=Tryd.func71.trans (congrArg some (by kernel_rfl))
 f296:=Tryd.func72.trans (congrArg some (by kernel_rfl))
 f297:=Tryd.func73.trans (congrArg some (by kernel_rfl))
 f298:=Tryd.func74.trans (congrArg some (by kernel_rfl))
 f299:=Tryd.func75.trans (congrArg some (by kernel_rfl))
 f300:=Tryd.func77.trans (congrArg some (by kernel_rfl))
 f301:=Tryd.func78.trans (congrArg some (by kernel_rfl))
 f328:=Tryd.func80.trans (congrArg some (by kernel_rfl))
 f329:=Tryd.func60.trans (congrArg some (by kernel_rfl))
 f330:=Tryd.func61.trans (congrArg some (by kernel_rfl))
 f331:=Tryd.func81.trans (congrArg some (by kernel_rfl))
 f332:=Tryd.func82.trans (congrArg some (by kernel_rfl))
 f343:=Tryd.func83.trans (congrArg some (by kernel_rfl))
 t0:=Tryd.underlying0
 a0:=Tryd.isAgg0
 z0:=Tryd.sizeOf0
 v0:=Tryd.zeroValue0
 t3:=Tryd.underlying3
 a3:=Tryd.isAgg3
 z3:=Tryd.sizeOf3
 v3:=Tryd.zeroValue3
 t4:=Tryd.underlying4
 a4:=Tryd.isAgg4
 z4:=Tryd.sizeOf4
 v4:=Tryd.zeroValue4
 t5:=Tryd.underlying5
 a5:=Tryd.isAgg5
 z5:=Tryd.sizeOf5
 v5:=Tryd.zeroValue5
 t9:=Tryd.underlying9
 a9:=Tryd.isAgg9
 z9:=Tryd.sizeOf9
 v9:=Tryd.zeroValue9
 t28:=Tryd.underlying31
 a28:=Tryd.isAgg31
 z28:=Tryd.sizeOf31
 v28:=Tryd.zeroValue31
 t46:=Tryd.underlying72
 a46:=Tryd.isAgg72
 z46:=Tryd.sizeOf72
 v46:=Tryd.zeroValue72
 t51:=Tryd.underlying97
 a51:=Tryd.isAgg97
 z51:=Tryd.sizeOf97
 v51:=Tryd.zeroValue97
 t53:=Tryd.underlying99
 a53:=Tryd.isAgg99
 z53:=Tryd.sizeOf99
 v53:=Tryd.zeroValue99
 t131:=Tryd.underlying81
 a131:=Tryd.isAgg81
 z131:=Tryd.sizeOf81
 v131:=Tryd.zeroValue81
 t182:=Tryd.underlying90
 a182:=Tryd.isAgg90
 z182:=Tryd.sizeOf90
 v182:=Tryd.zeroValue90
 t183:=Tryd.underlying91
 a183:=Tryd.isAgg91
 z183:=Tryd.sizeOf91
 v183:=Tryd.zeroValue91
 t218:=Tryd.underlying106
 a218:=Tryd.isAgg106
 z218:=Tryd.sizeOf106
 v218:=Tryd.zeroValue106
 t222:=Tryd.underlying110
 a222:=Tryd.isAgg110
 z222:=Tryd.sizeOf110
 v222:=Tryd.zeroValue110
 t228:=Tryd.underlying115
 a228:=Tryd.isAgg115
 z228:=Tryd.sizeOf115
 v228:=Tryd.zeroValue115
 t229:=Tryd.underlying116
 a229:=Tryd.isAgg116
 z229:=Tryd.sizeOf116
 v229:=Tryd.zeroValue116 }
open Go.Sort Go.RowKit in
theorem Tryd.slices_Sort_int (blk off cap:Nat) (zs:List Int) (w:World) (hH:Holds (Value.int .i64) w blk off zs.toArray) (hblk:blk<w.heap.size) (hsz:zs.length<4611686018427387904) :
  Calls Tryd.prog 57 #[.slice (some ⟨blk,off,none⟩) zs.length cap] w fun e w' =>
   e=.returned (.tuple #[])∧∃ n os,w'=grow (putRow (Value.int .i64) (Sort.ahead w n) blk off (zs.mergeSort fun x y=>decide (x≤y)).toArray) os:=Any.slices_Sort_int Tryd.lays189 blk off cap zs w hH hblk hsz
def Tryd.laysNm215_ren:Go.Shelf.Ren:=⟨fun | 15=>25 | n=>n,fun | 22=>31 | 3=>3 | 4=>4 | n=>n,fun | n=>n⟩
theorem Tryd.laysNm215:Go.Proofs.Lays2.n15 Tryd.prog Tryd.laysNm215_ren:={
 mixed:=by kernel_rfl
 f15:=Tryd.func25.trans (congrArg some (by kernel_rfl))
 t3:=Tryd.underlying3
 a3:=Tryd.isAgg3
 z3:=Tryd.sizeOf3
 v3:=Tryd.zeroValue3
 t4:=Tryd.underlying4
 a4:=Tryd.isAgg4
 z4:=Tryd.sizeOf4
 v4:=Tryd.zeroValue4
 t22:=Tryd.underlying31
 a22:=Tryd.isAgg31
 z22:=Tryd.sizeOf31
 v22:=Tryd.zeroValue31
 i3:=by kernel_rfl }
open Go.RowKit Go.Lib in
theorem Tryd.slices_Clone_int (b off n c:Nat) (zs:List Int) (w:World) (hz:n≤zs.length) (hbig:n*8≤140737488355328) (hc:∀ j,j<zs.length→w.cell? ⟨b,off+j,none⟩=some (.int .i64 (zs.getD j 0))) :
  Calls Tryd.prog 25 #[.slice (some ⟨b,off,none⟩) n c] w fun e w'=>∃ v',e=.returned v'∧w'.ownsRow w.heap.size 3 1 v' n ((zs.take n).map (Value.int .i64))∧v'≠.slice none 0 0∧Below w.heap.size w w':=Any.slices_Clone_int Tryd.laysNm215 b off n c zs w hz hbig hc
open Go.RowKit Go.Lib in
theorem Tryd.slices_Clone_int_nil (n c:Nat) (w:World) :
  Calls Tryd.prog 25 #[.slice none n c] w fun e w'=>e=.returned (.slice none 0 0)∧w'=w:=Any.slices_Clone_int_nil Tryd.laysNm215 n c w
open Go.RowKit Go.Lib in
theorem Tryd.slices_Clone_int_zero (a:Addr) (c:Nat) (w:World) :
  Calls Tryd.prog 25 #[.slice (some a) 0 c] w fun e w'=>∃ v',e=.returned v'∧w'.ownsRow w.heap.size 3 1 v' 0 []∧v'≠.slice none 0 0∧Below w.heap.size w w':=Any.slices_Clone_int_zero Tryd.laysNm215 a c w
open Go.RowKit Go.Sort in
theorem Tryd.slices_Sort_int_none (p:Option Addr) (cap:Nat) (w:World) :
  Calls Tryd.prog 57 #[.slice p 0 cap] w fun e w'=>e=.returned (.tuple #[])∧w'=w:=Any.slices_Sort_int_none Tryd.lays189 p cap w
end Go.Proofs
namespace Go.Abs
open Go.Proofs
def fnTable:List (Option Nat):=[none,none,none,some 267,some 268,some 274,some 275,some 276,some 277,some 140,some 134,some 160,some 285,some 232,some 286,some 287,some 288,some 161,some 153,some 154,some 289,some 290,some 171,some 159,some 165,some 188,some 295,some 236,some 296,some 170,some 242,some 177,some 183,some 207,some 208,some 187,some 190,some 191,some 192,some 193,some 194,some 195,some 167,some 151,some 305,some 306,some 307,some 308,some 309,some 310,some 311,some 312,some 206,some 91,some 234,some 235,some 196,some 138,some 181,some 321,some 238,some 239,some 322,some 323,some 258,some 259,some 169,some 324,some 264,some 265,some 197,some 198,some 199,some 200,some 201,some 202,some 203,some 204,some 205,some 266,some 237,some 240,some 241,some 260,none,none,none,none,none,none,none,none,none,none,none,none,none,none,none,none,none,none,none,some 121]
def datTable:List Nat:=[91,115,120,121,134,140,151,153,159,160,161,165,167,170,171,177,181,188,190,191,192,193,195,197,198,199,200,201,202,203,204,205,206,234,235,237,238,240,241,242,258,259,260,267,268,274,275,288,289,295]
def globTable:List (Nat × List AVal):=[(0,[.int .i64 2,.int .i64 2,.int .i64 2,.int .i64 2,.int .i64 2,.int .i64 2,.int .i64 2,.int .i64 1,.int .i64 2,.int .i64 1,.int .i64 2,.int .i64 3])]
noncomputable def env:Env:={ P:=Tryd.prog,fm:=fun f=>(fnTable[f]?).join,tm:=fun _=>none,glob:=fun g=>(globTable.find? (·.1==g)).map (·.2),dat:=fun k=>datTable.contains k }
end Go.Abs
