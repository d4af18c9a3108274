/-
  PARTS OF A PROOF, joined: an abstract machine for quiet code, its evaluation, and what the seat's functions answer on it. Conditions: none.
-/
import Derived.Shelf.Sort.Plain
import Derived.Ground.Names2Prog
import Derived.Shelf.Slices.Clone
import Derived.Shelf.Slices.In.SortNone
import Derived.Test.YtpchghpipgpkfaaDoorProg
import Derived.Test.YtpchghpipgpkfaaDoorAbsN
namespace Go.Proofs
open Go.Shelf
def Tryd.lays189_ren:Go.Shelf.Ren:=⟨fun | 189=>98 | 125=>83 | 257=>112 | 128=>108 | 129=>109 | 294=>120 | 295=>121 | 296=>122 | 297=>123 | 298=>124 | 299=>125 | 216=>126 | 300=>127 | 301=>128 | 328=>131 | 329=>114 | 330=>115 | 331=>132 | 332=>133 | 215=>84 | 343=>134 | n=>n,fun | 28=>40 | 3=>3 | 46=>126 | 0=>0 | 51=>145 | 53=>147 | 4=>4 | 183=>139 | 182=>138 | 131=>111 | 5=>5 | 9=>9 | 218=>151 | 222=>155 | 228=>165 | 229=>166 | n=>n,fun | n=>n⟩
theorem Tryd.lays189:Go.Proofs.Lays.n189 Tryd.prog Tryd.lays189_ren:={
 mixed:=by kernel_rfl
 f125:=Tryd.func83.trans (congrArg some (by kernel_rfl))
 f128:=Tryd.func108.trans (congrArg some (by kernel_rfl))
 f129:=Tryd.func109.trans (congrArg some (by kernel_rfl))
 f189:=Tryd.func98.trans (congrArg some (by kernel_rfl))
 f215:=Tryd.func84.trans (congrArg some (by kernel_rfl))
 f216:=Tryd.func126.trans (congrArg some (by kernel_rfl))
 f257:=Tryd.func112.trans (congrArg some (by kernel_rfl))
 f294:=Tryd.func120.trans (congrArg some (by kernel_rfl))
 f295:=Tryd.func121.trans (congrArg some (by kernel_rfl))
 f296:=Tryd.func122.trans (congrArg some (by kernel_rfl))
 f297:=Tryd.func123.trans (congrArg some (by kernel_rfl))
 f298:=Tryd.func124.trans (congrArg some (by kernel_rfl))
 f299:=Tryd.func125.trans (congrArg some (by kernel_rfl))
 f300:=Tryd.func127.trans (congrArg some (by kernel_rfl))
 f301:=Tryd.func128.trans (congrArg some (by kernel_rfl))
 f328:=Tryd.func131.trans (congrArg some (by kernel_rfl))
 f329:=Tryd.func114.trans (congrArg some (by kernel_rfl))
 f330:=Tryd.func115.trans (congrArg some (by kernel_rfl))
 f331:=Tryd.func132.trans (congrArg some (by kernel_rfl))
 f332:=Tryd.func133.trans (congrArg some (by kernel_rfl))
 f343:=Tryd.func134.trans (congrArg some (by kernel_rfl))
 t0:=Tryd.underlying0
 a0:=Tryd.isAgg0
 z0:=Tryd.sizeOf0
 v0:=Tryd.zeroValue0
 t3:=Tryd.underlying3
 a3:=Tryd.isAgg3
 z3:=Tryd.sizeOf3
 v3:=Tryd.zeroValue3
 t4:=Tryd.underlying4
 a4:=Tryd.isAgg4
 z4:=Tryd.sizeOf4
 v4:=Tryd.zeroValue4
 t5:=Tryd.underlying5
 a5:=Tryd.isAgg5
 z5:=Tryd.sizeOf5
 v5:=Tryd.zeroValue5
 t9:=Tryd.underlying9
 a9:=Tryd.isAgg9
 z9:=Tryd.sizeOf9
 v9:=Tryd.zeroValue9
 t28:=Tryd.underlying40
 a28:=Tryd.isAgg40
 z28:=Tryd.sizeOf40
 v28:=Tryd.zeroValue40
 t46:=Tryd.underlying126
 a46:=Tryd.isAgg126
 z46:=Tryd.sizeOf126
 v46:=Tryd.zeroValue126
 t51:=Tryd.underlying145
 a51:=Tryd.isAgg145
 z51:=Tryd.sizeOf145
 v51:=Tryd.zeroValue145
 t53:=Tryd.underlying147
 a53:=Tryd.isAgg147
 z53:=Tryd.sizeOf147
 v53:=Tryd.zeroValue147
 t131:=Tryd.underlying111
 a131:=Tryd.isAgg111
 z131:=Tryd.sizeOf111
 v131:=Tryd.zeroValue111
 t182:=Tryd.underlying138
 a182:=Tryd.isAgg138
 z182:=Tryd.sizeOf138
 v182:=Tryd.zeroValue138
 t183:=Tryd.underlying139
 a183:=Tryd.isAgg139
 z183:=Tryd.sizeOf139
 v183:=Tryd.zeroValue139
 t218:=Tryd.underlying151
 a218:=Tryd.isAgg151
 z218:=Tryd.sizeOf151
 v218:=Tryd.zeroValue151
 t222:=Tryd.underlying155
 a222:=Tryd.isAgg155
 z222:=Tryd.sizeOf155
 v222:=Tryd.zeroValue155
 t228:=Tryd.underlying165
 a228:=Tryd.isAgg165
 z228:=Tryd.sizeOf165
 v228:=Tryd.zeroValue165
 t229:=Tryd.underlying166
 a229:=Tryd.isAgg166
 z229:=Tryd.sizeOf166
 v229:=Tryd.zeroValue166 }
open Go.Sort Go.RowKit in
theorem Tryd.slices_Sort_int (blk off cap:Nat) (zs:List Int) (w:World) (hH:Holds (Value.int .i64) w blk off zs.toArray) (hblk:blk<w.heap.size) (hsz:zs.length<4611686018427387904) :
  Calls Tryd.prog 98 #[.slice (some ⟨blk,off,none⟩) zs.length cap] w fun e w' =>
   e=.returned (.tuple #[])∧∃ n os,w'=grow (putRow (Value.int .i64) (Sort.ahead w n) blk off (zs.mergeSort fun x y=>decide (x≤y)).toArray) os:=Any.slices_Sort_int Tryd.lays189 blk off cap zs w hH hblk hsz
def Tryd.laysNm215_ren:Go.Shelf.Ren:=⟨fun | 15=>58 | n=>n,fun | 22=>40 | 3=>3 | 4=>4 | n=>n,fun | n=>n⟩
theorem Tryd.laysNm215:Go.Proofs.Lays2.n15 Tryd.prog Tryd.laysNm215_ren:={
 mixed:=by kernel_rfl
 f15:=Tryd.func58.trans (congrArg some (by kernel_rfl))
 t3:=Tryd.underlying3
 a3:=Tryd.isAgg3
 z3:=Tryd.sizeOf3
 v3:=Tryd.zeroValue3
 t4:=Tryd.underlying4
 a4:=Tryd.isAgg4
 z4:=Tryd.sizeOf4
 v4:=Tryd.zeroValue4
 t22:=Tryd.underlying40
 a22:=Tryd.isAgg40
 z22:=Tryd.sizeOf40
 v22:=Tryd.zeroValue40
 i3:=by kernel_rfl }
open Go.RowKit Go.Lib in
theorem Tryd.slices_Clone_int (b off n c:Nat) (zs:List Int) (w:World) (hz:n≤zs.length) (hbig:n*8≤140737488355328) (hc:∀ j,j<zs.length→w.cell? ⟨b,off+j,none⟩=some (.int .i64 (zs.getD j 0))) :
  Calls Tryd.prog 58 #[.slice (some ⟨b,off,none⟩) n c] w fun e w'=>∃ v',e=.returned v'∧w'.ownsRow w.heap.size 3 1 v' n ((zs.take n).map (Value.int .i64))∧v'≠.slice none 0 0∧Below w.heap.size w w':=Any.slices_Clone_int Tryd.laysNm215 b off n c zs w hz hbig hc
open Go.RowKit Go.Lib in
theorem Tryd.slices_Clone_int_nil (n c:Nat) (w:World) :
  Calls Tryd.prog 58 #[.slice none n c] w fun e w'=>e=.returned (.slice none 0 0)∧w'=w:=Any.slices_Clone_int_nil Tryd.laysNm215 n c w
open Go.RowKit Go.Lib in
theorem Tryd.slices_Clone_int_zero (a:Addr) (c:Nat) (w:World) :
  Calls Tryd.prog 58 #[.slice (some a) 0 c] w fun e w'=>∃ v',e=.returned v'∧w'.ownsRow w.heap.size 3 1 v' 0 []∧v'≠.slice none 0 0∧Below w.heap.size w w':=Any.slices_Clone_int_zero Tryd.laysNm215 a c w
open Go.RowKit Go.Sort in
theorem Tryd.slices_Sort_int_none (p:Option Addr) (cap:Nat) (w:World) :
  Calls Tryd.prog 98 #[.slice p 0 cap] w fun e w'=>e=.returned (.tuple #[])∧w'=w:=Any.slices_Sort_int_none Tryd.lays189 p cap w
end Go.Proofs
namespace Go.Abs
open Go.Proofs
def fnTable:List (Option Nat):=[none,none,none,some 325,some 326,some 327,some 328,some 329,some 330,some 331,some 282,some 130,some 283,some 140,some 132,some 133,some 332,some 333,some 334,some 335,some 336,some 276,some 337,some 338,some 339,some 278,some 134,some 153,some 154,some 279,some 274,some 275,some 340,some 341,some 161,some 162,some 159,some 160,some 293,some 294,some 171,some 163,some 164,some 177,some 342,some 343,some 344,some 290,some 345,some 165,some 183,some 285,some 232,some 286,some 287,some 288,some 289,some 187,some 188,some 297,some 298,some 299,some 300,some 301,some 302,some 303,some 304,some 207,some 208,some 189,some 346,some 347,some 190,some 191,some 192,some 193,some 194,some 195,some 167,some 151,some 295,some 236,some 296,some 170,some 242,some 313,some 314,some 315,some 316,some 317,some 318,some 319,some 256,some 320,some 139,some 234,some 235,some 196,some 138,some 181,some 305,some 306,some 307,some 308,some 309,some 310,some 311,some 312,some 206,some 91,some 258,some 259,some 169,some 321,some 238,some 239,some 322,some 323,some 264,some 265,some 197,some 198,some 199,some 200,some 201,some 202,some 203,some 204,some 205,some 324,some 266,some 237,some 240,some 241,some 260,none,none,none,none,none,none,none,none,none,none,none,none,none,none,none,none,none,none,none,none,some 121]
def datTable:List Nat:=[91,115,120,121,130,132,133,134,139,140,151,153,159,160,161,162,163,164,165,167,170,171,177,181,188,190,191,192,193,195,197,198,199,200,201,202,203,204,205,206,234,235,237,238,240,241,242,256,258,259,260,274,275,278,279,282,283,288,289,293,295,297,298,299,300,301,302,313,314,315,316,317,318,319,325,326,327,328,329,330,331,332,333,334,335,336,338,339,342,343,344,345,346,347]
def globTable:List (Nat × List AVal):=[(1,[.int .i64 2,.int .i64 2,.int .i64 2,.int .i64 2,.int .i64 2,.int .i64 2,.int .i64 2,.int .i64 1,.int .i64 2,.int .i64 1,.int .i64 2,.int .i64 3])]
noncomputable def env:Env:={ P:=Tryd.prog,fm:=fun f=>(fnTable[f]?).join,tm:=fun _=>none,glob:=fun g=>(globTable.find? (·.1==g)).map (·.2),dat:=fun k=>datTable.contains k }
end Go.Abs
