/-
  PARTS OF A PROOF, joined: an abstract machine for quiet code, its evaluation, and what the seat's functions answer on it. Conditions: none.
-/
import Derived.Shelf.Sort.Plain
import Derived.Ground.Names2Prog
import Derived.Shelf.Slices.Clone
import Derived.Shelf.Slices.In.SortNone
import Derived.Test.YtbmognfolkhkpaaDoorProg
import Derived.Test.YtbmognfolkhkpaaDoorAbsN
namespace Go.Proofs
open Go.Shelf
def Tryd.lays189_ren:Go.Shelf.Ren:=⟨fun | 189=>111 | 125=>67 | 257=>131 | 128=>106 | 129=>107 | 294=>135 | 295=>136 | 296=>137 | 297=>138 | 298=>139 | 299=>140 | 216=>141 | 300=>142 | 301=>143 | 328=>145 | 329=>125 | 330=>126 | 331=>146 | 332=>147 | 215=>68 | 343=>148 | n=>n,fun | 28=>31 | 3=>3 | 46=>120 | 0=>0 | 51=>147 | 53=>149 | 4=>4 | 183=>141 | 182=>140 | 131=>122 | 5=>5 | 9=>9 | 218=>161 | 222=>165 | 228=>170 | 229=>171 | n=>n,fun | n=>n⟩
theorem Tryd.lays189:Go.Proofs.Lays.n189 Tryd.prog Tryd.lays189_ren:={
 mixed:=by kernel_rfl
 f125:=Tryd.func67.trans (congrArg some (by kernel_rfl))
 f128:=Tryd.func106.trans (congrArg some (by kernel_rfl))
 f129:=Tryd.func107.trans (congrArg some (by kernel_rfl))
 f189:=Tryd.func111.trans (congrArg some (by kernel_rfl))
 f215:=Tryd.func68.trans (congrArg some (by kernel_rfl))
 f216:=Tryd.func141.trans (congrArg some (by kernel_rfl))
 f257:=Tryd.func131.trans (congrArg some (by kernel_rfl))
 f294:=Tryd.func135.trans (congrArg some (by kernel_rfl))
 f295:=Tryd.func136.trans (congrArg some (by kernel_rfl))
 f296:=Tryd.func137.trans (congrArg some (by kernel_rfl))
 f297:=Tryd.func138.trans (congrArg some (by kernel_rfl))
 f298:=Tryd.func139.trans (congrArg some (by kernel_rfl))
 f299:=Tryd.func140.trans (congrArg some (by kernel_rfl))
 f300:=Tryd.func142.trans (congrArg some (by kernel_rfl))
 f301:=Tryd.func143.trans (congrArg some (by kernel_rfl))
 f328:=Tryd.func145.trans (congrArg some (by kernel_rfl))
 f329:=Tryd.func125.trans (congrArg some (by kernel_rfl))
 f330:=Tryd.func126.trans (congrArg some (by kernel_rfl))
 f331:=Tryd.func146.trans (congrArg some (by kernel_rfl))
 f332:=Tryd.func147.trans (congrArg some (by kernel_rfl))
 f343:=Tryd.func148.trans (congrArg some (by kernel_rfl))
 t0:=Tryd.underlying0
 a0:=Tryd.isAgg0
 z0:=Tryd.sizeOf0
 v0:=Tryd.zeroValue0
 t3:=Tryd.underlying3
 a3:=Tryd.isAgg3
 z3:=Tryd.sizeOf3
 v3:=Tryd.zeroValue3
 t4:=Tryd.underlying4
 a4:=Tryd.isAgg4
 z4:=Tryd.sizeOf4
 v4:=Tryd.zeroValue4
 t5:=Tryd.underlying5
 a5:=Tryd.isAgg5
 z5:=Tryd.sizeOf5
 v5:=Tryd.zeroValue5
 t9:=Tryd.underlying9
 a9:=Tryd.isAgg9
 z9:=Tryd.sizeOf9
 v9:=Tryd.zeroValue9
 t28:=Tryd.underlying31
 a28:=Tryd.isAgg31
 z28:=Tryd.sizeOf31
 v28:=Tryd.zeroValue31
 t46:=Tryd.underlying120
 a46:=Tryd.isAgg120
 z46:=Tryd.sizeOf120
 v46:=Tryd.zeroValue120
 t51:=Tryd.underlying147
 a51:=Tryd.isAgg147
 z51:=Tryd.sizeOf147
 v51:=Tryd.zeroValue147
 t53:=Tryd.underlying149
 a53:=Tryd.isAgg149
 z53:=Tryd.sizeOf149
 v53:=Tryd.zeroValue149
 t131:=Tryd.underlying122
 a131:=Tryd.isAgg122
 z131:=Tryd.sizeOf122
 v131:=Tryd.zeroValue122
 t182:=Tryd.underlying140
 a182:=Tryd.isAgg140
 z182:=Tryd.sizeOf140
 v182:=Tryd.zeroValue140
 t183:=Tryd.underlying141
 a183:=Tryd.isAgg141
 z183:=Tryd.sizeOf141
 v183:=Tryd.zeroValue141
 t218:=Tryd.underlying161
 a218:=Tryd.isAgg161
 z218:=Tryd.sizeOf161
 v218:=Tryd.zeroValue161
 t222:=Tryd.underlying165
 a222:=Tryd.isAgg165
 z222:=Tryd.sizeOf165
 v222:=Tryd.zeroValue165
 t228:=Tryd.underlying170
 a228:=Tryd.isAgg170
 z228:=Tryd.sizeOf170
 v228:=Tryd.zeroValue170
 t229:=Tryd.underlying171
 a229:=Tryd.isAgg171
 z229:=Tryd.sizeOf171
 v229:=Tryd.zeroValue171 }
open Go.Sort Go.RowKit in
theorem Tryd.slices_Sort_int (blk off cap:Nat) (zs:List Int) (w:World) (hH:Holds (Value.int .i64) w blk off zs.toArray) (hblk:blk<w.heap.size) (hsz:zs.length<4611686018427387904) :
  Calls Tryd.prog 111 #[.slice (some ⟨blk,off,none⟩) zs.length cap] w fun e w' =>
   e=.returned (.tuple #[])∧∃ n os,w'=grow (putRow (Value.int .i64) (Sort.ahead w n) blk off (zs.mergeSort fun x y=>decide (x≤y)).toArray) os:=Any.slices_Sort_int Tryd.lays189 blk off cap zs w hH hblk hsz
def Tryd.laysNm215_ren:Go.Shelf.Ren:=⟨fun | 15=>63 | n=>n,fun | 22=>31 | 3=>3 | 4=>4 | n=>n,fun | n=>n⟩
theorem Tryd.laysNm215:Go.Proofs.Lays2.n15 Tryd.prog Tryd.laysNm215_ren:={
 mixed:=by kernel_rfl
 f15:=Tryd.func63.trans (congrArg some (by kernel_rfl))
 t3:=Tryd.underlying3
 a3:=Tryd.isAgg3
 z3:=Tryd.sizeOf3
 v3:=Tryd.zeroValue3
 t4:=Tryd.underlying4
 a4:=Tryd.isAgg4
 z4:=Tryd.sizeOf4
 v4:=Tryd.zeroValue4
 t22:=Tryd.underlying31
 a22:=Tryd.isAgg31
 z22:=Tryd.sizeOf31
 v22:=Tryd.zeroValue31
 i3:=by kernel_rfl }
open Go.RowKit Go.Lib in
theorem Tryd.slices_Clone_int (b off n c:Nat) (zs:List Int) (w:World) (hz:n≤zs.length) (hbig:n*8≤140737488355328) (hc:∀ j,j<zs.length→w.cell? ⟨b,off+j,none⟩=some (.int .i64 (zs.getD j 0))) :
  Calls Tryd.prog 63 #[.slice (some ⟨b,off,none⟩) n c] w fun e w'=>∃ v',e=.returned v'∧w'.ownsRow w.heap.size 3 1 v' n ((zs.take n).map (Value.int .i64))∧v'≠.slice none 0 0∧Below w.heap.size w w':=Any.slices_Clone_int Tryd.laysNm215 b off n c zs w hz hbig hc
open Go.RowKit Go.Lib in
theorem Tryd.slices_Clone_int_nil (n c:Nat) (w:World) :
  Calls Tryd.prog 63 #[.slice none n c] w fun e w'=>e=.returned (.slice none 0 0)∧w'=w:=Any.slices_Clone_int_nil Tryd.laysNm215 n c w
open Go.RowKit Go.Lib in
theorem Tryd.slices_Clone_int_zero (a:Addr) (c:Nat) (w:World) :
  Calls Tryd.prog 63 #[.slice (some a) 0 c] w fun e w'=>∃ v',e=.returned v'∧w'.ownsRow w.heap.size 3 1 v' 0 []∧v'≠.slice none 0 0∧Below w.heap.size w w':=Any.slices_Clone_int_zero Tryd.laysNm215 a c w
open Go.RowKit Go.Sort in
theorem Tryd.slices_Sort_int_none (p:Option Addr) (cap:Nat) (w:World) :
  Calls Tryd.prog 111 #[.slice p 0 cap] w fun e w'=>e=.returned (.tuple #[])∧w'=w:=Any.slices_Sort_int_none Tryd.lays189 p cap w
end Go.Proofs
namespace Go.Abs
open Go.Proofs
def fnTable:List (Option Nat):=[none,none,none,some 267,some 268,some 269,some 270,some 271,some 272,some 128,some 273,some 274,some 275,some 276,some 277,some 140,some 134,some 278,some 279,some 280,some 281,some 161,some 153,some 282,some 283,some 284,some 133,some 144,some 145,some 152,some 154,some 155,some 156,some 182,some 142,some 160,some 285,some 232,some 286,some 287,some 288,some 289,some 290,some 171,some 159,some 165,some 162,some 291,some 292,some 177,some 132,some 293,some 294,some 164,some 173,some 174,some 139,some 183,some 184,some 185,some 186,some 166,some 168,some 188,some 295,some 236,some 296,some 170,some 242,some 207,some 208,some 187,some 190,some 191,some 192,some 193,some 194,some 195,some 167,some 151,some 141,some 163,some 297,some 298,some 299,some 300,some 301,some 302,some 303,some 304,some 189,some 209,some 210,some 211,some 229,some 230,some 231,some 233,some 305,some 306,some 307,some 308,some 309,some 310,some 311,some 312,some 206,some 91,some 234,some 235,some 196,some 138,some 181,some 313,some 314,some 315,some 316,some 317,some 318,some 319,some 256,some 320,some 243,some 257,some 321,some 238,some 239,some 322,some 323,some 258,some 259,some 169,some 324,some 264,some 265,some 197,some 198,some 199,some 200,some 201,some 202,some 203,some 204,some 205,some 266,some 237,some 240,some 241,some 260,none,none,none,none,none,none,none,none,none,none,none,none,none,none,none,none,none,none,none,some 121]
def datTable:List Nat:=[91,115,120,121,128,132,133,134,139,140,141,142,144,145,151,152,153,155,156,159,160,161,162,163,164,165,166,167,168,170,171,173,174,177,181,182,184,188,190,191,192,193,195,197,198,199,200,201,202,203,204,205,206,209,210,211,229,230,233,234,235,237,238,240,241,242,243,256,257,258,259,260,267,268,269,270,271,272,273,274,275,278,279,280,282,283,288,289,291,292,293,295,297,298,299,300,301,302,313,314,315,316,317,318,319]
def globTable:List (Nat × List AVal):=[(0,[.int .i64 2,.int .i64 2,.int .i64 2,.int .i64 2,.int .i64 2,.int .i64 2,.int .i64 2,.int .i64 1,.int .i64 2,.int .i64 1,.int .i64 2,.int .i64 3])]
noncomputable def env:Env:={ P:=Tryd.prog,fm:=fun f=>(fnTable[f]?).join,tm:=fun _=>none,glob:=fun g=>(globTable.find? (·.1==g)).map (·.2),dat:=fun k=>datTable.contains k }
end Go.Abs
