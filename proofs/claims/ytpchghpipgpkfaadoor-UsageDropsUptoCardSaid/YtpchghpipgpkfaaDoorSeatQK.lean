/-
  The seat's table of functions: each is the program's, as the kernel checks. Conditions: none.
-/
import Derived.Test.YtpchghpipgpkfaaDoorSeatPF
import Derived.Test.YtpchghpipgpkfaaDoorSeatPV
import Derived.Test.YtpchghpipgpkfaaDoorUK
import Derived.Test.YtpchghpipgpkfaaDoorRM
import Derived.KernelRfl
set_option linter.unusedVariables false
set_option maxRecDepth 100000
set_option maxHeartbeats 4000000
namespace Go.Abs
open Go.Proofs Go.RowKit
def qh3:Nat→Option AFn
 | 132=>some fn132
 | 133=>some fn133
 | 134=>some fn134
 | 139=>some fn139
 | 151=>some fn151
 | 153=>some fn153
 | 154=>some fn154
 | 159=>some fm159
 | 160=>some fm160
 | 161=>some fn161
 | 162=>some fn162
 | 163=>some fn163
 | 164=>some fn164
 | 165=>some fn165
 | 167=>some fn167
 | 171=>some fn171
 | 177=>some fn177
 | 181=>some fn181
 | 183=>some fn183
 | 187=>some fm187
 | 189=>some fn189
 | 190=>some fn190
 | 191=>some fn191
 | 192=>some fn192
 | 193=>some fn193
 | 194=>some fn194
 | 195=>some fn195
 | 196=>some fn196
 | 207=>some fn207
 | 208=>some fn208
 | 232=>some fn232
 | 234=>some fn234
 | 235=>some fn235
 | 236=>some fn236
 | 242=>some fn242
 | 256=>some fn256
 | 258=>some fn258
 | 259=>some fn259
 | 264=>some fn264
 | 265=>some fn265
 | 266=>some fn266
 | 274=>some fn274
 | 275=>some fn275
 | 283=>some fn283
 | 285=>some fn285
 | 287=>some fn287
 | 288=>some fn288
 | 289=>some fn289
 | 293=>some fn293
 | 294=>some fn294
 | 295=>some fn295
 | 297=>some fn297
 | 298=>some fn298
 | 299=>some fn299
 | 300=>some fn300
 | 301=>some fn301
 | 302=>some fn302
 | 303=>some fn303
 | 304=>some fn304
 | 313=>some fn313
 | 314=>some fn314
 | 315=>some fn315
 | 316=>some fn316
 | 317=>some fn317
 | 318=>some fn318
 | 319=>some fn319
 | 320=>some fn320
 | 331=>some fn331
 | 340=>some fn340
 | 341=>some fn341
 | _=>none
noncomputable def qe7 (k:Nat):Option (List AVal→Heap→Option (ARes × Heap)) :=
 match qh3 k with | some _=>none | none=>if k=188 then some qjx else if k=138 then some qoS else if k=286 then some qiw else some fun _ _=>none
noncomputable def lib:Lib:={ pure:=fun _=>true,summ:=qe7,fns:=qh3 }
theorem qw7:((Tryd.prog.funcs[qcb 132]?).bind fun fn=>fn.body.map fun c=>(qaF fn.ntmps c,cFn env fn fn132.body c))=some (true,fn132):=by kernel_rfl
theorem qw8:((Tryd.prog.funcs[qcb 133]?).bind fun fn=>fn.body.map fun c=>(qaF fn.ntmps c,cFn env fn fn133.body c))=some (true,fn133):=by kernel_rfl
theorem qw9:((Tryd.prog.funcs[qcb 134]?).bind fun fn=>fn.body.map fun c=>(qaF fn.ntmps c,cFn env fn fn134.body c))=some (true,fn134):=by kernel_rfl
theorem qxa:((Tryd.prog.funcs[qcb 139]?).bind fun fn=>fn.body.map fun c=>(qaF fn.ntmps c,cFn env fn fn139.body c))=some (true,fn139):=by kernel_rfl
theorem qxb:((Tryd.prog.funcs[qcb 151]?).bind fun fn=>fn.body.map fun c=>(qaF fn.ntmps c,cFn env fn fn151.body c))=some (true,fn151):=by kernel_rfl
theorem qxc:((Tryd.prog.funcs[qcb 153]?).bind fun fn=>fn.body.map fun c=>(qaF fn.ntmps c,cFn env fn fn153.body c))=some (true,fn153):=by kernel_rfl
theorem qxd:((Tryd.prog.funcs[qcb 154]?).bind fun fn=>fn.body.map fun c=>(qaF fn.ntmps c,cFn env fn fn154.body c))=some (true,fn154):=by kernel_rfl
theorem qxe:((Tryd.prog.funcs[qcb 159]?).bind fun fn=>fn.body.map fun c=>(qaF fn.ntmps c,cFn env fn fm159.body c))=some (true,fm159):=by kernel_rfl
theorem qxf:((Tryd.prog.funcs[qcb 160]?).bind fun fn=>fn.body.map fun c=>(qaF fn.ntmps c,cFn env fn fm160.body c))=some (true,fm160):=by kernel_rfl
theorem qxg:((Tryd.prog.funcs[qcb 161]?).bind fun fn=>fn.body.map fun c=>(qaF fn.ntmps c,cFn env fn fn161.body c))=some (true,fn161):=by kernel_rfl
theorem qxh:((Tryd.prog.funcs[qcb 162]?).bind fun fn=>fn.body.map fun c=>(qaF fn.ntmps c,cFn env fn fn162.body c))=some (true,fn162):=by kernel_rfl
theorem qxi:((Tryd.prog.funcs[qcb 163]?).bind fun fn=>fn.body.map fun c=>(qaF fn.ntmps c,cFn env fn fn163.body c))=some (true,fn163):=by kernel_rfl
theorem qxj:((Tryd.prog.funcs[qcb 164]?).bind fun fn=>fn.body.map fun c=>(qaF fn.ntmps c,cFn env fn fn164.body c))=some (true,fn164):=by kernel_rfl
theorem qxk:((Tryd.prog.funcs[qcb 165]?).bind fun fn=>fn.body.map fun c=>(qaF fn.ntmps c,cFn env fn fn165.body c))=some (true,fn165):=by kernel_rfl
theorem qxl:((Tryd.prog.funcs[qcb 167]?).bind fun fn=>fn.body.map fun c=>(qaF fn.ntmps c,cFn env fn fn167.body c))=some (true,fn167):=by kernel_rfl
theorem qxm:((Tryd.prog.funcs[qcb 171]?).bind fun fn=>fn.body.map fun c=>(qaF fn.ntmps c,cFn env fn fn171.body c))=some (true,fn171):=by kernel_rfl
theorem qxn:((Tryd.prog.funcs[qcb 177]?).bind fun fn=>fn.body.map fun c=>(qaF fn.ntmps c,cFn env fn fn177.body c))=some (true,fn177):=by kernel_rfl
theorem qxo:((Tryd.prog.funcs[qcb 181]?).bind fun fn=>fn.body.map fun c=>(qaF fn.ntmps c,cFn env fn fn181.body c))=some (true,fn181):=by kernel_rfl
theorem qxp:((Tryd.prog.funcs[qcb 183]?).bind fun fn=>fn.body.map fun c=>(qaF fn.ntmps c,cFn env fn fn183.body c))=some (true,fn183):=by kernel_rfl
theorem qxq:((Tryd.prog.funcs[qcb 187]?).bind fun fn=>fn.body.map fun c=>(qaF fn.ntmps c,cFn env fn fm187.body c))=some (true,fm187):=by kernel_rfl
theorem qxr:((Tryd.prog.funcs[qcb 189]?).bind fun fn=>fn.body.map fun c=>(qaF fn.ntmps c,cFn env fn fn189.body c))=some (true,fn189):=by kernel_rfl
theorem qxs:((Tryd.prog.funcs[qcb 190]?).bind fun fn=>fn.body.map fun c=>(qaF fn.ntmps c,cFn env fn fn190.body c))=some (true,fn190):=by kernel_rfl
theorem qxt:((Tryd.prog.funcs[qcb 191]?).bind fun fn=>fn.body.map fun c=>(qaF fn.ntmps c,cFn env fn fn191.body c))=some (true,fn191):=by kernel_rfl
theorem qxu:((Tryd.prog.funcs[qcb 192]?).bind fun fn=>fn.body.map fun c=>(qaF fn.ntmps c,cFn env fn fn192.body c))=some (true,fn192):=by kernel_rfl
theorem qxv:((Tryd.prog.funcs[qcb 193]?).bind fun fn=>fn.body.map fun c=>(qaF fn.ntmps c,cFn env fn fn193.body c))=some (true,fn193):=by kernel_rfl
theorem qxw:((Tryd.prog.funcs[qcb 194]?).bind fun fn=>fn.body.map fun c=>(qaF fn.ntmps c,cFn env fn fn194.body c))=some (true,fn194):=by kernel_rfl
theorem qxx:((Tryd.prog.funcs[qcb 195]?).bind fun fn=>fn.body.map fun c=>(qaF fn.ntmps c,cFn env fn fn195.body c))=some (true,fn195):=by kernel_rfl
theorem qxy:((Tryd.prog.funcs[qcb 196]?).bind fun fn=>fn.body.map fun c=>(qaF fn.ntmps c,cFn env fn fn196.body c))=some (true,fn196):=by kernel_rfl
theorem qxz:((Tryd.prog.funcs[qcb 207]?).bind fun fn=>fn.body.map fun c=>(qaF fn.ntmps c,cFn env fn fn207.body c))=some (true,fn207):=by kernel_rfl
theorem qxA:((Tryd.prog.funcs[qcb 208]?).bind fun fn=>fn.body.map fun c=>(qaF fn.ntmps c,cFn env fn fn208.body c))=some (true,fn208):=by kernel_rfl
theorem qxB:((Tryd.prog.funcs[qcb 232]?).bind fun fn=>fn.body.map fun c=>(qaF fn.ntmps c,cFn env fn fn232.body c))=some (true,fn232):=by kernel_rfl
theorem qxC:((Tryd.prog.funcs[qcb 234]?).bind fun fn=>fn.body.map fun c=>(qaF fn.ntmps c,cFn env fn fn234.body c))=some (true,fn234):=by kernel_rfl
theorem qxD:((Tryd.prog.funcs[qcb 235]?).bind fun fn=>fn.body.map fun c=>(qaF fn.ntmps c,cFn env fn fn235.body c))=some (true,fn235):=by kernel_rfl
theorem qxE:((Tryd.prog.funcs[qcb 236]?).bind fun fn=>fn.body.map fun c=>(qaF fn.ntmps c,cFn env fn fn236.body c))=some (true,fn236):=by kernel_rfl
theorem qxF:((Tryd.prog.funcs[qcb 242]?).bind fun fn=>fn.body.map fun c=>(qaF fn.ntmps c,cFn env fn fn242.body c))=some (true,fn242):=by kernel_rfl
theorem qxG:((Tryd.prog.funcs[qcb 256]?).bind fun fn=>fn.body.map fun c=>(qaF fn.ntmps c,cFn env fn fn256.body c))=some (true,fn256):=by kernel_rfl
theorem qxH:((Tryd.prog.funcs[qcb 258]?).bind fun fn=>fn.body.map fun c=>(qaF fn.ntmps c,cFn env fn fn258.body c))=some (true,fn258):=by kernel_rfl
theorem qxI:((Tryd.prog.funcs[qcb 259]?).bind fun fn=>fn.body.map fun c=>(qaF fn.ntmps c,cFn env fn fn259.body c))=some (true,fn259):=by kernel_rfl
theorem qxJ:((Tryd.prog.funcs[qcb 264]?).bind fun fn=>fn.body.map fun c=>(qaF fn.ntmps c,cFn env fn fn264.body c))=some (true,fn264):=by kernel_rfl
theorem qxK:((Tryd.prog.funcs[qcb 265]?).bind fun fn=>fn.body.map fun c=>(qaF fn.ntmps c,cFn env fn fn265.body c))=some (true,fn265):=by kernel_rfl
theorem qxL:((Tryd.prog.funcs[qcb 266]?).bind fun fn=>fn.body.map fun c=>(qaF fn.ntmps c,cFn env fn fn266.body c))=some (true,fn266):=by kernel_rfl
theorem qxM:((Tryd.prog.funcs[qcb 274]?).bind fun fn=>fn.body.map fun c=>(qaF fn.ntmps c,cFn env fn fn274.body c))=some (true,fn274):=by kernel_rfl
theorem qxN:((Tryd.prog.funcs[qcb 275]?).bind fun fn=>fn.body.map fun c=>(qaF fn.ntmps c,cFn env fn fn275.body c))=some (true,fn275):=by kernel_rfl
theorem qxO:((Tryd.prog.funcs[qcb 283]?).bind fun fn=>fn.body.map fun c=>(qaF fn.ntmps c,cFn env fn fn283.body c))=some (true,fn283):=by kernel_rfl
theorem qxP:((Tryd.prog.funcs[qcb 285]?).bind fun fn=>fn.body.map fun c=>(qaF fn.ntmps c,cFn env fn fn285.body c))=some (true,fn285):=by kernel_rfl
theorem qxQ:((Tryd.prog.funcs[qcb 287]?).bind fun fn=>fn.body.map fun c=>(qaF fn.ntmps c,cFn env fn fn287.body c))=some (true,fn287):=by kernel_rfl
theorem qxR:((Tryd.prog.funcs[qcb 288]?).bind fun fn=>fn.body.map fun c=>(qaF fn.ntmps c,cFn env fn fn288.body c))=some (true,fn288):=by kernel_rfl
theorem qxS:((Tryd.prog.funcs[qcb 289]?).bind fun fn=>fn.body.map fun c=>(qaF fn.ntmps c,cFn env fn fn289.body c))=some (true,fn289):=by kernel_rfl
theorem qxT:((Tryd.prog.funcs[qcb 293]?).bind fun fn=>fn.body.map fun c=>(qaF fn.ntmps c,cFn env fn fn293.body c))=some (true,fn293):=by kernel_rfl
theorem qxU:((Tryd.prog.funcs[qcb 294]?).bind fun fn=>fn.body.map fun c=>(qaF fn.ntmps c,cFn env fn fn294.body c))=some (true,fn294):=by kernel_rfl
theorem qxV:((Tryd.prog.funcs[qcb 295]?).bind fun fn=>fn.body.map fun c=>(qaF fn.ntmps c,cFn env fn fn295.body c))=some (true,fn295):=by kernel_rfl
theorem qxW:((Tryd.prog.funcs[qcb 297]?).bind fun fn=>fn.body.map fun c=>(qaF fn.ntmps c,cFn env fn fn297.body c))=some (true,fn297):=by kernel_rfl
theorem qxX:((Tryd.prog.funcs[qcb 298]?).bind fun fn=>fn.body.map fun c=>(qaF fn.ntmps c,cFn env fn fn298.body c))=some (true,fn298):=by kernel_rfl
theorem qxY:((Tryd.prog.funcs[qcb 299]?).bind fun fn=>fn.body.map fun c=>(qaF fn.ntmps c,cFn env fn fn299.body c))=some (true,fn299):=by kernel_rfl
theorem qxZ:((Tryd.prog.funcs[qcb 300]?).bind fun fn=>fn.body.map fun c=>(qaF fn.ntmps c,cFn env fn fn300.body c))=some (true,fn300):=by kernel_rfl
theorem qx0:((Tryd.prog.funcs[qcb 301]?).bind fun fn=>fn.body.map fun c=>(qaF fn.ntmps c,cFn env fn fn301.body c))=some (true,fn301):=by kernel_rfl
theorem qx1:((Tryd.prog.funcs[qcb 302]?).bind fun fn=>fn.body.map fun c=>(qaF fn.ntmps c,cFn env fn fn302.body c))=some (true,fn302):=by kernel_rfl
theorem qx2:((Tryd.prog.funcs[qcb 303]?).bind fun fn=>fn.body.map fun c=>(qaF fn.ntmps c,cFn env fn fn303.body c))=some (true,fn303):=by kernel_rfl
theorem qx3:((Tryd.prog.funcs[qcb 304]?).bind fun fn=>fn.body.map fun c=>(qaF fn.ntmps c,cFn env fn fn304.body c))=some (true,fn304):=by kernel_rfl
theorem qx4:((Tryd.prog.funcs[qcb 313]?).bind fun fn=>fn.body.map fun c=>(qaF fn.ntmps c,cFn env fn fn313.body c))=some (true,fn313):=by kernel_rfl
theorem qx5:((Tryd.prog.funcs[qcb 314]?).bind fun fn=>fn.body.map fun c=>(qaF fn.ntmps c,cFn env fn fn314.body c))=some (true,fn314):=by kernel_rfl
theorem qx6:((Tryd.prog.funcs[qcb 315]?).bind fun fn=>fn.body.map fun c=>(qaF fn.ntmps c,cFn env fn fn315.body c))=some (true,fn315):=by kernel_rfl
theorem qx7:((Tryd.prog.funcs[qcb 316]?).bind fun fn=>fn.body.map fun c=>(qaF fn.ntmps c,cFn env fn fn316.body c))=some (true,fn316):=by kernel_rfl
theorem qx8:((Tryd.prog.funcs[qcb 317]?).bind fun fn=>fn.body.map fun c=>(qaF fn.ntmps c,cFn env fn fn317.body c))=some (true,fn317):=by kernel_rfl
theorem qx9:((Tryd.prog.funcs[qcb 318]?).bind fun fn=>fn.body.map fun c=>(qaF fn.ntmps c,cFn env fn fn318.body c))=some (true,fn318):=by kernel_rfl
theorem qya:((Tryd.prog.funcs[qcb 319]?).bind fun fn=>fn.body.map fun c=>(qaF fn.ntmps c,cFn env fn fn319.body c))=some (true,fn319):=by kernel_rfl
theorem qyb:((Tryd.prog.funcs[qcb 320]?).bind fun fn=>fn.body.map fun c=>(qaF fn.ntmps c,cFn env fn fn320.body c))=some (true,fn320):=by kernel_rfl
theorem qyc:((Tryd.prog.funcs[qcb 331]?).bind fun fn=>fn.body.map fun c=>(qaF fn.ntmps c,cFn env fn fn331.body c))=some (true,fn331):=by kernel_rfl
theorem qyd:((Tryd.prog.funcs[qcb 340]?).bind fun fn=>fn.body.map fun c=>(qaF fn.ntmps c,cFn env fn fn340.body c))=some (true,fn340):=by kernel_rfl
theorem qye:((Tryd.prog.funcs[qcb 341]?).bind fun fn=>fn.body.map fun c=>(qaF fn.ntmps c,cFn env fn fn341.body c))=some (true,fn341):=by kernel_rfl
theorem qzh:∀ f k,env.fm f=some k→FnOk env lib f k:=by
 intro f k hf
 have:=qwl f k hf
 subst this
 by_cases h0:k=188
 ·subst h0
  have e:qcb 188=58:=by kernel_rfl
  rw[e]
  exact⟨.inl ⟨qjx,rfl,qsD⟩⟩
 by_cases h1:k=138
 ·subst h1
  have e:qcb 138=98:=by kernel_rfl
  rw[e]
  exact⟨.inl ⟨qoS,rfl,qv7⟩⟩
 by_cases h2:k=286
 ·subst h2
  have e:qcb 286=53:=by kernel_rfl
  rw[e]
  exact⟨.inl ⟨qiw,rfl,qt5⟩⟩
 cases hx:qh3 k with
 | none =>
   refine⟨.inl ⟨fun _ _=>none,?_,quc env _⟩⟩
   show qe7 k=_
   unfold qe7
   rw[hx]
   dsimp only
   rw[if_neg h0,if_neg h1,if_neg h2]
 | some fn =>
   have hs:lib.summ k=none:=by
    show qe7 k=_
    unfold qe7
    rw[hx]
   have hx2:=hx
   unfold qh3 at hx
   split at hx
   ·exact qaD hs rfl qw7
   ·exact qaD hs rfl qw8
   ·exact qaD hs rfl qw9
   ·exact qaD hs rfl qxa
   ·exact qaD hs rfl qxb
   ·exact qaD hs rfl qxc
   ·exact qaD hs rfl qxd
   ·exact qaD hs rfl qxe
   ·exact qaD hs rfl qxf
   ·exact qaD hs rfl qxg
   ·exact qaD hs rfl qxh
   ·exact qaD hs rfl qxi
   ·exact qaD hs rfl qxj
   ·exact qaD hs rfl qxk
   ·exact qaD hs rfl qxl
   ·exact qaD hs rfl qxm
   ·exact qaD hs rfl qxn
   ·exact qaD hs rfl qxo
   ·exact qaD hs rfl qxp
   ·exact qaD hs rfl qxq
   ·exact qaD hs rfl qxr
   ·exact qaD hs rfl qxs
   ·exact qaD hs rfl qxt
   ·exact qaD hs rfl qxu
   ·exact qaD hs rfl qxv
   ·exact qaD hs rfl qxw
   ·exact qaD hs rfl qxx
   ·exact qaD hs rfl qxy
   ·exact qaD hs rfl qxz
   ·exact qaD hs rfl qxA
   ·exact qaD hs rfl qxB
   ·exact qaD hs rfl qxC
   ·exact qaD hs rfl qxD
   ·exact qaD hs rfl qxE
   ·exact qaD hs rfl qxF
   ·exact qaD hs rfl qxG
   ·exact qaD hs rfl qxH
   ·exact qaD hs rfl qxI
   ·exact qaD hs rfl qxJ
   ·exact qaD hs rfl qxK
   ·exact qaD hs rfl qxL
   ·exact qaD hs rfl qxM
   ·exact qaD hs rfl qxN
   ·exact qaD hs rfl qxO
   ·exact qaD hs rfl qxP
   ·exact qaD hs rfl qxQ
   ·exact qaD hs rfl qxR
   ·exact qaD hs rfl qxS
   ·exact qaD hs rfl qxT
   ·exact qaD hs rfl qxU
   ·exact qaD hs rfl qxV
   ·exact qaD hs rfl qxW
   ·exact qaD hs rfl qxX
   ·exact qaD hs rfl qxY
   ·exact qaD hs rfl qxZ
   ·exact qaD hs rfl qx0
   ·exact qaD hs rfl qx1
   ·exact qaD hs rfl qx2
   ·exact qaD hs rfl qx3
   ·exact qaD hs rfl qx4
   ·exact qaD hs rfl qx5
   ·exact qaD hs rfl qx6
   ·exact qaD hs rfl qx7
   ·exact qaD hs rfl qx8
   ·exact qaD hs rfl qx9
   ·exact qaD hs rfl qya
   ·exact qaD hs rfl qyb
   ·exact qaD hs rfl qyc
   ·exact qaD hs rfl qyd
   ·exact qaD hs rfl qye
   ·cases hx
theorem qvH:qbD env (call lib):=qwL qwj lib qzh
theorem qhu:Plain lib:=by
 refine⟨fun _=>rfl,fun f hf=>?_⟩
 show qe7 f=none
 have hf':qh3 f≠none:=hf
 unfold qe7
 cases hx:qh3 f with
 | none=>exact absurd hx hf'
 | some _=>rfl
theorem qtF {f:Nat} {args:List AVal} {v:AVal} {s:List AVal→Heap→Option (ARes × Heap)} (hs:lib.summ f=some s) (h1:s args []=some (.val v,[])) (hw:wipeR v=v) (hd:qax v=true) (h:Heap) :
  pcall lib f args h=some (.val v,h):=by
 have:call lib f args []=some (.val v,[]):=qdP hs h1
 exact qb5 this (by rw[qqy (by rw[hw];exact hd),hw]) hd h
theorem qwM (l:List Int) (h:Heap) (hl:l.length<2 ^ 30):qjx [.list (l.map qau) none] h=some (.val (qjy l h.length),h++qgq l):=by
 unfold qjx
 dsimp only
 rw[qqL,List.length_map]
 by_cases hz:l=[]
 ·subst hz
  simp[qjy,qgq]
 ·have:l.map qau≠[]:=by simpa using hz
  rw[qjz hz,qjw hz,if_pos (by simp[hl]),if_neg this]
theorem lib_mut:MPrims lib:=⟨fun l h hl=>qdP (s:=qjx) rfl (qwM l h hl)⟩
theorem qoc:CPrims lib qa0:=by
 refine⟨fun l h hl=>?_,fun l hne hl=>?_,fun h=>?_⟩
 ·have h1:=lib_mut.clone l [] hl
  refine qb5 h1 ?_ (by rw[qaT];exact qah l) h
  rcases qeO l with ⟨h2,h3⟩ | ⟨h2,h3⟩
  ·rw[h2,h3,qg4 h3]
   rfl
  ·rw[h2,h3]
   unfold qeo
   have hv:viewV ([]++[.vec (l.map qau) 1]) (.vec ([]:Heap).length l.length)=.list (l.map qau) none:=(HInts.view (H:=[.vec (l.map qau) 1]) (l:=l) (v:=.vec 0 l.length) (f:=[0]) (.inr ⟨qfW h3,0,rfl,rfl,rfl⟩) 1999)
   rw[if_neg (by simp[wipeR,wipe,wipeCell,qax]),hv]
   rfl
 ·refine qdP (s:=qoS) rfl ?_
  unfold qoS
  have hx:∃ m,l.length=m+1:=⟨l.length-1,by have:=List.length_pos_iff.2 hne;omega⟩
  dsimp only
  rw[qqL,List.length_map,qs7]
  simp[hl]
 ·exact qtF (s:=qoS) rfl rfl rfl rfl h
theorem qtl (h:Heap):call lib 138 [.list [] none] h=some (.val (.tuple []),h):=qdP (s:=qoS) rfl rfl
theorem qvJ:∀ (t:CTree),TFit t→qaJ t<2 ^ 30→∀ h:Heap,pcall lib 159 [qaw t] h=some (.val (.list ((qbT t).map qam) none),h):=fun t hf hs h=>qvK qhu qoc rfl rfl t hf hs h
theorem qvI:CLib lib:=by
 constructor
 case plain=>exact qhu
 case prims=>exact qoc
 case grow=>exact fun e h hl hf hT hh=>qrG qhu lib_mut rfl e h hl hf hT hh
 all_goals rfl
theorem qzi:RLib lib:=by
 constructor
 case toCLib=>exact qvI
 case list=>exact qvJ
 case mprims=>exact lib_mut
 all_goals rfl
end Go.Abs
