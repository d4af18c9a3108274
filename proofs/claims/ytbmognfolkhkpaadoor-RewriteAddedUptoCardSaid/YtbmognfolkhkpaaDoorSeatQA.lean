/-
  The seat's table of functions: each is the program's, as the kernel checks. Conditions: none.
-/
import Derived.Test.YtbmognfolkhkpaaDoorSeatPD
import Derived.Test.YtbmognfolkhkpaaDoorRP
import Derived.Test.YtbmognfolkhkpaaDoorRM
import Derived.KernelRfl
set_option linter.unusedVariables false
set_option maxRecDepth 100000
set_option maxHeartbeats 4000000
namespace Go.Abs
open Go.Proofs Go.RowKit
def qji:Nat→Option AFn
 | 132=>some fn132
 | 133=>some fn133
 | 134=>some fn134
 | 139=>some fn139
 | 141=>some fm141
 | 151=>some fn151
 | 153=>some fn153
 | 154=>some fn154
 | 159=>some fm159
 | 160=>some fm160
 | 161=>some fn161
 | 162=>some fn162
 | 163=>some fn163
 | 164=>some fn164
 | 165=>some fn165
 | 167=>some fn167
 | 171=>some fn171
 | 177=>some fn177
 | 181=>some fn181
 | 183=>some fn183
 | 187=>some fm187
 | 189=>some fn189
 | 190=>some fn190
 | 191=>some fn191
 | 192=>some fn192
 | 193=>some fn193
 | 194=>some fn194
 | 195=>some fn195
 | 196=>some fn196
 | 207=>some fn207
 | 208=>some fn208
 | 232=>some fn232
 | 234=>some fn234
 | 235=>some fn235
 | 236=>some fn236
 | 256=>some fn256
 | 258=>some fn258
 | 259=>some fn259
 | 264=>some fn264
 | 265=>some fn265
 | 266=>some fn266
 | 271=>some fn271
 | 280=>some fn280
 | 282=>some fn282
 | 283=>some fn283
 | 284=>some fn284
 | 291=>some fn291
 | 292=>some fn292
 | 293=>some fn293
 | 294=>some fn294
 | 297=>some fn297
 | 298=>some fn298
 | 299=>some fn299
 | 300=>some fn300
 | 301=>some fn301
 | 302=>some fn302
 | 303=>some fn303
 | 304=>some fn304
 | 313=>some fn313
 | 314=>some fn314
 | 315=>some fn315
 | 316=>some fn316
 | 317=>some fn317
 | 318=>some fn318
 | 319=>some fn319
 | 320=>some fn320
 | _=>none
noncomputable def qgd (k:Nat):Option (List AVal→Heap→Option (ARes × Heap)) :=
 match qji k with | some _=>none | none=>if k=188 then some qkB else if k=138 then some qoG else some fun _ _=>none
noncomputable def lib:Lib:={ pure:=fun _=>true,summ:=qgd,fns:=qji }
theorem qwc:((Tryd.prog.funcs[qdw 132]?).bind fun fn=>fn.body.map fun c=>(qbu fn.ntmps c,cFn env fn fn132.body c))=some (true,fn132):=by kernel_rfl
theorem qwd:((Tryd.prog.funcs[qdw 133]?).bind fun fn=>fn.body.map fun c=>(qbu fn.ntmps c,cFn env fn fn133.body c))=some (true,fn133):=by kernel_rfl
theorem qwe:((Tryd.prog.funcs[qdw 134]?).bind fun fn=>fn.body.map fun c=>(qbu fn.ntmps c,cFn env fn fn134.body c))=some (true,fn134):=by kernel_rfl
theorem qwf:((Tryd.prog.funcs[qdw 139]?).bind fun fn=>fn.body.map fun c=>(qbu fn.ntmps c,cFn env fn fn139.body c))=some (true,fn139):=by kernel_rfl
theorem qwg:((Tryd.prog.funcs[qdw 141]?).bind fun fn=>fn.body.map fun c=>(qbu fn.ntmps c,cFn env fn fm141.body c))=some (true,fm141):=by kernel_rfl
theorem qwh:((Tryd.prog.funcs[qdw 151]?).bind fun fn=>fn.body.map fun c=>(qbu fn.ntmps c,cFn env fn fn151.body c))=some (true,fn151):=by kernel_rfl
theorem qwi:((Tryd.prog.funcs[qdw 153]?).bind fun fn=>fn.body.map fun c=>(qbu fn.ntmps c,cFn env fn fn153.body c))=some (true,fn153):=by kernel_rfl
theorem qwj:((Tryd.prog.funcs[qdw 154]?).bind fun fn=>fn.body.map fun c=>(qbu fn.ntmps c,cFn env fn fn154.body c))=some (true,fn154):=by kernel_rfl
theorem qwk:((Tryd.prog.funcs[qdw 159]?).bind fun fn=>fn.body.map fun c=>(qbu fn.ntmps c,cFn env fn fm159.body c))=some (true,fm159):=by kernel_rfl
theorem qwl:((Tryd.prog.funcs[qdw 160]?).bind fun fn=>fn.body.map fun c=>(qbu fn.ntmps c,cFn env fn fm160.body c))=some (true,fm160):=by kernel_rfl
theorem qwm:((Tryd.prog.funcs[qdw 161]?).bind fun fn=>fn.body.map fun c=>(qbu fn.ntmps c,cFn env fn fn161.body c))=some (true,fn161):=by kernel_rfl
theorem qwn:((Tryd.prog.funcs[qdw 162]?).bind fun fn=>fn.body.map fun c=>(qbu fn.ntmps c,cFn env fn fn162.body c))=some (true,fn162):=by kernel_rfl
theorem qwo:((Tryd.prog.funcs[qdw 163]?).bind fun fn=>fn.body.map fun c=>(qbu fn.ntmps c,cFn env fn fn163.body c))=some (true,fn163):=by kernel_rfl
theorem qwp:((Tryd.prog.funcs[qdw 164]?).bind fun fn=>fn.body.map fun c=>(qbu fn.ntmps c,cFn env fn fn164.body c))=some (true,fn164):=by kernel_rfl
theorem qwq:((Tryd.prog.funcs[qdw 165]?).bind fun fn=>fn.body.map fun c=>(qbu fn.ntmps c,cFn env fn fn165.body c))=some (true,fn165):=by kernel_rfl
theorem qwr:((Tryd.prog.funcs[qdw 167]?).bind fun fn=>fn.body.map fun c=>(qbu fn.ntmps c,cFn env fn fn167.body c))=some (true,fn167):=by kernel_rfl
theorem qws:((Tryd.prog.funcs[qdw 171]?).bind fun fn=>fn.body.map fun c=>(qbu fn.ntmps c,cFn env fn fn171.body c))=some (true,fn171):=by kernel_rfl
theorem qwt:((Tryd.prog.funcs[qdw 177]?).bind fun fn=>fn.body.map fun c=>(qbu fn.ntmps c,cFn env fn fn177.body c))=some (true,fn177):=by kernel_rfl
theorem qwu:((Tryd.prog.funcs[qdw 181]?).bind fun fn=>fn.body.map fun c=>(qbu fn.ntmps c,cFn env fn fn181.body c))=some (true,fn181):=by kernel_rfl
theorem qwv:((Tryd.prog.funcs[qdw 183]?).bind fun fn=>fn.body.map fun c=>(qbu fn.ntmps c,cFn env fn fn183.body c))=some (true,fn183):=by kernel_rfl
theorem qww:((Tryd.prog.funcs[qdw 187]?).bind fun fn=>fn.body.map fun c=>(qbu fn.ntmps c,cFn env fn fm187.body c))=some (true,fm187):=by kernel_rfl
theorem qwx:((Tryd.prog.funcs[qdw 189]?).bind fun fn=>fn.body.map fun c=>(qbu fn.ntmps c,cFn env fn fn189.body c))=some (true,fn189):=by kernel_rfl
theorem qwy:((Tryd.prog.funcs[qdw 190]?).bind fun fn=>fn.body.map fun c=>(qbu fn.ntmps c,cFn env fn fn190.body c))=some (true,fn190):=by kernel_rfl
theorem qwz:((Tryd.prog.funcs[qdw 191]?).bind fun fn=>fn.body.map fun c=>(qbu fn.ntmps c,cFn env fn fn191.body c))=some (true,fn191):=by kernel_rfl
theorem qwA:((Tryd.prog.funcs[qdw 192]?).bind fun fn=>fn.body.map fun c=>(qbu fn.ntmps c,cFn env fn fn192.body c))=some (true,fn192):=by kernel_rfl
theorem qwB:((Tryd.prog.funcs[qdw 193]?).bind fun fn=>fn.body.map fun c=>(qbu fn.ntmps c,cFn env fn fn193.body c))=some (true,fn193):=by kernel_rfl
theorem qwC:((Tryd.prog.funcs[qdw 194]?).bind fun fn=>fn.body.map fun c=>(qbu fn.ntmps c,cFn env fn fn194.body c))=some (true,fn194):=by kernel_rfl
theorem qwD:((Tryd.prog.funcs[qdw 195]?).bind fun fn=>fn.body.map fun c=>(qbu fn.ntmps c,cFn env fn fn195.body c))=some (true,fn195):=by kernel_rfl
theorem qwE:((Tryd.prog.funcs[qdw 196]?).bind fun fn=>fn.body.map fun c=>(qbu fn.ntmps c,cFn env fn fn196.body c))=some (true,fn196):=by kernel_rfl
theorem qwF:((Tryd.prog.funcs[qdw 207]?).bind fun fn=>fn.body.map fun c=>(qbu fn.ntmps c,cFn env fn fn207.body c))=some (true,fn207):=by kernel_rfl
theorem qwG:((Tryd.prog.funcs[qdw 208]?).bind fun fn=>fn.body.map fun c=>(qbu fn.ntmps c,cFn env fn fn208.body c))=some (true,fn208):=by kernel_rfl
theorem qwH:((Tryd.prog.funcs[qdw 232]?).bind fun fn=>fn.body.map fun c=>(qbu fn.ntmps c,cFn env fn fn232.body c))=some (true,fn232):=by kernel_rfl
theorem qwI:((Tryd.prog.funcs[qdw 234]?).bind fun fn=>fn.body.map fun c=>(qbu fn.ntmps c,cFn env fn fn234.body c))=some (true,fn234):=by kernel_rfl
theorem qwJ:((Tryd.prog.funcs[qdw 235]?).bind fun fn=>fn.body.map fun c=>(qbu fn.ntmps c,cFn env fn fn235.body c))=some (true,fn235):=by kernel_rfl
theorem qwK:((Tryd.prog.funcs[qdw 236]?).bind fun fn=>fn.body.map fun c=>(qbu fn.ntmps c,cFn env fn fn236.body c))=some (true,fn236):=by kernel_rfl
theorem qwL:((Tryd.prog.funcs[qdw 256]?).bind fun fn=>fn.body.map fun c=>(qbu fn.ntmps c,cFn env fn fn256.body c))=some (true,fn256):=by kernel_rfl
theorem qwM:((Tryd.prog.funcs[qdw 258]?).bind fun fn=>fn.body.map fun c=>(qbu fn.ntmps c,cFn env fn fn258.body c))=some (true,fn258):=by kernel_rfl
theorem qwN:((Tryd.prog.funcs[qdw 259]?).bind fun fn=>fn.body.map fun c=>(qbu fn.ntmps c,cFn env fn fn259.body c))=some (true,fn259):=by kernel_rfl
theorem qwO:((Tryd.prog.funcs[qdw 264]?).bind fun fn=>fn.body.map fun c=>(qbu fn.ntmps c,cFn env fn fn264.body c))=some (true,fn264):=by kernel_rfl
theorem qwP:((Tryd.prog.funcs[qdw 265]?).bind fun fn=>fn.body.map fun c=>(qbu fn.ntmps c,cFn env fn fn265.body c))=some (true,fn265):=by kernel_rfl
theorem qwQ:((Tryd.prog.funcs[qdw 266]?).bind fun fn=>fn.body.map fun c=>(qbu fn.ntmps c,cFn env fn fn266.body c))=some (true,fn266):=by kernel_rfl
theorem qwR:((Tryd.prog.funcs[qdw 271]?).bind fun fn=>fn.body.map fun c=>(qbu fn.ntmps c,cFn env fn fn271.body c))=some (true,fn271):=by kernel_rfl
theorem qwS:((Tryd.prog.funcs[qdw 280]?).bind fun fn=>fn.body.map fun c=>(qbu fn.ntmps c,cFn env fn fn280.body c))=some (true,fn280):=by kernel_rfl
theorem qwT:((Tryd.prog.funcs[qdw 282]?).bind fun fn=>fn.body.map fun c=>(qbu fn.ntmps c,cFn env fn fn282.body c))=some (true,fn282):=by kernel_rfl
theorem qwU:((Tryd.prog.funcs[qdw 283]?).bind fun fn=>fn.body.map fun c=>(qbu fn.ntmps c,cFn env fn fn283.body c))=some (true,fn283):=by kernel_rfl
theorem qwV:((Tryd.prog.funcs[qdw 284]?).bind fun fn=>fn.body.map fun c=>(qbu fn.ntmps c,cFn env fn fn284.body c))=some (true,fn284):=by kernel_rfl
theorem qwW:((Tryd.prog.funcs[qdw 291]?).bind fun fn=>fn.body.map fun c=>(qbu fn.ntmps c,cFn env fn fn291.body c))=some (true,fn291):=by kernel_rfl
theorem qwX:((Tryd.prog.funcs[qdw 292]?).bind fun fn=>fn.body.map fun c=>(qbu fn.ntmps c,cFn env fn fn292.body c))=some (true,fn292):=by kernel_rfl
theorem qwY:((Tryd.prog.funcs[qdw 293]?).bind fun fn=>fn.body.map fun c=>(qbu fn.ntmps c,cFn env fn fn293.body c))=some (true,fn293):=by kernel_rfl
theorem qwZ:((Tryd.prog.funcs[qdw 294]?).bind fun fn=>fn.body.map fun c=>(qbu fn.ntmps c,cFn env fn fn294.body c))=some (true,fn294):=by kernel_rfl
theorem qw0:((Tryd.prog.funcs[qdw 297]?).bind fun fn=>fn.body.map fun c=>(qbu fn.ntmps c,cFn env fn fn297.body c))=some (true,fn297):=by kernel_rfl
theorem qw1:((Tryd.prog.funcs[qdw 298]?).bind fun fn=>fn.body.map fun c=>(qbu fn.ntmps c,cFn env fn fn298.body c))=some (true,fn298):=by kernel_rfl
theorem qw2:((Tryd.prog.funcs[qdw 299]?).bind fun fn=>fn.body.map fun c=>(qbu fn.ntmps c,cFn env fn fn299.body c))=some (true,fn299):=by kernel_rfl
theorem qw3:((Tryd.prog.funcs[qdw 300]?).bind fun fn=>fn.body.map fun c=>(qbu fn.ntmps c,cFn env fn fn300.body c))=some (true,fn300):=by kernel_rfl
theorem qw4:((Tryd.prog.funcs[qdw 301]?).bind fun fn=>fn.body.map fun c=>(qbu fn.ntmps c,cFn env fn fn301.body c))=some (true,fn301):=by kernel_rfl
theorem qw5:((Tryd.prog.funcs[qdw 302]?).bind fun fn=>fn.body.map fun c=>(qbu fn.ntmps c,cFn env fn fn302.body c))=some (true,fn302):=by kernel_rfl
theorem qw6:((Tryd.prog.funcs[qdw 303]?).bind fun fn=>fn.body.map fun c=>(qbu fn.ntmps c,cFn env fn fn303.body c))=some (true,fn303):=by kernel_rfl
theorem qw7:((Tryd.prog.funcs[qdw 304]?).bind fun fn=>fn.body.map fun c=>(qbu fn.ntmps c,cFn env fn fn304.body c))=some (true,fn304):=by kernel_rfl
theorem qw8:((Tryd.prog.funcs[qdw 313]?).bind fun fn=>fn.body.map fun c=>(qbu fn.ntmps c,cFn env fn fn313.body c))=some (true,fn313):=by kernel_rfl
theorem qw9:((Tryd.prog.funcs[qdw 314]?).bind fun fn=>fn.body.map fun c=>(qbu fn.ntmps c,cFn env fn fn314.body c))=some (true,fn314):=by kernel_rfl
theorem qxa:((Tryd.prog.funcs[qdw 315]?).bind fun fn=>fn.body.map fun c=>(qbu fn.ntmps c,cFn env fn fn315.body c))=some (true,fn315):=by kernel_rfl
theorem qxb:((Tryd.prog.funcs[qdw 316]?).bind fun fn=>fn.body.map fun c=>(qbu fn.ntmps c,cFn env fn fn316.body c))=some (true,fn316):=by kernel_rfl
theorem qxc:((Tryd.prog.funcs[qdw 317]?).bind fun fn=>fn.body.map fun c=>(qbu fn.ntmps c,cFn env fn fn317.body c))=some (true,fn317):=by kernel_rfl
theorem qxd:((Tryd.prog.funcs[qdw 318]?).bind fun fn=>fn.body.map fun c=>(qbu fn.ntmps c,cFn env fn fn318.body c))=some (true,fn318):=by kernel_rfl
theorem qxe:((Tryd.prog.funcs[qdw 319]?).bind fun fn=>fn.body.map fun c=>(qbu fn.ntmps c,cFn env fn fn319.body c))=some (true,fn319):=by kernel_rfl
theorem qxf:((Tryd.prog.funcs[qdw 320]?).bind fun fn=>fn.body.map fun c=>(qbu fn.ntmps c,cFn env fn fn320.body c))=some (true,fn320):=by kernel_rfl
theorem qyg:∀ f k,env.fm f=some k→FnOk env lib f k:=by
 intro f k hf
 have:=qx7 f k hf
 subst this
 by_cases h0:k=188
 ·subst h0
  have e:qdw 188=63:=by kernel_rfl
  rw[e]
  exact⟨.inl ⟨qkB,rfl,qr4⟩⟩
 by_cases h1:k=138
 ·subst h1
  have e:qdw 138=111:=by kernel_rfl
  rw[e]
  exact⟨.inl ⟨qoG,rfl,qvh⟩⟩
 cases hx:qji k with
 | none =>
   refine⟨.inl ⟨fun _ _=>none,?_,qtq env _⟩⟩
   show qgd k=_
   unfold qgd
   rw[hx]
   dsimp only
   rw[if_neg h0,if_neg h1]
 | some fn =>
   have hs:lib.summ k=none:=by
    show qgd k=_
    unfold qgd
    rw[hx]
   have hx2:=hx
   unfold qji at hx
   split at hx
   ·exact qbp hs rfl qwc
   ·exact qbp hs rfl qwd
   ·exact qbp hs rfl qwe
   ·exact qbp hs rfl qwf
   ·exact qbp hs rfl qwg
   ·exact qbp hs rfl qwh
   ·exact qbp hs rfl qwi
   ·exact qbp hs rfl qwj
   ·exact qbp hs rfl qwk
   ·exact qbp hs rfl qwl
   ·exact qbp hs rfl qwm
   ·exact qbp hs rfl qwn
   ·exact qbp hs rfl qwo
   ·exact qbp hs rfl qwp
   ·exact qbp hs rfl qwq
   ·exact qbp hs rfl qwr
   ·exact qbp hs rfl qws
   ·exact qbp hs rfl qwt
   ·exact qbp hs rfl qwu
   ·exact qbp hs rfl qwv
   ·exact qbp hs rfl qww
   ·exact qbp hs rfl qwx
   ·exact qbp hs rfl qwy
   ·exact qbp hs rfl qwz
   ·exact qbp hs rfl qwA
   ·exact qbp hs rfl qwB
   ·exact qbp hs rfl qwC
   ·exact qbp hs rfl qwD
   ·exact qbp hs rfl qwE
   ·exact qbp hs rfl qwF
   ·exact qbp hs rfl qwG
   ·exact qbp hs rfl qwH
   ·exact qbp hs rfl qwI
   ·exact qbp hs rfl qwJ
   ·exact qbp hs rfl qwK
   ·exact qbp hs rfl qwL
   ·exact qbp hs rfl qwM
   ·exact qbp hs rfl qwN
   ·exact qbp hs rfl qwO
   ·exact qbp hs rfl qwP
   ·exact qbp hs rfl qwQ
   ·exact qbp hs rfl qwR
   ·exact qbp hs rfl qwS
   ·exact qbp hs rfl qwT
   ·exact qbp hs rfl qwU
   ·exact qbp hs rfl qwV
   ·exact qbp hs rfl qwW
   ·exact qbp hs rfl qwX
   ·exact qbp hs rfl qwY
   ·exact qbp hs rfl qwZ
   ·exact qbp hs rfl qw0
   ·exact qbp hs rfl qw1
   ·exact qbp hs rfl qw2
   ·exact qbp hs rfl qw3
   ·exact qbp hs rfl qw4
   ·exact qbp hs rfl qw5
   ·exact qbp hs rfl qw6
   ·exact qbp hs rfl qw7
   ·exact qbp hs rfl qw8
   ·exact qbp hs rfl qw9
   ·exact qbp hs rfl qxa
   ·exact qbp hs rfl qxb
   ·exact qbp hs rfl qxc
   ·exact qbp hs rfl qxd
   ·exact qbp hs rfl qxe
   ·exact qbp hs rfl qxf
   ·cases hx
theorem quK:qcK env (call lib):=qvS qvs lib qyg
theorem qiJ:Plain lib:=by
 refine⟨fun _=>rfl,fun f hf=>?_⟩
 show qgd f=none
 have hf':qji f≠none:=hf
 unfold qgd
 cases hx:qji f with
 | none=>exact absurd hx hf'
 | some _=>rfl
theorem qsZ {f:Nat} {args:List AVal} {v:AVal} {s:List AVal→Heap→Option (ARes × Heap)} (hs:lib.summ f=some s) (h1:s args []=some (.val v,[])) (hw:wipeR v=v) (hd:qbd v=true) (h:Heap) :
  pcall lib f args h=some (.val v,h):=by
 have:call lib f args []=some (.val v,[]):=qig hs h1
 exact qc7 this (by rw[qqb (by rw[hw];exact hd),hw]) hd h
theorem qvT (l:List Int) (h:Heap) (hl:l.length<2 ^ 30):qkB [.list (l.map qaY) none] h=some (.val (qkC l h.length),h++qhC l):=by
 unfold qkB
 dsimp only
 rw[qqj,List.length_map]
 by_cases hz:l=[]
 ·subst hz
  simp[qkC,qhC]
 ·have:l.map qaY≠[]:=by simpa using hz
  rw[qkD hz,qkA hz,if_pos (by simp[hl]),if_neg this]
theorem lib_mut:MPrims lib:=⟨fun l h hl=>qig (s:=qkB) rfl (qvT l h hl)⟩
theorem qn6:CPrims lib qb0:=by
 refine⟨fun l h hl=>?_,fun l hne hl=>?_,fun h=>?_⟩
 ·have h1:=lib_mut.clone l [] hl
  refine qc7 h1 ?_ (by rw[qaa];exact qay l) h
  rcases qfT l with ⟨h2,h3⟩ | ⟨h2,h3⟩
  ·rw[h2,h3,qii h3]
   rfl
  ·rw[h2,h3]
   unfold qfU
   have hv:viewV ([]++[.vec (l.map qaY) 1]) (.vec ([]:Heap).length l.length)=.list (l.map qaY) none:=(HInts.view (H:=[.vec (l.map qaY) 1]) (l:=l) (v:=.vec 0 l.length) (f:=[0]) (.inr ⟨qg3 h3,0,rfl,rfl,rfl⟩) 1999)
   rw[if_neg (by simp[wipeR,wipe,wipeCell,qbd]),hv]
   rfl
 ·refine qig (s:=qoG) rfl ?_
  unfold qoG
  have hx:∃ m,l.length=m+1:=⟨l.length-1,by have:=List.length_pos_iff.2 hne;omega⟩
  dsimp only
  rw[qqj,List.length_map,qsw]
  simp[hl]
 ·exact qsZ (s:=qoG) rfl rfl rfl rfl h
theorem qsJ (h:Heap):call lib 138 [.list [] none] h=some (.val (.tuple []),h):=qig (s:=qoG) rfl rfl
theorem qqs:∀ (t:CTree),TFit t→qbv t<2 ^ 30→∀ h:Heap,pcall lib 159 [qaW t] h=some (.val (.list ((qbN t).map qaP) none),h):=fun t hf hs h=>quM qiJ qn6 rfl rfl t hf hs h
theorem qqr:CLib lib:=by
 constructor
 case plain=>exact qiJ
 case prims=>exact qn6
 case grow=>exact fun e h hl hf hT hh=>qq8 qiJ lib_mut rfl e h hl hf hT hh
 all_goals rfl
theorem qyh:RLib lib:=by
 constructor
 case toCLib=>exact qqr
 case list=>exact qqs
 case mprims=>exact lib_mut
 all_goals rfl
theorem quL:CLib2 lib:=by
 constructor
 case toCLib=>exact qqr
 case list=>exact qqs
 all_goals rfl
end Go.Abs
