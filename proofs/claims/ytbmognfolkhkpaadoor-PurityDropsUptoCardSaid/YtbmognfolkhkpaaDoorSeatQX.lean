/-
  The seat's table of functions: each is the program's, as the kernel checks. Conditions: none.
-/
import Derived.Test.YtbmognfolkhkpaaDoorSeatPD
import Derived.Test.YtbmognfolkhkpaaDoorRQ
import Derived.KernelRfl
set_option linter.unusedVariables false
set_option maxRecDepth 100000
set_option maxHeartbeats 4000000
namespace Go.Abs
open Go.Proofs Go.RowKit
def qiZ:Nat→Option AFn
 | 130=>some qw6
 | 131=>some qw7
 | 132=>some fn132
 | 133=>some fn133
 | 134=>some fn134
 | 139=>some fn139
 | 144=>some fn144
 | 145=>some fn145
 | 151=>some fn151
 | 153=>some fn153
 | 154=>some fn154
 | 159=>some fm159
 | 160=>some fm160
 | 161=>some fn161
 | 162=>some fn162
 | 163=>some fn163
 | 164=>some fn164
 | 165=>some fn165
 | 167=>some fn167
 | 171=>some fn171
 | 173=>some fn173
 | 174=>some fn174
 | 177=>some fn177
 | 181=>some fn181
 | 183=>some fn183
 | 187=>some fm187
 | 189=>some fn189
 | 190=>some fn190
 | 191=>some fn191
 | 192=>some fn192
 | 193=>some fn193
 | 194=>some fn194
 | 195=>some fn195
 | 196=>some fn196
 | 207=>some fn207
 | 208=>some fn208
 | 209=>some fn209
 | 210=>some fn210
 | 211=>some fn211
 | 232=>some fn232
 | 234=>some fn234
 | 235=>some fn235
 | 236=>some fn236
 | 243=>some fn243
 | 256=>some fn256
 | 258=>some fn258
 | 259=>some fn259
 | 264=>some fn264
 | 265=>some fn265
 | 266=>some fn266
 | 272=>some fn272
 | 283=>some fn283
 | 293=>some fn293
 | 294=>some fn294
 | 297=>some fn297
 | 298=>some fn298
 | 299=>some fn299
 | 300=>some fn300
 | 301=>some fn301
 | 302=>some fn302
 | 303=>some fn303
 | 304=>some fn304
 | 313=>some fn313
 | 314=>some fn314
 | 315=>some fn315
 | 316=>some fn316
 | 317=>some fn317
 | 318=>some fn318
 | 319=>some fn319
 | 320=>some fn320
 | _=>none
noncomputable def qf0 (k:Nat):Option (List AVal→Heap→Option (ARes × Heap)) :=
 match qiZ k with | some _=>none | none=>if k=188 then some qkg else if k=138 then some qpm else some fun _ _=>none
noncomputable def lib:Lib:={ pure:=fun _=>true,summ:=qf0,fns:=qiZ }
theorem qvh:((Tryd.prog.funcs[qda 132]?).bind fun fn=>fn.body.map fun c=>(qbq fn.ntmps c,cFn env fn fn132.body c))=some (true,fn132):=by kernel_rfl
theorem qvi:((Tryd.prog.funcs[qda 133]?).bind fun fn=>fn.body.map fun c=>(qbq fn.ntmps c,cFn env fn fn133.body c))=some (true,fn133):=by kernel_rfl
theorem qvj:((Tryd.prog.funcs[qda 134]?).bind fun fn=>fn.body.map fun c=>(qbq fn.ntmps c,cFn env fn fn134.body c))=some (true,fn134):=by kernel_rfl
theorem qvk:((Tryd.prog.funcs[qda 139]?).bind fun fn=>fn.body.map fun c=>(qbq fn.ntmps c,cFn env fn fn139.body c))=some (true,fn139):=by kernel_rfl
theorem qvl:((Tryd.prog.funcs[qda 144]?).bind fun fn=>fn.body.map fun c=>(qbq fn.ntmps c,cFn env fn fn144.body c))=some (true,fn144):=by kernel_rfl
theorem qvm:((Tryd.prog.funcs[qda 145]?).bind fun fn=>fn.body.map fun c=>(qbq fn.ntmps c,cFn env fn fn145.body c))=some (true,fn145):=by kernel_rfl
theorem qvn:((Tryd.prog.funcs[qda 151]?).bind fun fn=>fn.body.map fun c=>(qbq fn.ntmps c,cFn env fn fn151.body c))=some (true,fn151):=by kernel_rfl
theorem qvo:((Tryd.prog.funcs[qda 153]?).bind fun fn=>fn.body.map fun c=>(qbq fn.ntmps c,cFn env fn fn153.body c))=some (true,fn153):=by kernel_rfl
theorem qvp:((Tryd.prog.funcs[qda 154]?).bind fun fn=>fn.body.map fun c=>(qbq fn.ntmps c,cFn env fn fn154.body c))=some (true,fn154):=by kernel_rfl
theorem qvq:((Tryd.prog.funcs[qda 159]?).bind fun fn=>fn.body.map fun c=>(qbq fn.ntmps c,cFn env fn fm159.body c))=some (true,fm159):=by kernel_rfl
theorem qvr:((Tryd.prog.funcs[qda 160]?).bind fun fn=>fn.body.map fun c=>(qbq fn.ntmps c,cFn env fn fm160.body c))=some (true,fm160):=by kernel_rfl
theorem qvs:((Tryd.prog.funcs[qda 161]?).bind fun fn=>fn.body.map fun c=>(qbq fn.ntmps c,cFn env fn fn161.body c))=some (true,fn161):=by kernel_rfl
theorem qvt:((Tryd.prog.funcs[qda 162]?).bind fun fn=>fn.body.map fun c=>(qbq fn.ntmps c,cFn env fn fn162.body c))=some (true,fn162):=by kernel_rfl
theorem qvu:((Tryd.prog.funcs[qda 163]?).bind fun fn=>fn.body.map fun c=>(qbq fn.ntmps c,cFn env fn fn163.body c))=some (true,fn163):=by kernel_rfl
theorem qvv:((Tryd.prog.funcs[qda 164]?).bind fun fn=>fn.body.map fun c=>(qbq fn.ntmps c,cFn env fn fn164.body c))=some (true,fn164):=by kernel_rfl
theorem qvw:((Tryd.prog.funcs[qda 165]?).bind fun fn=>fn.body.map fun c=>(qbq fn.ntmps c,cFn env fn fn165.body c))=some (true,fn165):=by kernel_rfl
theorem qvx:((Tryd.prog.funcs[qda 167]?).bind fun fn=>fn.body.map fun c=>(qbq fn.ntmps c,cFn env fn fn167.body c))=some (true,fn167):=by kernel_rfl
theorem qvy:((Tryd.prog.funcs[qda 171]?).bind fun fn=>fn.body.map fun c=>(qbq fn.ntmps c,cFn env fn fn171.body c))=some (true,fn171):=by kernel_rfl
theorem qvz:((Tryd.prog.funcs[qda 173]?).bind fun fn=>fn.body.map fun c=>(qbq fn.ntmps c,cFn env fn fn173.body c))=some (true,fn173):=by kernel_rfl
theorem qvA:((Tryd.prog.funcs[qda 174]?).bind fun fn=>fn.body.map fun c=>(qbq fn.ntmps c,cFn env fn fn174.body c))=some (true,fn174):=by kernel_rfl
theorem qvB:((Tryd.prog.funcs[qda 177]?).bind fun fn=>fn.body.map fun c=>(qbq fn.ntmps c,cFn env fn fn177.body c))=some (true,fn177):=by kernel_rfl
theorem qvC:((Tryd.prog.funcs[qda 181]?).bind fun fn=>fn.body.map fun c=>(qbq fn.ntmps c,cFn env fn fn181.body c))=some (true,fn181):=by kernel_rfl
theorem qvD:((Tryd.prog.funcs[qda 183]?).bind fun fn=>fn.body.map fun c=>(qbq fn.ntmps c,cFn env fn fn183.body c))=some (true,fn183):=by kernel_rfl
theorem qvE:((Tryd.prog.funcs[qda 187]?).bind fun fn=>fn.body.map fun c=>(qbq fn.ntmps c,cFn env fn fm187.body c))=some (true,fm187):=by kernel_rfl
theorem qvF:((Tryd.prog.funcs[qda 189]?).bind fun fn=>fn.body.map fun c=>(qbq fn.ntmps c,cFn env fn fn189.body c))=some (true,fn189):=by kernel_rfl
theorem qvG:((Tryd.prog.funcs[qda 190]?).bind fun fn=>fn.body.map fun c=>(qbq fn.ntmps c,cFn env fn fn190.body c))=some (true,fn190):=by kernel_rfl
theorem qvH:((Tryd.prog.funcs[qda 191]?).bind fun fn=>fn.body.map fun c=>(qbq fn.ntmps c,cFn env fn fn191.body c))=some (true,fn191):=by kernel_rfl
theorem qvI:((Tryd.prog.funcs[qda 192]?).bind fun fn=>fn.body.map fun c=>(qbq fn.ntmps c,cFn env fn fn192.body c))=some (true,fn192):=by kernel_rfl
theorem qvJ:((Tryd.prog.funcs[qda 193]?).bind fun fn=>fn.body.map fun c=>(qbq fn.ntmps c,cFn env fn fn193.body c))=some (true,fn193):=by kernel_rfl
theorem qvK:((Tryd.prog.funcs[qda 194]?).bind fun fn=>fn.body.map fun c=>(qbq fn.ntmps c,cFn env fn fn194.body c))=some (true,fn194):=by kernel_rfl
theorem qvL:((Tryd.prog.funcs[qda 195]?).bind fun fn=>fn.body.map fun c=>(qbq fn.ntmps c,cFn env fn fn195.body c))=some (true,fn195):=by kernel_rfl
theorem qvM:((Tryd.prog.funcs[qda 196]?).bind fun fn=>fn.body.map fun c=>(qbq fn.ntmps c,cFn env fn fn196.body c))=some (true,fn196):=by kernel_rfl
theorem qvN:((Tryd.prog.funcs[qda 207]?).bind fun fn=>fn.body.map fun c=>(qbq fn.ntmps c,cFn env fn fn207.body c))=some (true,fn207):=by kernel_rfl
theorem qvO:((Tryd.prog.funcs[qda 208]?).bind fun fn=>fn.body.map fun c=>(qbq fn.ntmps c,cFn env fn fn208.body c))=some (true,fn208):=by kernel_rfl
theorem qvP:((Tryd.prog.funcs[qda 209]?).bind fun fn=>fn.body.map fun c=>(qbq fn.ntmps c,cFn env fn fn209.body c))=some (true,fn209):=by kernel_rfl
theorem qvQ:((Tryd.prog.funcs[qda 210]?).bind fun fn=>fn.body.map fun c=>(qbq fn.ntmps c,cFn env fn fn210.body c))=some (true,fn210):=by kernel_rfl
theorem qvR:((Tryd.prog.funcs[qda 211]?).bind fun fn=>fn.body.map fun c=>(qbq fn.ntmps c,cFn env fn fn211.body c))=some (true,fn211):=by kernel_rfl
theorem qvS:((Tryd.prog.funcs[qda 232]?).bind fun fn=>fn.body.map fun c=>(qbq fn.ntmps c,cFn env fn fn232.body c))=some (true,fn232):=by kernel_rfl
theorem qvT:((Tryd.prog.funcs[qda 234]?).bind fun fn=>fn.body.map fun c=>(qbq fn.ntmps c,cFn env fn fn234.body c))=some (true,fn234):=by kernel_rfl
theorem qvU:((Tryd.prog.funcs[qda 235]?).bind fun fn=>fn.body.map fun c=>(qbq fn.ntmps c,cFn env fn fn235.body c))=some (true,fn235):=by kernel_rfl
theorem qvV:((Tryd.prog.funcs[qda 236]?).bind fun fn=>fn.body.map fun c=>(qbq fn.ntmps c,cFn env fn fn236.body c))=some (true,fn236):=by kernel_rfl
theorem qvW:((Tryd.prog.funcs[qda 243]?).bind fun fn=>fn.body.map fun c=>(qbq fn.ntmps c,cFn env fn fn243.body c))=some (true,fn243):=by kernel_rfl
theorem qvX:((Tryd.prog.funcs[qda 256]?).bind fun fn=>fn.body.map fun c=>(qbq fn.ntmps c,cFn env fn fn256.body c))=some (true,fn256):=by kernel_rfl
theorem qvY:((Tryd.prog.funcs[qda 258]?).bind fun fn=>fn.body.map fun c=>(qbq fn.ntmps c,cFn env fn fn258.body c))=some (true,fn258):=by kernel_rfl
theorem qvZ:((Tryd.prog.funcs[qda 259]?).bind fun fn=>fn.body.map fun c=>(qbq fn.ntmps c,cFn env fn fn259.body c))=some (true,fn259):=by kernel_rfl
theorem qv0:((Tryd.prog.funcs[qda 264]?).bind fun fn=>fn.body.map fun c=>(qbq fn.ntmps c,cFn env fn fn264.body c))=some (true,fn264):=by kernel_rfl
theorem qv1:((Tryd.prog.funcs[qda 265]?).bind fun fn=>fn.body.map fun c=>(qbq fn.ntmps c,cFn env fn fn265.body c))=some (true,fn265):=by kernel_rfl
theorem qv2:((Tryd.prog.funcs[qda 266]?).bind fun fn=>fn.body.map fun c=>(qbq fn.ntmps c,cFn env fn fn266.body c))=some (true,fn266):=by kernel_rfl
theorem qv3:((Tryd.prog.funcs[qda 272]?).bind fun fn=>fn.body.map fun c=>(qbq fn.ntmps c,cFn env fn fn272.body c))=some (true,fn272):=by kernel_rfl
theorem qv4:((Tryd.prog.funcs[qda 283]?).bind fun fn=>fn.body.map fun c=>(qbq fn.ntmps c,cFn env fn fn283.body c))=some (true,fn283):=by kernel_rfl
theorem qv5:((Tryd.prog.funcs[qda 293]?).bind fun fn=>fn.body.map fun c=>(qbq fn.ntmps c,cFn env fn fn293.body c))=some (true,fn293):=by kernel_rfl
theorem qv6:((Tryd.prog.funcs[qda 294]?).bind fun fn=>fn.body.map fun c=>(qbq fn.ntmps c,cFn env fn fn294.body c))=some (true,fn294):=by kernel_rfl
theorem qv7:((Tryd.prog.funcs[qda 297]?).bind fun fn=>fn.body.map fun c=>(qbq fn.ntmps c,cFn env fn fn297.body c))=some (true,fn297):=by kernel_rfl
theorem qv8:((Tryd.prog.funcs[qda 298]?).bind fun fn=>fn.body.map fun c=>(qbq fn.ntmps c,cFn env fn fn298.body c))=some (true,fn298):=by kernel_rfl
theorem qv9:((Tryd.prog.funcs[qda 299]?).bind fun fn=>fn.body.map fun c=>(qbq fn.ntmps c,cFn env fn fn299.body c))=some (true,fn299):=by kernel_rfl
theorem qwa:((Tryd.prog.funcs[qda 300]?).bind fun fn=>fn.body.map fun c=>(qbq fn.ntmps c,cFn env fn fn300.body c))=some (true,fn300):=by kernel_rfl
theorem qwb:((Tryd.prog.funcs[qda 301]?).bind fun fn=>fn.body.map fun c=>(qbq fn.ntmps c,cFn env fn fn301.body c))=some (true,fn301):=by kernel_rfl
theorem qwc:((Tryd.prog.funcs[qda 302]?).bind fun fn=>fn.body.map fun c=>(qbq fn.ntmps c,cFn env fn fn302.body c))=some (true,fn302):=by kernel_rfl
theorem qwd:((Tryd.prog.funcs[qda 303]?).bind fun fn=>fn.body.map fun c=>(qbq fn.ntmps c,cFn env fn fn303.body c))=some (true,fn303):=by kernel_rfl
theorem qwe:((Tryd.prog.funcs[qda 304]?).bind fun fn=>fn.body.map fun c=>(qbq fn.ntmps c,cFn env fn fn304.body c))=some (true,fn304):=by kernel_rfl
theorem qwf:((Tryd.prog.funcs[qda 313]?).bind fun fn=>fn.body.map fun c=>(qbq fn.ntmps c,cFn env fn fn313.body c))=some (true,fn313):=by kernel_rfl
theorem qwg:((Tryd.prog.funcs[qda 314]?).bind fun fn=>fn.body.map fun c=>(qbq fn.ntmps c,cFn env fn fn314.body c))=some (true,fn314):=by kernel_rfl
theorem qwh:((Tryd.prog.funcs[qda 315]?).bind fun fn=>fn.body.map fun c=>(qbq fn.ntmps c,cFn env fn fn315.body c))=some (true,fn315):=by kernel_rfl
theorem qwi:((Tryd.prog.funcs[qda 316]?).bind fun fn=>fn.body.map fun c=>(qbq fn.ntmps c,cFn env fn fn316.body c))=some (true,fn316):=by kernel_rfl
theorem qwj:((Tryd.prog.funcs[qda 317]?).bind fun fn=>fn.body.map fun c=>(qbq fn.ntmps c,cFn env fn fn317.body c))=some (true,fn317):=by kernel_rfl
theorem qwk:((Tryd.prog.funcs[qda 318]?).bind fun fn=>fn.body.map fun c=>(qbq fn.ntmps c,cFn env fn fn318.body c))=some (true,fn318):=by kernel_rfl
theorem qwl:((Tryd.prog.funcs[qda 319]?).bind fun fn=>fn.body.map fun c=>(qbq fn.ntmps c,cFn env fn fn319.body c))=some (true,fn319):=by kernel_rfl
theorem qwm:((Tryd.prog.funcs[qda 320]?).bind fun fn=>fn.body.map fun c=>(qbq fn.ntmps c,cFn env fn fn320.body c))=some (true,fn320):=by kernel_rfl
theorem qxh:∀ f k,env.fm f=some k→FnOk env lib f k:=by
 intro f k hf
 have:=qw5 f k hf
 subst this
 by_cases h0:k=188
 ·subst h0
  have e:qda 188=63:=by kernel_rfl
  rw[e]
  exact⟨.inl ⟨qkg,rfl,qrr⟩⟩
 by_cases h1:k=138
 ·subst h1
  have e:qda 138=111:=by kernel_rfl
  rw[e]
  exact⟨.inl ⟨qpm,rfl,qum⟩⟩
 cases hx:qiZ k with
 | none =>
   refine⟨.inl ⟨fun _ _=>none,?_,qsN env _⟩⟩
   show qf0 k=_
   unfold qf0
   rw[hx]
   dsimp only
   rw[if_neg h0,if_neg h1]
 | some fn =>
   have hs:lib.summ k=none:=by
    show qf0 k=_
    unfold qf0
    rw[hx]
   have hx2:=hx
   unfold qiZ at hx
   split at hx
   ·exact absurd ((show env.fm (qda 130)=none by kernel_rfl).symm.trans hf) (by simp)
   ·exact absurd ((show env.fm (qda 131)=none by kernel_rfl).symm.trans hf) (by simp)
   ·exact qbo hs rfl qvh
   ·exact qbo hs rfl qvi
   ·exact qbo hs rfl qvj
   ·exact qbo hs rfl qvk
   ·exact qbo hs rfl qvl
   ·exact qbo hs rfl qvm
   ·exact qbo hs rfl qvn
   ·exact qbo hs rfl qvo
   ·exact qbo hs rfl qvp
   ·exact qbo hs rfl qvq
   ·exact qbo hs rfl qvr
   ·exact qbo hs rfl qvs
   ·exact qbo hs rfl qvt
   ·exact qbo hs rfl qvu
   ·exact qbo hs rfl qvv
   ·exact qbo hs rfl qvw
   ·exact qbo hs rfl qvx
   ·exact qbo hs rfl qvy
   ·exact qbo hs rfl qvz
   ·exact qbo hs rfl qvA
   ·exact qbo hs rfl qvB
   ·exact qbo hs rfl qvC
   ·exact qbo hs rfl qvD
   ·exact qbo hs rfl qvE
   ·exact qbo hs rfl qvF
   ·exact qbo hs rfl qvG
   ·exact qbo hs rfl qvH
   ·exact qbo hs rfl qvI
   ·exact qbo hs rfl qvJ
   ·exact qbo hs rfl qvK
   ·exact qbo hs rfl qvL
   ·exact qbo hs rfl qvM
   ·exact qbo hs rfl qvN
   ·exact qbo hs rfl qvO
   ·exact qbo hs rfl qvP
   ·exact qbo hs rfl qvQ
   ·exact qbo hs rfl qvR
   ·exact qbo hs rfl qvS
   ·exact qbo hs rfl qvT
   ·exact qbo hs rfl qvU
   ·exact qbo hs rfl qvV
   ·exact qbo hs rfl qvW
   ·exact qbo hs rfl qvX
   ·exact qbo hs rfl qvY
   ·exact qbo hs rfl qvZ
   ·exact qbo hs rfl qv0
   ·exact qbo hs rfl qv1
   ·exact qbo hs rfl qv2
   ·exact qbo hs rfl qv3
   ·exact qbo hs rfl qv4
   ·exact qbo hs rfl qv5
   ·exact qbo hs rfl qv6
   ·exact qbo hs rfl qv7
   ·exact qbo hs rfl qv8
   ·exact qbo hs rfl qv9
   ·exact qbo hs rfl qwa
   ·exact qbo hs rfl qwb
   ·exact qbo hs rfl qwc
   ·exact qbo hs rfl qwd
   ·exact qbo hs rfl qwe
   ·exact qbo hs rfl qwf
   ·exact qbo hs rfl qwg
   ·exact qbo hs rfl qwh
   ·exact qbo hs rfl qwi
   ·exact qbo hs rfl qwj
   ·exact qbo hs rfl qwk
   ·exact qbo hs rfl qwl
   ·exact qbo hs rfl qwm
   ·cases hx
theorem qtT:qcD env (call lib):=quU quy lib qxh
theorem qkG:Plain lib:=by
 refine⟨fun _=>rfl,fun f hf=>?_⟩
 show qf0 f=none
 have hf':qiZ f≠none:=hf
 unfold qf0
 cases hx:qiZ f with
 | none=>exact absurd hx hf'
 | some _=>rfl
theorem qsk {f:Nat} {args:List AVal} {v:AVal} {s:List AVal→Heap→Option (ARes × Heap)} (hs:lib.summ f=some s) (h1:s args []=some (.val v,[])) (hw:wipeR v=v) (hd:qbd v=true) (h:Heap) :
  pcall lib f args h=some (.val v,h):=by
 have:call lib f args []=some (.val v,[]):=qkf hs h1
 exact qdp this (by rw[qpK (by rw[hw];exact hd),hw]) hd h
theorem quV (l:List Int) (h:Heap) (hl:l.length<2 ^ 30):qkg [.list (l.map qa4) none] h=some (.val (qlE l h.length),h++qhY l):=by
 unfold qkg
 dsimp only
 rw[qpR,List.length_map]
 by_cases hz:l=[]
 ·subst hz
  simp[qlE,qhY]
 ·have:l.map qa4≠[]:=by simpa using hz
  rw[qnl hz,qnk hz,if_pos (by simp[hl]),if_neg this]
theorem lib_mut:MPrims lib:=⟨fun l h hl=>qkf (s:=qkg) rfl (quV l h hl)⟩
theorem qnQ:CPrims lib qbY:=by
 refine⟨fun l h hl=>?_,fun l hne hl=>?_,fun h=>?_⟩
 ·have h1:=lib_mut.clone l [] hl
  refine qdp h1 ?_ (by rw[qaa];exact qaA l) h
  rcases qfK l with ⟨h2,h3⟩ | ⟨h2,h3⟩
  ·rw[h2,h3,qhZ h3]
   rfl
  ·rw[h2,h3]
   unfold qfL
   have hv:viewV ([]++[.vec (l.map qa4) 1]) (.vec ([]:Heap).length l.length)=.list (l.map qa4) none:=(HInts.view (H:=[.vec (l.map qa4) 1]) (l:=l) (v:=.vec 0 l.length) (f:=[0]) (.inr ⟨qgS h3,0,rfl,rfl,rfl⟩) 1999)
   rw[if_neg (by simp[wipeR,wipe,wipeCell,qbd]),hv]
   rfl
 ·refine qkf (s:=qpm) rfl ?_
  unfold qpm
  have hx:∃ m,l.length=m+1:=⟨l.length-1,by have:=List.length_pos_iff.2 hne;omega⟩
  dsimp only
  rw[qpR,List.length_map,qrR]
  simp[hl]
 ·exact qsk (s:=qpm) rfl rfl rfl rfl h
theorem qp3:∀ (t:CTree),TFit t→qbA t<2 ^ 30→∀ h:Heap,pcall lib 159 [qa1 t] h=some (.val (.list ((qcR t).map qaO) none),h):=fun t hf hs h=>qtV qkG qnQ rfl rfl t hf hs h
theorem qp2:CLib lib:=by
 constructor
 case plain=>exact qkG
 case prims=>exact qnQ
 case grow=>exact fun e h hl hf hT hh=>qqB qkG lib_mut rfl e h hl hf hT hh
 all_goals rfl
theorem qxi:RLib lib:=by
 constructor
 case toCLib=>exact qp2
 case list=>exact qp3
 case mprims=>exact lib_mut
 all_goals rfl
theorem qtU:CLib2 lib:=by
 constructor
 case toCLib=>exact qp2
 case list=>exact qp3
 all_goals rfl
theorem qwv:PLib lib:=⟨rfl,rfl,rfl,rfl,rfl,rfl⟩
end Go.Abs
