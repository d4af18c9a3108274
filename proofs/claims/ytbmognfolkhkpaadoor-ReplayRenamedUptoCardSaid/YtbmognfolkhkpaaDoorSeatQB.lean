/-
  The seat's table of functions: each is the program's, as the kernel checks. Conditions: none.
-/
import Derived.Test.YtbmognfolkhkpaaDoorSeatPD
import Derived.Test.YtbmognfolkhkpaaDoorRP
import Derived.Test.YtbmognfolkhkpaaDoorRM
import Derived.KernelRfl
set_option linter.unusedVariables false
set_option maxRecDepth 100000
set_option maxHeartbeats 4000000
namespace Go.Abs
open Go.Proofs Go.RowKit
def qjd:Nat→Option AFn
 | 132=>some fn132
 | 133=>some fn133
 | 134=>some fn134
 | 139=>some fn139
 | 140=>some fn140
 | 141=>some fm141
 | 151=>some fn151
 | 153=>some fn153
 | 154=>some fn154
 | 159=>some fm159
 | 160=>some fm160
 | 161=>some fn161
 | 162=>some fn162
 | 163=>some fn163
 | 164=>some fn164
 | 165=>some fn165
 | 167=>some fn167
 | 171=>some fn171
 | 177=>some fn177
 | 181=>some fn181
 | 183=>some fn183
 | 187=>some fm187
 | 189=>some fn189
 | 190=>some fn190
 | 191=>some fn191
 | 192=>some fn192
 | 193=>some fn193
 | 194=>some fn194
 | 195=>some fn195
 | 196=>some fn196
 | 207=>some fn207
 | 208=>some fn208
 | 232=>some fn232
 | 234=>some fn234
 | 235=>some fn235
 | 236=>some fn236
 | 256=>some fn256
 | 258=>some fn258
 | 259=>some fn259
 | 264=>some fn264
 | 265=>some fn265
 | 266=>some fn266
 | 269=>some fn269
 | 278=>some fn278
 | 279=>some fn279
 | 280=>some fn280
 | 281=>some fn281
 | 283=>some fn283
 | 291=>some fn291
 | 292=>some fn292
 | 293=>some fn293
 | 294=>some fn294
 | 297=>some fn297
 | 298=>some fn298
 | 299=>some fn299
 | 300=>some fn300
 | 301=>some fn301
 | 302=>some fn302
 | 303=>some fn303
 | 304=>some fn304
 | 313=>some fn313
 | 314=>some fn314
 | 315=>some fn315
 | 316=>some fn316
 | 317=>some fn317
 | 318=>some fn318
 | 319=>some fn319
 | 320=>some fn320
 | _=>none
noncomputable def qgs (k:Nat):Option (List AVal→Heap→Option (ARes × Heap)) :=
 match qjd k with | some _=>none | none=>if k=188 then some qko else if k=138 then some qof else some fun _ _=>none
noncomputable def lib:Lib:={ pure:=fun _=>true,summ:=qgs,fns:=qjd }
theorem qvR:((Tryd.prog.funcs[qdl 132]?).bind fun fn=>fn.body.map fun c=>(qbj fn.ntmps c,cFn env fn fn132.body c))=some (true,fn132):=by kernel_rfl
theorem qvS:((Tryd.prog.funcs[qdl 133]?).bind fun fn=>fn.body.map fun c=>(qbj fn.ntmps c,cFn env fn fn133.body c))=some (true,fn133):=by kernel_rfl
theorem qvT:((Tryd.prog.funcs[qdl 134]?).bind fun fn=>fn.body.map fun c=>(qbj fn.ntmps c,cFn env fn fn134.body c))=some (true,fn134):=by kernel_rfl
theorem qvU:((Tryd.prog.funcs[qdl 139]?).bind fun fn=>fn.body.map fun c=>(qbj fn.ntmps c,cFn env fn fn139.body c))=some (true,fn139):=by kernel_rfl
theorem qvV:((Tryd.prog.funcs[qdl 140]?).bind fun fn=>fn.body.map fun c=>(qbj fn.ntmps c,cFn env fn fn140.body c))=some (true,fn140):=by kernel_rfl
theorem qvW:((Tryd.prog.funcs[qdl 141]?).bind fun fn=>fn.body.map fun c=>(qbj fn.ntmps c,cFn env fn fm141.body c))=some (true,fm141):=by kernel_rfl
theorem qvX:((Tryd.prog.funcs[qdl 151]?).bind fun fn=>fn.body.map fun c=>(qbj fn.ntmps c,cFn env fn fn151.body c))=some (true,fn151):=by kernel_rfl
theorem qvY:((Tryd.prog.funcs[qdl 153]?).bind fun fn=>fn.body.map fun c=>(qbj fn.ntmps c,cFn env fn fn153.body c))=some (true,fn153):=by kernel_rfl
theorem qvZ:((Tryd.prog.funcs[qdl 154]?).bind fun fn=>fn.body.map fun c=>(qbj fn.ntmps c,cFn env fn fn154.body c))=some (true,fn154):=by kernel_rfl
theorem qv0:((Tryd.prog.funcs[qdl 159]?).bind fun fn=>fn.body.map fun c=>(qbj fn.ntmps c,cFn env fn fm159.body c))=some (true,fm159):=by kernel_rfl
theorem qv1:((Tryd.prog.funcs[qdl 160]?).bind fun fn=>fn.body.map fun c=>(qbj fn.ntmps c,cFn env fn fm160.body c))=some (true,fm160):=by kernel_rfl
theorem qv2:((Tryd.prog.funcs[qdl 161]?).bind fun fn=>fn.body.map fun c=>(qbj fn.ntmps c,cFn env fn fn161.body c))=some (true,fn161):=by kernel_rfl
theorem qv3:((Tryd.prog.funcs[qdl 162]?).bind fun fn=>fn.body.map fun c=>(qbj fn.ntmps c,cFn env fn fn162.body c))=some (true,fn162):=by kernel_rfl
theorem qv4:((Tryd.prog.funcs[qdl 163]?).bind fun fn=>fn.body.map fun c=>(qbj fn.ntmps c,cFn env fn fn163.body c))=some (true,fn163):=by kernel_rfl
theorem qv5:((Tryd.prog.funcs[qdl 164]?).bind fun fn=>fn.body.map fun c=>(qbj fn.ntmps c,cFn env fn fn164.body c))=some (true,fn164):=by kernel_rfl
theorem qv6:((Tryd.prog.funcs[qdl 165]?).bind fun fn=>fn.body.map fun c=>(qbj fn.ntmps c,cFn env fn fn165.body c))=some (true,fn165):=by kernel_rfl
theorem qv7:((Tryd.prog.funcs[qdl 167]?).bind fun fn=>fn.body.map fun c=>(qbj fn.ntmps c,cFn env fn fn167.body c))=some (true,fn167):=by kernel_rfl
theorem qv8:((Tryd.prog.funcs[qdl 171]?).bind fun fn=>fn.body.map fun c=>(qbj fn.ntmps c,cFn env fn fn171.body c))=some (true,fn171):=by kernel_rfl
theorem qv9:((Tryd.prog.funcs[qdl 177]?).bind fun fn=>fn.body.map fun c=>(qbj fn.ntmps c,cFn env fn fn177.body c))=some (true,fn177):=by kernel_rfl
theorem qwa:((Tryd.prog.funcs[qdl 181]?).bind fun fn=>fn.body.map fun c=>(qbj fn.ntmps c,cFn env fn fn181.body c))=some (true,fn181):=by kernel_rfl
theorem qwb:((Tryd.prog.funcs[qdl 183]?).bind fun fn=>fn.body.map fun c=>(qbj fn.ntmps c,cFn env fn fn183.body c))=some (true,fn183):=by kernel_rfl
theorem qwc:((Tryd.prog.funcs[qdl 187]?).bind fun fn=>fn.body.map fun c=>(qbj fn.ntmps c,cFn env fn fm187.body c))=some (true,fm187):=by kernel_rfl
theorem qwd:((Tryd.prog.funcs[qdl 189]?).bind fun fn=>fn.body.map fun c=>(qbj fn.ntmps c,cFn env fn fn189.body c))=some (true,fn189):=by kernel_rfl
theorem qwe:((Tryd.prog.funcs[qdl 190]?).bind fun fn=>fn.body.map fun c=>(qbj fn.ntmps c,cFn env fn fn190.body c))=some (true,fn190):=by kernel_rfl
theorem qwf:((Tryd.prog.funcs[qdl 191]?).bind fun fn=>fn.body.map fun c=>(qbj fn.ntmps c,cFn env fn fn191.body c))=some (true,fn191):=by kernel_rfl
theorem qwg:((Tryd.prog.funcs[qdl 192]?).bind fun fn=>fn.body.map fun c=>(qbj fn.ntmps c,cFn env fn fn192.body c))=some (true,fn192):=by kernel_rfl
theorem qwh:((Tryd.prog.funcs[qdl 193]?).bind fun fn=>fn.body.map fun c=>(qbj fn.ntmps c,cFn env fn fn193.body c))=some (true,fn193):=by kernel_rfl
theorem qwi:((Tryd.prog.funcs[qdl 194]?).bind fun fn=>fn.body.map fun c=>(qbj fn.ntmps c,cFn env fn fn194.body c))=some (true,fn194):=by kernel_rfl
theorem qwj:((Tryd.prog.funcs[qdl 195]?).bind fun fn=>fn.body.map fun c=>(qbj fn.ntmps c,cFn env fn fn195.body c))=some (true,fn195):=by kernel_rfl
theorem qwk:((Tryd.prog.funcs[qdl 196]?).bind fun fn=>fn.body.map fun c=>(qbj fn.ntmps c,cFn env fn fn196.body c))=some (true,fn196):=by kernel_rfl
theorem qwl:((Tryd.prog.funcs[qdl 207]?).bind fun fn=>fn.body.map fun c=>(qbj fn.ntmps c,cFn env fn fn207.body c))=some (true,fn207):=by kernel_rfl
theorem qwm:((Tryd.prog.funcs[qdl 208]?).bind fun fn=>fn.body.map fun c=>(qbj fn.ntmps c,cFn env fn fn208.body c))=some (true,fn208):=by kernel_rfl
theorem qwn:((Tryd.prog.funcs[qdl 232]?).bind fun fn=>fn.body.map fun c=>(qbj fn.ntmps c,cFn env fn fn232.body c))=some (true,fn232):=by kernel_rfl
theorem qwo:((Tryd.prog.funcs[qdl 234]?).bind fun fn=>fn.body.map fun c=>(qbj fn.ntmps c,cFn env fn fn234.body c))=some (true,fn234):=by kernel_rfl
theorem qwp:((Tryd.prog.funcs[qdl 235]?).bind fun fn=>fn.body.map fun c=>(qbj fn.ntmps c,cFn env fn fn235.body c))=some (true,fn235):=by kernel_rfl
theorem qwq:((Tryd.prog.funcs[qdl 236]?).bind fun fn=>fn.body.map fun c=>(qbj fn.ntmps c,cFn env fn fn236.body c))=some (true,fn236):=by kernel_rfl
theorem qwr:((Tryd.prog.funcs[qdl 256]?).bind fun fn=>fn.body.map fun c=>(qbj fn.ntmps c,cFn env fn fn256.body c))=some (true,fn256):=by kernel_rfl
theorem qws:((Tryd.prog.funcs[qdl 258]?).bind fun fn=>fn.body.map fun c=>(qbj fn.ntmps c,cFn env fn fn258.body c))=some (true,fn258):=by kernel_rfl
theorem qwt:((Tryd.prog.funcs[qdl 259]?).bind fun fn=>fn.body.map fun c=>(qbj fn.ntmps c,cFn env fn fn259.body c))=some (true,fn259):=by kernel_rfl
theorem qwu:((Tryd.prog.funcs[qdl 264]?).bind fun fn=>fn.body.map fun c=>(qbj fn.ntmps c,cFn env fn fn264.body c))=some (true,fn264):=by kernel_rfl
theorem qwv:((Tryd.prog.funcs[qdl 265]?).bind fun fn=>fn.body.map fun c=>(qbj fn.ntmps c,cFn env fn fn265.body c))=some (true,fn265):=by kernel_rfl
theorem qww:((Tryd.prog.funcs[qdl 266]?).bind fun fn=>fn.body.map fun c=>(qbj fn.ntmps c,cFn env fn fn266.body c))=some (true,fn266):=by kernel_rfl
theorem qwx:((Tryd.prog.funcs[qdl 269]?).bind fun fn=>fn.body.map fun c=>(qbj fn.ntmps c,cFn env fn fn269.body c))=some (true,fn269):=by kernel_rfl
theorem qwy:((Tryd.prog.funcs[qdl 278]?).bind fun fn=>fn.body.map fun c=>(qbj fn.ntmps c,cFn env fn fn278.body c))=some (true,fn278):=by kernel_rfl
theorem qwz:((Tryd.prog.funcs[qdl 279]?).bind fun fn=>fn.body.map fun c=>(qbj fn.ntmps c,cFn env fn fn279.body c))=some (true,fn279):=by kernel_rfl
theorem qwA:((Tryd.prog.funcs[qdl 280]?).bind fun fn=>fn.body.map fun c=>(qbj fn.ntmps c,cFn env fn fn280.body c))=some (true,fn280):=by kernel_rfl
theorem qwB:((Tryd.prog.funcs[qdl 281]?).bind fun fn=>fn.body.map fun c=>(qbj fn.ntmps c,cFn env fn fn281.body c))=some (true,fn281):=by kernel_rfl
theorem qwC:((Tryd.prog.funcs[qdl 283]?).bind fun fn=>fn.body.map fun c=>(qbj fn.ntmps c,cFn env fn fn283.body c))=some (true,fn283):=by kernel_rfl
theorem qwD:((Tryd.prog.funcs[qdl 291]?).bind fun fn=>fn.body.map fun c=>(qbj fn.ntmps c,cFn env fn fn291.body c))=some (true,fn291):=by kernel_rfl
theorem qwE:((Tryd.prog.funcs[qdl 292]?).bind fun fn=>fn.body.map fun c=>(qbj fn.ntmps c,cFn env fn fn292.body c))=some (true,fn292):=by kernel_rfl
theorem qwF:((Tryd.prog.funcs[qdl 293]?).bind fun fn=>fn.body.map fun c=>(qbj fn.ntmps c,cFn env fn fn293.body c))=some (true,fn293):=by kernel_rfl
theorem qwG:((Tryd.prog.funcs[qdl 294]?).bind fun fn=>fn.body.map fun c=>(qbj fn.ntmps c,cFn env fn fn294.body c))=some (true,fn294):=by kernel_rfl
theorem qwH:((Tryd.prog.funcs[qdl 297]?).bind fun fn=>fn.body.map fun c=>(qbj fn.ntmps c,cFn env fn fn297.body c))=some (true,fn297):=by kernel_rfl
theorem qwI:((Tryd.prog.funcs[qdl 298]?).bind fun fn=>fn.body.map fun c=>(qbj fn.ntmps c,cFn env fn fn298.body c))=some (true,fn298):=by kernel_rfl
theorem qwJ:((Tryd.prog.funcs[qdl 299]?).bind fun fn=>fn.body.map fun c=>(qbj fn.ntmps c,cFn env fn fn299.body c))=some (true,fn299):=by kernel_rfl
theorem qwK:((Tryd.prog.funcs[qdl 300]?).bind fun fn=>fn.body.map fun c=>(qbj fn.ntmps c,cFn env fn fn300.body c))=some (true,fn300):=by kernel_rfl
theorem qwL:((Tryd.prog.funcs[qdl 301]?).bind fun fn=>fn.body.map fun c=>(qbj fn.ntmps c,cFn env fn fn301.body c))=some (true,fn301):=by kernel_rfl
theorem qwM:((Tryd.prog.funcs[qdl 302]?).bind fun fn=>fn.body.map fun c=>(qbj fn.ntmps c,cFn env fn fn302.body c))=some (true,fn302):=by kernel_rfl
theorem qwN:((Tryd.prog.funcs[qdl 303]?).bind fun fn=>fn.body.map fun c=>(qbj fn.ntmps c,cFn env fn fn303.body c))=some (true,fn303):=by kernel_rfl
theorem qwO:((Tryd.prog.funcs[qdl 304]?).bind fun fn=>fn.body.map fun c=>(qbj fn.ntmps c,cFn env fn fn304.body c))=some (true,fn304):=by kernel_rfl
theorem qwP:((Tryd.prog.funcs[qdl 313]?).bind fun fn=>fn.body.map fun c=>(qbj fn.ntmps c,cFn env fn fn313.body c))=some (true,fn313):=by kernel_rfl
theorem qwQ:((Tryd.prog.funcs[qdl 314]?).bind fun fn=>fn.body.map fun c=>(qbj fn.ntmps c,cFn env fn fn314.body c))=some (true,fn314):=by kernel_rfl
theorem qwR:((Tryd.prog.funcs[qdl 315]?).bind fun fn=>fn.body.map fun c=>(qbj fn.ntmps c,cFn env fn fn315.body c))=some (true,fn315):=by kernel_rfl
theorem qwS:((Tryd.prog.funcs[qdl 316]?).bind fun fn=>fn.body.map fun c=>(qbj fn.ntmps c,cFn env fn fn316.body c))=some (true,fn316):=by kernel_rfl
theorem qwT:((Tryd.prog.funcs[qdl 317]?).bind fun fn=>fn.body.map fun c=>(qbj fn.ntmps c,cFn env fn fn317.body c))=some (true,fn317):=by kernel_rfl
theorem qwU:((Tryd.prog.funcs[qdl 318]?).bind fun fn=>fn.body.map fun c=>(qbj fn.ntmps c,cFn env fn fn318.body c))=some (true,fn318):=by kernel_rfl
theorem qwV:((Tryd.prog.funcs[qdl 319]?).bind fun fn=>fn.body.map fun c=>(qbj fn.ntmps c,cFn env fn fn319.body c))=some (true,fn319):=by kernel_rfl
theorem qwW:((Tryd.prog.funcs[qdl 320]?).bind fun fn=>fn.body.map fun c=>(qbj fn.ntmps c,cFn env fn fn320.body c))=some (true,fn320):=by kernel_rfl
theorem qxT:∀ f k,env.fm f=some k→FnOk env lib f k:=by
 intro f k hf
 have:=qxK f k hf
 subst this
 by_cases h0:k=188
 ·subst h0
  have e:qdl 188=63:=by kernel_rfl
  rw[e]
  exact⟨.inl ⟨qko,rfl,qrv⟩⟩
 by_cases h1:k=138
 ·subst h1
  have e:qdl 138=111:=by kernel_rfl
  rw[e]
  exact⟨.inl ⟨qof,rfl,quU⟩⟩
 cases hx:qjd k with
 | none =>
   refine⟨.inl ⟨fun _ _=>none,?_,qsU env _⟩⟩
   show qgs k=_
   unfold qgs
   rw[hx]
   dsimp only
   rw[if_neg h0,if_neg h1]
 | some fn =>
   have hs:lib.summ k=none:=by
    show qgs k=_
    unfold qgs
    rw[hx]
   have hx2:=hx
   unfold qjd at hx
   split at hx
   ·exact qbe hs rfl qvR
   ·exact qbe hs rfl qvS
   ·exact qbe hs rfl qvT
   ·exact qbe hs rfl qvU
   ·exact qbe hs rfl qvV
   ·exact qbe hs rfl qvW
   ·exact qbe hs rfl qvX
   ·exact qbe hs rfl qvY
   ·exact qbe hs rfl qvZ
   ·exact qbe hs rfl qv0
   ·exact qbe hs rfl qv1
   ·exact qbe hs rfl qv2
   ·exact qbe hs rfl qv3
   ·exact qbe hs rfl qv4
   ·exact qbe hs rfl qv5
   ·exact qbe hs rfl qv6
   ·exact qbe hs rfl qv7
   ·exact qbe hs rfl qv8
   ·exact qbe hs rfl qv9
   ·exact qbe hs rfl qwa
   ·exact qbe hs rfl qwb
   ·exact qbe hs rfl qwc
   ·exact qbe hs rfl qwd
   ·exact qbe hs rfl qwe
   ·exact qbe hs rfl qwf
   ·exact qbe hs rfl qwg
   ·exact qbe hs rfl qwh
   ·exact qbe hs rfl qwi
   ·exact qbe hs rfl qwj
   ·exact qbe hs rfl qwk
   ·exact qbe hs rfl qwl
   ·exact qbe hs rfl qwm
   ·exact qbe hs rfl qwn
   ·exact qbe hs rfl qwo
   ·exact qbe hs rfl qwp
   ·exact qbe hs rfl qwq
   ·exact qbe hs rfl qwr
   ·exact qbe hs rfl qws
   ·exact qbe hs rfl qwt
   ·exact qbe hs rfl qwu
   ·exact qbe hs rfl qwv
   ·exact qbe hs rfl qww
   ·exact qbe hs rfl qwx
   ·exact qbe hs rfl qwy
   ·exact qbe hs rfl qwz
   ·exact qbe hs rfl qwA
   ·exact qbe hs rfl qwB
   ·exact qbe hs rfl qwC
   ·exact qbe hs rfl qwD
   ·exact qbe hs rfl qwE
   ·exact qbe hs rfl qwF
   ·exact qbe hs rfl qwG
   ·exact qbe hs rfl qwH
   ·exact qbe hs rfl qwI
   ·exact qbe hs rfl qwJ
   ·exact qbe hs rfl qwK
   ·exact qbe hs rfl qwL
   ·exact qbe hs rfl qwM
   ·exact qbe hs rfl qwN
   ·exact qbe hs rfl qwO
   ·exact qbe hs rfl qwP
   ·exact qbe hs rfl qwQ
   ·exact qbe hs rfl qwR
   ·exact qbe hs rfl qwS
   ·exact qbe hs rfl qwT
   ·exact qbe hs rfl qwU
   ·exact qbe hs rfl qwV
   ·exact qbe hs rfl qwW
   ·cases hx
theorem qug:qcB env (call lib):=qvw qu5 lib qxT
theorem qiG:Plain lib:=by
 refine⟨fun _=>rfl,fun f hf=>?_⟩
 show qgs f=none
 have hf':qjd f≠none:=hf
 unfold qgs
 cases hx:qjd f with
 | none=>exact absurd hx hf'
 | some _=>rfl
theorem qsm {f:Nat} {args:List AVal} {v:AVal} {s:List AVal→Heap→Option (ARes × Heap)} (hs:lib.summ f=some s) (h1:s args []=some (.val v,[])) (hw:wipeR v=v) (hd:qa2 v=true) (h:Heap) :
  pcall lib f args h=some (.val v,h):=by
 have:call lib f args []=some (.val v,[]):=qii hs h1
 exact qdz this (by rw[qpC (by rw[hw];exact hd),hw]) hd h
theorem qvx (l:List Int) (h:Heap) (hl:l.length<2 ^ 30):qko [.list (l.map qaP) none] h=some (.val (qkp l h.length),h++qhA l):=by
 unfold qko
 dsimp only
 rw[qpN,List.length_map]
 by_cases hz:l=[]
 ·subst hz
  simp[qkp,qhA]
 ·have:l.map qaP≠[]:=by simpa using hz
  rw[qkq hz,qkn hz,if_pos (by simp[hl]),if_neg this]
theorem lib_mut:MPrims lib:=⟨fun l h hl=>qii (s:=qko) rfl (qvx l h hl)⟩
theorem qnE:CPrims lib qb4:=by
 refine⟨fun l h hl=>?_,fun l hne hl=>?_,fun h=>?_⟩
 ·have h1:=lib_mut.clone l [] hl
  refine qdz h1 ?_ (by rw[qaa];exact qar l) h
  rcases qf8 l with ⟨h2,h3⟩ | ⟨h2,h3⟩
  ·rw[h2,h3,qij h3]
   rfl
  ·rw[h2,h3]
   unfold qgB
   have hv:viewV ([]++[.vec (l.map qaP) 1]) (.vec ([]:Heap).length l.length)=.list (l.map qaP) none:=(HInts.view (H:=[.vec (l.map qaP) 1]) (l:=l) (v:=.vec 0 l.length) (f:=[0]) (.inr ⟨qha h3,0,rfl,rfl,rfl⟩) 1999)
   rw[if_neg (by simp[wipeR,wipe,wipeCell,qa2]),hv]
   rfl
 ·refine qii (s:=qof) rfl ?_
  unfold qof
  have hx:∃ m,l.length=m+1:=⟨l.length-1,by have:=List.length_pos_iff.2 hne;omega⟩
  dsimp only
  rw[qpN,List.length_map,qrW]
  simp[hl]
 ·exact qsm (s:=qof) rfl rfl rfl rfl h
theorem qr7 (h:Heap):call lib 138 [.list [] none] h=some (.val (.tuple []),h):=qii (s:=qof) rfl rfl
theorem quj:∀ (t:CTree),TFit t→qbR t<2 ^ 30→∀ h:Heap,pcall lib 159 [qaX t] h=some (.val (.list ((qbU t).map qaH) none),h):=fun t hf hs h=>qul qiG qnE rfl rfl t hf hs h
theorem quh:CLib lib:=by
 constructor
 case plain=>exact qiG
 case prims=>exact qnE
 case grow=>exact fun e h hl hf hT hh=>qqz qiG lib_mut rfl e h hl hf hT hh
 all_goals rfl
theorem qui:CLib2 lib:=by
 constructor
 case toCLib=>exact quh
 case list=>exact quj
 all_goals rfl
end Go.Abs
