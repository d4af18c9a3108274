/-
  The seat's table of functions: each is the program's, as the kernel checks. Conditions: none.
-/
import Derived.Test.YtpchghpipgpkfaaDoorSeatPE
import Derived.Test.YtpchghpipgpkfaaDoorRAE
import Derived.Test.YtpchghpipgpkfaaDoorRM
import Derived.KernelRfl
set_option linter.unusedVariables false
set_option maxRecDepth 100000
set_option maxHeartbeats 4000000
namespace Go.Abs
open Go.Proofs Go.RowKit
def qhY:Nat→Option AFn
 | 132=>some fn132
 | 133=>some fn133
 | 134=>some fn134
 | 139=>some fn139
 | 151=>some fn151
 | 153=>some fn153
 | 154=>some fn154
 | 159=>some fm159
 | 160=>some fm160
 | 161=>some fn161
 | 162=>some fn162
 | 163=>some fn163
 | 164=>some fn164
 | 165=>some fn165
 | 167=>some fn167
 | 171=>some fn171
 | 177=>some fn177
 | 181=>some fn181
 | 183=>some fn183
 | 187=>some fm187
 | 189=>some fn189
 | 190=>some fn190
 | 191=>some fn191
 | 192=>some fn192
 | 193=>some fn193
 | 194=>some fn194
 | 195=>some fn195
 | 196=>some fn196
 | 207=>some fn207
 | 208=>some fn208
 | 232=>some fn232
 | 234=>some fn234
 | 235=>some fn235
 | 236=>some fn236
 | 256=>some fn256
 | 258=>some fn258
 | 259=>some fn259
 | 264=>some fn264
 | 265=>some fn265
 | 266=>some fn266
 | 278=>some fn278
 | 279=>some fn279
 | 283=>some fn283
 | 293=>some fn293
 | 294=>some fn294
 | 297=>some fn297
 | 298=>some fn298
 | 299=>some fn299
 | 300=>some fn300
 | 301=>some fn301
 | 302=>some fn302
 | 303=>some fn303
 | 304=>some fn304
 | 313=>some fn313
 | 314=>some fn314
 | 315=>some fn315
 | 316=>some fn316
 | 317=>some fn317
 | 318=>some fn318
 | 319=>some fn319
 | 320=>some fn320
 | 329=>some fn329
 | 332=>some fn332
 | 334=>some fn334
 | 342=>some fn342
 | 343=>some fn343
 | 346=>some fn346
 | 347=>some fn347
 | _=>none
noncomputable def qeT (k:Nat):Option (List AVal→Heap→Option (ARes × Heap)) :=
 match qhY k with | some _=>none | none=>if k=188 then some qjp else if k=138 then some qnL else some fun _ _=>none
noncomputable def lib:Lib:={ pure:=fun _=>true,summ:=qeT,fns:=qhY }
theorem qwE:((Tryd.prog.funcs[qb9 132]?).bind fun fn=>fn.body.map fun c=>(qaI fn.ntmps c,cFn env fn fn132.body c))=some (true,fn132):=by kernel_rfl
theorem qwF:((Tryd.prog.funcs[qb9 133]?).bind fun fn=>fn.body.map fun c=>(qaI fn.ntmps c,cFn env fn fn133.body c))=some (true,fn133):=by kernel_rfl
theorem qwG:((Tryd.prog.funcs[qb9 134]?).bind fun fn=>fn.body.map fun c=>(qaI fn.ntmps c,cFn env fn fn134.body c))=some (true,fn134):=by kernel_rfl
theorem qwH:((Tryd.prog.funcs[qb9 139]?).bind fun fn=>fn.body.map fun c=>(qaI fn.ntmps c,cFn env fn fn139.body c))=some (true,fn139):=by kernel_rfl
theorem qwI:((Tryd.prog.funcs[qb9 151]?).bind fun fn=>fn.body.map fun c=>(qaI fn.ntmps c,cFn env fn fn151.body c))=some (true,fn151):=by kernel_rfl
theorem qwJ:((Tryd.prog.funcs[qb9 153]?).bind fun fn=>fn.body.map fun c=>(qaI fn.ntmps c,cFn env fn fn153.body c))=some (true,fn153):=by kernel_rfl
theorem qwK:((Tryd.prog.funcs[qb9 154]?).bind fun fn=>fn.body.map fun c=>(qaI fn.ntmps c,cFn env fn fn154.body c))=some (true,fn154):=by kernel_rfl
theorem qwL:((Tryd.prog.funcs[qb9 159]?).bind fun fn=>fn.body.map fun c=>(qaI fn.ntmps c,cFn env fn fm159.body c))=some (true,fm159):=by kernel_rfl
theorem qwM:((Tryd.prog.funcs[qb9 160]?).bind fun fn=>fn.body.map fun c=>(qaI fn.ntmps c,cFn env fn fm160.body c))=some (true,fm160):=by kernel_rfl
theorem qwN:((Tryd.prog.funcs[qb9 161]?).bind fun fn=>fn.body.map fun c=>(qaI fn.ntmps c,cFn env fn fn161.body c))=some (true,fn161):=by kernel_rfl
theorem qwO:((Tryd.prog.funcs[qb9 162]?).bind fun fn=>fn.body.map fun c=>(qaI fn.ntmps c,cFn env fn fn162.body c))=some (true,fn162):=by kernel_rfl
theorem qwP:((Tryd.prog.funcs[qb9 163]?).bind fun fn=>fn.body.map fun c=>(qaI fn.ntmps c,cFn env fn fn163.body c))=some (true,fn163):=by kernel_rfl
theorem qwQ:((Tryd.prog.funcs[qb9 164]?).bind fun fn=>fn.body.map fun c=>(qaI fn.ntmps c,cFn env fn fn164.body c))=some (true,fn164):=by kernel_rfl
theorem qwR:((Tryd.prog.funcs[qb9 165]?).bind fun fn=>fn.body.map fun c=>(qaI fn.ntmps c,cFn env fn fn165.body c))=some (true,fn165):=by kernel_rfl
theorem qwS:((Tryd.prog.funcs[qb9 167]?).bind fun fn=>fn.body.map fun c=>(qaI fn.ntmps c,cFn env fn fn167.body c))=some (true,fn167):=by kernel_rfl
theorem qwT:((Tryd.prog.funcs[qb9 171]?).bind fun fn=>fn.body.map fun c=>(qaI fn.ntmps c,cFn env fn fn171.body c))=some (true,fn171):=by kernel_rfl
theorem qwU:((Tryd.prog.funcs[qb9 177]?).bind fun fn=>fn.body.map fun c=>(qaI fn.ntmps c,cFn env fn fn177.body c))=some (true,fn177):=by kernel_rfl
theorem qwV:((Tryd.prog.funcs[qb9 181]?).bind fun fn=>fn.body.map fun c=>(qaI fn.ntmps c,cFn env fn fn181.body c))=some (true,fn181):=by kernel_rfl
theorem qwW:((Tryd.prog.funcs[qb9 183]?).bind fun fn=>fn.body.map fun c=>(qaI fn.ntmps c,cFn env fn fn183.body c))=some (true,fn183):=by kernel_rfl
theorem qwX:((Tryd.prog.funcs[qb9 187]?).bind fun fn=>fn.body.map fun c=>(qaI fn.ntmps c,cFn env fn fm187.body c))=some (true,fm187):=by kernel_rfl
theorem qwY:((Tryd.prog.funcs[qb9 189]?).bind fun fn=>fn.body.map fun c=>(qaI fn.ntmps c,cFn env fn fn189.body c))=some (true,fn189):=by kernel_rfl
theorem qwZ:((Tryd.prog.funcs[qb9 190]?).bind fun fn=>fn.body.map fun c=>(qaI fn.ntmps c,cFn env fn fn190.body c))=some (true,fn190):=by kernel_rfl
theorem qw0:((Tryd.prog.funcs[qb9 191]?).bind fun fn=>fn.body.map fun c=>(qaI fn.ntmps c,cFn env fn fn191.body c))=some (true,fn191):=by kernel_rfl
theorem qw1:((Tryd.prog.funcs[qb9 192]?).bind fun fn=>fn.body.map fun c=>(qaI fn.ntmps c,cFn env fn fn192.body c))=some (true,fn192):=by kernel_rfl
theorem qw2:((Tryd.prog.funcs[qb9 193]?).bind fun fn=>fn.body.map fun c=>(qaI fn.ntmps c,cFn env fn fn193.body c))=some (true,fn193):=by kernel_rfl
theorem qw3:((Tryd.prog.funcs[qb9 194]?).bind fun fn=>fn.body.map fun c=>(qaI fn.ntmps c,cFn env fn fn194.body c))=some (true,fn194):=by kernel_rfl
theorem qw4:((Tryd.prog.funcs[qb9 195]?).bind fun fn=>fn.body.map fun c=>(qaI fn.ntmps c,cFn env fn fn195.body c))=some (true,fn195):=by kernel_rfl
theorem qw5:((Tryd.prog.funcs[qb9 196]?).bind fun fn=>fn.body.map fun c=>(qaI fn.ntmps c,cFn env fn fn196.body c))=some (true,fn196):=by kernel_rfl
theorem qw6:((Tryd.prog.funcs[qb9 207]?).bind fun fn=>fn.body.map fun c=>(qaI fn.ntmps c,cFn env fn fn207.body c))=some (true,fn207):=by kernel_rfl
theorem qw7:((Tryd.prog.funcs[qb9 208]?).bind fun fn=>fn.body.map fun c=>(qaI fn.ntmps c,cFn env fn fn208.body c))=some (true,fn208):=by kernel_rfl
theorem qw8:((Tryd.prog.funcs[qb9 232]?).bind fun fn=>fn.body.map fun c=>(qaI fn.ntmps c,cFn env fn fn232.body c))=some (true,fn232):=by kernel_rfl
theorem qw9:((Tryd.prog.funcs[qb9 234]?).bind fun fn=>fn.body.map fun c=>(qaI fn.ntmps c,cFn env fn fn234.body c))=some (true,fn234):=by kernel_rfl
theorem qxa:((Tryd.prog.funcs[qb9 235]?).bind fun fn=>fn.body.map fun c=>(qaI fn.ntmps c,cFn env fn fn235.body c))=some (true,fn235):=by kernel_rfl
theorem qxb:((Tryd.prog.funcs[qb9 236]?).bind fun fn=>fn.body.map fun c=>(qaI fn.ntmps c,cFn env fn fn236.body c))=some (true,fn236):=by kernel_rfl
theorem qxc:((Tryd.prog.funcs[qb9 256]?).bind fun fn=>fn.body.map fun c=>(qaI fn.ntmps c,cFn env fn fn256.body c))=some (true,fn256):=by kernel_rfl
theorem qxd:((Tryd.prog.funcs[qb9 258]?).bind fun fn=>fn.body.map fun c=>(qaI fn.ntmps c,cFn env fn fn258.body c))=some (true,fn258):=by kernel_rfl
theorem qxe:((Tryd.prog.funcs[qb9 259]?).bind fun fn=>fn.body.map fun c=>(qaI fn.ntmps c,cFn env fn fn259.body c))=some (true,fn259):=by kernel_rfl
theorem qxf:((Tryd.prog.funcs[qb9 264]?).bind fun fn=>fn.body.map fun c=>(qaI fn.ntmps c,cFn env fn fn264.body c))=some (true,fn264):=by kernel_rfl
theorem qxg:((Tryd.prog.funcs[qb9 265]?).bind fun fn=>fn.body.map fun c=>(qaI fn.ntmps c,cFn env fn fn265.body c))=some (true,fn265):=by kernel_rfl
theorem qxh:((Tryd.prog.funcs[qb9 266]?).bind fun fn=>fn.body.map fun c=>(qaI fn.ntmps c,cFn env fn fn266.body c))=some (true,fn266):=by kernel_rfl
theorem qxi:((Tryd.prog.funcs[qb9 278]?).bind fun fn=>fn.body.map fun c=>(qaI fn.ntmps c,cFn env fn fn278.body c))=some (true,fn278):=by kernel_rfl
theorem qxj:((Tryd.prog.funcs[qb9 279]?).bind fun fn=>fn.body.map fun c=>(qaI fn.ntmps c,cFn env fn fn279.body c))=some (true,fn279):=by kernel_rfl
theorem qxk:((Tryd.prog.funcs[qb9 283]?).bind fun fn=>fn.body.map fun c=>(qaI fn.ntmps c,cFn env fn fn283.body c))=some (true,fn283):=by kernel_rfl
theorem qxl:((Tryd.prog.funcs[qb9 293]?).bind fun fn=>fn.body.map fun c=>(qaI fn.ntmps c,cFn env fn fn293.body c))=some (true,fn293):=by kernel_rfl
theorem qxm:((Tryd.prog.funcs[qb9 294]?).bind fun fn=>fn.body.map fun c=>(qaI fn.ntmps c,cFn env fn fn294.body c))=some (true,fn294):=by kernel_rfl
theorem qxn:((Tryd.prog.funcs[qb9 297]?).bind fun fn=>fn.body.map fun c=>(qaI fn.ntmps c,cFn env fn fn297.body c))=some (true,fn297):=by kernel_rfl
theorem qxo:((Tryd.prog.funcs[qb9 298]?).bind fun fn=>fn.body.map fun c=>(qaI fn.ntmps c,cFn env fn fn298.body c))=some (true,fn298):=by kernel_rfl
theorem qxp:((Tryd.prog.funcs[qb9 299]?).bind fun fn=>fn.body.map fun c=>(qaI fn.ntmps c,cFn env fn fn299.body c))=some (true,fn299):=by kernel_rfl
theorem qxq:((Tryd.prog.funcs[qb9 300]?).bind fun fn=>fn.body.map fun c=>(qaI fn.ntmps c,cFn env fn fn300.body c))=some (true,fn300):=by kernel_rfl
theorem qxr:((Tryd.prog.funcs[qb9 301]?).bind fun fn=>fn.body.map fun c=>(qaI fn.ntmps c,cFn env fn fn301.body c))=some (true,fn301):=by kernel_rfl
theorem qxs:((Tryd.prog.funcs[qb9 302]?).bind fun fn=>fn.body.map fun c=>(qaI fn.ntmps c,cFn env fn fn302.body c))=some (true,fn302):=by kernel_rfl
theorem qxt:((Tryd.prog.funcs[qb9 303]?).bind fun fn=>fn.body.map fun c=>(qaI fn.ntmps c,cFn env fn fn303.body c))=some (true,fn303):=by kernel_rfl
theorem qxu:((Tryd.prog.funcs[qb9 304]?).bind fun fn=>fn.body.map fun c=>(qaI fn.ntmps c,cFn env fn fn304.body c))=some (true,fn304):=by kernel_rfl
theorem qxv:((Tryd.prog.funcs[qb9 313]?).bind fun fn=>fn.body.map fun c=>(qaI fn.ntmps c,cFn env fn fn313.body c))=some (true,fn313):=by kernel_rfl
theorem qxw:((Tryd.prog.funcs[qb9 314]?).bind fun fn=>fn.body.map fun c=>(qaI fn.ntmps c,cFn env fn fn314.body c))=some (true,fn314):=by kernel_rfl
theorem qxx:((Tryd.prog.funcs[qb9 315]?).bind fun fn=>fn.body.map fun c=>(qaI fn.ntmps c,cFn env fn fn315.body c))=some (true,fn315):=by kernel_rfl
theorem qxy:((Tryd.prog.funcs[qb9 316]?).bind fun fn=>fn.body.map fun c=>(qaI fn.ntmps c,cFn env fn fn316.body c))=some (true,fn316):=by kernel_rfl
theorem qxz:((Tryd.prog.funcs[qb9 317]?).bind fun fn=>fn.body.map fun c=>(qaI fn.ntmps c,cFn env fn fn317.body c))=some (true,fn317):=by kernel_rfl
theorem qxA:((Tryd.prog.funcs[qb9 318]?).bind fun fn=>fn.body.map fun c=>(qaI fn.ntmps c,cFn env fn fn318.body c))=some (true,fn318):=by kernel_rfl
theorem qxB:((Tryd.prog.funcs[qb9 319]?).bind fun fn=>fn.body.map fun c=>(qaI fn.ntmps c,cFn env fn fn319.body c))=some (true,fn319):=by kernel_rfl
theorem qxC:((Tryd.prog.funcs[qb9 320]?).bind fun fn=>fn.body.map fun c=>(qaI fn.ntmps c,cFn env fn fn320.body c))=some (true,fn320):=by kernel_rfl
theorem qxD:((Tryd.prog.funcs[qb9 329]?).bind fun fn=>fn.body.map fun c=>(qaI fn.ntmps c,cFn env fn fn329.body c))=some (true,fn329):=by kernel_rfl
theorem qxE:((Tryd.prog.funcs[qb9 332]?).bind fun fn=>fn.body.map fun c=>(qaI fn.ntmps c,cFn env fn fn332.body c))=some (true,fn332):=by kernel_rfl
theorem qxF:((Tryd.prog.funcs[qb9 334]?).bind fun fn=>fn.body.map fun c=>(qaI fn.ntmps c,cFn env fn fn334.body c))=some (true,fn334):=by kernel_rfl
theorem qxG:((Tryd.prog.funcs[qb9 342]?).bind fun fn=>fn.body.map fun c=>(qaI fn.ntmps c,cFn env fn fn342.body c))=some (true,fn342):=by kernel_rfl
theorem qxH:((Tryd.prog.funcs[qb9 343]?).bind fun fn=>fn.body.map fun c=>(qaI fn.ntmps c,cFn env fn fn343.body c))=some (true,fn343):=by kernel_rfl
theorem qxI:((Tryd.prog.funcs[qb9 346]?).bind fun fn=>fn.body.map fun c=>(qaI fn.ntmps c,cFn env fn fn346.body c))=some (true,fn346):=by kernel_rfl
theorem qxJ:((Tryd.prog.funcs[qb9 347]?).bind fun fn=>fn.body.map fun c=>(qaI fn.ntmps c,cFn env fn fn347.body c))=some (true,fn347):=by kernel_rfl
theorem qyP:∀ f k,env.fm f=some k→FnOk env lib f k:=by
 intro f k hf
 have:=qyE f k hf
 subst this
 by_cases h0:k=188
 ·subst h0
  have e:qb9 188=58:=by kernel_rfl
  rw[e]
  exact⟨.inl ⟨qjp,rfl,qrM⟩⟩
 by_cases h1:k=138
 ·subst h1
  have e:qb9 138=98:=by kernel_rfl
  rw[e]
  exact⟨.inl ⟨qnL,rfl,qvy⟩⟩
 cases hx:qhY k with
 | none =>
   refine⟨.inl ⟨fun _ _=>none,?_,qtx env _⟩⟩
   show qeT k=_
   unfold qeT
   rw[hx]
   dsimp only
   rw[if_neg h0,if_neg h1]
 | some fn =>
   have hs:lib.summ k=none:=by
    show qeT k=_
    unfold qeT
    rw[hx]
   have hx2:=hx
   unfold qhY at hx
   split at hx
   ·exact qaH hs rfl qwE
   ·exact qaH hs rfl qwF
   ·exact qaH hs rfl qwG
   ·exact qaH hs rfl qwH
   ·exact qaH hs rfl qwI
   ·exact qaH hs rfl qwJ
   ·exact qaH hs rfl qwK
   ·exact qaH hs rfl qwL
   ·exact qaH hs rfl qwM
   ·exact qaH hs rfl qwN
   ·exact qaH hs rfl qwO
   ·exact qaH hs rfl qwP
   ·exact qaH hs rfl qwQ
   ·exact qaH hs rfl qwR
   ·exact qaH hs rfl qwS
   ·exact qaH hs rfl qwT
   ·exact qaH hs rfl qwU
   ·exact qaH hs rfl qwV
   ·exact qaH hs rfl qwW
   ·exact qaH hs rfl qwX
   ·exact qaH hs rfl qwY
   ·exact qaH hs rfl qwZ
   ·exact qaH hs rfl qw0
   ·exact qaH hs rfl qw1
   ·exact qaH hs rfl qw2
   ·exact qaH hs rfl qw3
   ·exact qaH hs rfl qw4
   ·exact qaH hs rfl qw5
   ·exact qaH hs rfl qw6
   ·exact qaH hs rfl qw7
   ·exact qaH hs rfl qw8
   ·exact qaH hs rfl qw9
   ·exact qaH hs rfl qxa
   ·exact qaH hs rfl qxb
   ·exact qaH hs rfl qxc
   ·exact qaH hs rfl qxd
   ·exact qaH hs rfl qxe
   ·exact qaH hs rfl qxf
   ·exact qaH hs rfl qxg
   ·exact qaH hs rfl qxh
   ·exact qaH hs rfl qxi
   ·exact qaH hs rfl qxj
   ·exact qaH hs rfl qxk
   ·exact qaH hs rfl qxl
   ·exact qaH hs rfl qxm
   ·exact qaH hs rfl qxn
   ·exact qaH hs rfl qxo
   ·exact qaH hs rfl qxp
   ·exact qaH hs rfl qxq
   ·exact qaH hs rfl qxr
   ·exact qaH hs rfl qxs
   ·exact qaH hs rfl qxt
   ·exact qaH hs rfl qxu
   ·exact qaH hs rfl qxv
   ·exact qaH hs rfl qxw
   ·exact qaH hs rfl qxx
   ·exact qaH hs rfl qxy
   ·exact qaH hs rfl qxz
   ·exact qaH hs rfl qxA
   ·exact qaH hs rfl qxB
   ·exact qaH hs rfl qxC
   ·exact qaH hs rfl qxD
   ·exact qaH hs rfl qxE
   ·exact qaH hs rfl qxF
   ·exact qaH hs rfl qxG
   ·exact qaH hs rfl qxH
   ·exact qaH hs rfl qxI
   ·exact qaH hs rfl qxJ
   ·cases hx
theorem quX:qbE env (call lib):=qwh qvO lib qyP
theorem qhu:Plain lib:=by
 refine⟨fun _=>rfl,fun f hf=>?_⟩
 show qeT f=none
 have hf':qhY f≠none:=hf
 unfold qeT
 cases hx:qhY f with
 | none=>exact absurd hx hf'
 | some _=>rfl
theorem qs0 {f:Nat} {args:List AVal} {v:AVal} {s:List AVal→Heap→Option (ARes × Heap)} (hs:lib.summ f=some s) (h1:s args []=some (.val v,[])) (hw:wipeR v=v) (hd:qaC v=true) (h:Heap) :
  pcall lib f args h=some (.val v,h):=by
 have:call lib f args []=some (.val v,[]):=qg2 hs h1
 exact qcl this (by rw[qpx (by rw[hw];exact hd),hw]) hd h
theorem qwi (l:List Int) (h:Heap) (hl:l.length<2 ^ 30):qjp [.list (l.map qau) none] h=some (.val (qjq l h.length),h++qgl l):=by
 unfold qjp
 dsimp only
 rw[qpH,List.length_map]
 by_cases hz:l=[]
 ·subst hz
  simp[qjq,qgl]
 ·have:l.map qau≠[]:=by simpa using hz
  rw[qjr hz,qjo hz,if_pos (by simp[hl]),if_neg this]
theorem lib_mut:MPrims lib:=⟨fun l h hl=>qg2 (s:=qjp) rfl (qwi l h hl)⟩
theorem qnc:CPrims lib qa5:=by
 refine⟨fun l h hl=>?_,fun l hne hl=>?_,fun h=>?_⟩
 ·have h1:=lib_mut.clone l [] hl
  refine qcl h1 ?_ (by rw[qaV];exact qah l) h
  rcases qeC l with ⟨h2,h3⟩ | ⟨h2,h3⟩
  ·rw[h2,h3,qg4 h3]
   rfl
  ·rw[h2,h3]
   unfold qe6
   have hv:viewV ([]++[.vec (l.map qau) 1]) (.vec ([]:Heap).length l.length)=.list (l.map qau) none:=(HInts.view (H:=[.vec (l.map qau) 1]) (l:=l) (v:=.vec 0 l.length) (f:=[0]) (.inr ⟨qfN h3,0,rfl,rfl,rfl⟩) 1999)
   rw[if_neg (by simp[wipeR,wipe,wipeCell,qaC]),hv]
   rfl
 ·refine qg2 (s:=qnL) rfl ?_
  unfold qnL
  have hx:∃ m,l.length=m+1:=⟨l.length-1,by have:=List.length_pos_iff.2 hne;omega⟩
  dsimp only
  rw[qpH,List.length_map,qsp]
  simp[hl]
 ·exact qs0 (s:=qnL) rfl rfl rfl rfl h
theorem qsE (h:Heap):call lib 138 [.list [] none] h=some (.val (.tuple []),h):=qg2 (s:=qnL) rfl rfl
theorem qpT:∀ (t:CTree),TFit t→qaP t<2 ^ 30→∀ h:Heap,pcall lib 159 [qar t] h=some (.val (.list ((qaU t).map qam) none),h):=fun t hf hs h=>quZ qhu qnc rfl rfl t hf hs h
theorem qpS:CLib lib:=by
 constructor
 case plain=>exact qhu
 case prims=>exact qnc
 case grow=>exact fun e h hl hf hT hh=>qqE qhu lib_mut rfl e h hl hf hT hh
 all_goals rfl
theorem qvT:RLib lib:=by
 constructor
 case toCLib=>exact qpS
 case list=>exact qpT
 case mprims=>exact lib_mut
 all_goals rfl
theorem quY:CLib2 lib:=by
 constructor
 case toCLib=>exact qpS
 case list=>exact qpT
 all_goals rfl
end Go.Abs
