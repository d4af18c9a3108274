/-
  The seat's table of functions: each is the program's, as the kernel checks. Conditions: none.
-/
import Derived.Test.YtpchghpipgpkfaaDoorSeatPE
import Derived.Test.YtpchghpipgpkfaaDoorRAE
import Derived.Test.YtpchghpipgpkfaaDoorRM
import Derived.KernelRfl
set_option linter.unusedVariables false
set_option maxRecDepth 100000
set_option maxHeartbeats 4000000
namespace Go.Abs
open Go.Proofs Go.RowKit
def qhK:Nat→Option AFn
 | 132=>some fn132
 | 133=>some fn133
 | 134=>some fn134
 | 139=>some fn139
 | 151=>some fn151
 | 153=>some fn153
 | 154=>some fn154
 | 159=>some fm159
 | 160=>some fm160
 | 161=>some fn161
 | 162=>some fn162
 | 163=>some fn163
 | 164=>some fn164
 | 165=>some fn165
 | 167=>some fn167
 | 171=>some fn171
 | 177=>some fn177
 | 181=>some fn181
 | 183=>some fn183
 | 187=>some fm187
 | 189=>some fn189
 | 190=>some fn190
 | 191=>some fn191
 | 192=>some fn192
 | 193=>some fn193
 | 194=>some fn194
 | 195=>some fn195
 | 196=>some fn196
 | 207=>some fn207
 | 208=>some fn208
 | 232=>some fn232
 | 234=>some fn234
 | 235=>some fn235
 | 236=>some fn236
 | 256=>some fn256
 | 258=>some fn258
 | 259=>some fn259
 | 264=>some fn264
 | 265=>some fn265
 | 266=>some fn266
 | 283=>some fn283
 | 293=>some fn293
 | 294=>some fn294
 | 297=>some fn297
 | 298=>some fn298
 | 299=>some fn299
 | 300=>some fn300
 | 301=>some fn301
 | 302=>some fn302
 | 303=>some fn303
 | 304=>some fn304
 | 313=>some fn313
 | 314=>some fn314
 | 315=>some fn315
 | 316=>some fn316
 | 317=>some fn317
 | 318=>some fn318
 | 319=>some fn319
 | 320=>some fn320
 | 326=>some fn326
 | 332=>some fn332
 | 333=>some fn333
 | 334=>some fn334
 | 342=>some fn342
 | 343=>some fn343
 | 346=>some fn346
 | 347=>some fn347
 | _=>none
noncomputable def qeJ (k:Nat):Option (List AVal→Heap→Option (ARes × Heap)) :=
 match qhK k with | some _=>none | none=>if k=188 then some qjb else if k=138 then some qnv else some fun _ _=>none
noncomputable def lib:Lib:={ pure:=fun _=>true,summ:=qeJ,fns:=qhK }
theorem qwn:((Tryd.prog.funcs[qca 132]?).bind fun fn=>fn.body.map fun c=>(qaH fn.ntmps c,cFn env fn fn132.body c))=some (true,fn132):=by kernel_rfl
theorem qwo:((Tryd.prog.funcs[qca 133]?).bind fun fn=>fn.body.map fun c=>(qaH fn.ntmps c,cFn env fn fn133.body c))=some (true,fn133):=by kernel_rfl
theorem qwp:((Tryd.prog.funcs[qca 134]?).bind fun fn=>fn.body.map fun c=>(qaH fn.ntmps c,cFn env fn fn134.body c))=some (true,fn134):=by kernel_rfl
theorem qwq:((Tryd.prog.funcs[qca 139]?).bind fun fn=>fn.body.map fun c=>(qaH fn.ntmps c,cFn env fn fn139.body c))=some (true,fn139):=by kernel_rfl
theorem qwr:((Tryd.prog.funcs[qca 151]?).bind fun fn=>fn.body.map fun c=>(qaH fn.ntmps c,cFn env fn fn151.body c))=some (true,fn151):=by kernel_rfl
theorem qws:((Tryd.prog.funcs[qca 153]?).bind fun fn=>fn.body.map fun c=>(qaH fn.ntmps c,cFn env fn fn153.body c))=some (true,fn153):=by kernel_rfl
theorem qwt:((Tryd.prog.funcs[qca 154]?).bind fun fn=>fn.body.map fun c=>(qaH fn.ntmps c,cFn env fn fn154.body c))=some (true,fn154):=by kernel_rfl
theorem qwu:((Tryd.prog.funcs[qca 159]?).bind fun fn=>fn.body.map fun c=>(qaH fn.ntmps c,cFn env fn fm159.body c))=some (true,fm159):=by kernel_rfl
theorem qwv:((Tryd.prog.funcs[qca 160]?).bind fun fn=>fn.body.map fun c=>(qaH fn.ntmps c,cFn env fn fm160.body c))=some (true,fm160):=by kernel_rfl
theorem qww:((Tryd.prog.funcs[qca 161]?).bind fun fn=>fn.body.map fun c=>(qaH fn.ntmps c,cFn env fn fn161.body c))=some (true,fn161):=by kernel_rfl
theorem qwx:((Tryd.prog.funcs[qca 162]?).bind fun fn=>fn.body.map fun c=>(qaH fn.ntmps c,cFn env fn fn162.body c))=some (true,fn162):=by kernel_rfl
theorem qwy:((Tryd.prog.funcs[qca 163]?).bind fun fn=>fn.body.map fun c=>(qaH fn.ntmps c,cFn env fn fn163.body c))=some (true,fn163):=by kernel_rfl
theorem qwz:((Tryd.prog.funcs[qca 164]?).bind fun fn=>fn.body.map fun c=>(qaH fn.ntmps c,cFn env fn fn164.body c))=some (true,fn164):=by kernel_rfl
theorem qwA:((Tryd.prog.funcs[qca 165]?).bind fun fn=>fn.body.map fun c=>(qaH fn.ntmps c,cFn env fn fn165.body c))=some (true,fn165):=by kernel_rfl
theorem qwB:((Tryd.prog.funcs[qca 167]?).bind fun fn=>fn.body.map fun c=>(qaH fn.ntmps c,cFn env fn fn167.body c))=some (true,fn167):=by kernel_rfl
theorem qwC:((Tryd.prog.funcs[qca 171]?).bind fun fn=>fn.body.map fun c=>(qaH fn.ntmps c,cFn env fn fn171.body c))=some (true,fn171):=by kernel_rfl
theorem qwD:((Tryd.prog.funcs[qca 177]?).bind fun fn=>fn.body.map fun c=>(qaH fn.ntmps c,cFn env fn fn177.body c))=some (true,fn177):=by kernel_rfl
theorem qwE:((Tryd.prog.funcs[qca 181]?).bind fun fn=>fn.body.map fun c=>(qaH fn.ntmps c,cFn env fn fn181.body c))=some (true,fn181):=by kernel_rfl
theorem qwF:((Tryd.prog.funcs[qca 183]?).bind fun fn=>fn.body.map fun c=>(qaH fn.ntmps c,cFn env fn fn183.body c))=some (true,fn183):=by kernel_rfl
theorem qwG:((Tryd.prog.funcs[qca 187]?).bind fun fn=>fn.body.map fun c=>(qaH fn.ntmps c,cFn env fn fm187.body c))=some (true,fm187):=by kernel_rfl
theorem qwH:((Tryd.prog.funcs[qca 189]?).bind fun fn=>fn.body.map fun c=>(qaH fn.ntmps c,cFn env fn fn189.body c))=some (true,fn189):=by kernel_rfl
theorem qwI:((Tryd.prog.funcs[qca 190]?).bind fun fn=>fn.body.map fun c=>(qaH fn.ntmps c,cFn env fn fn190.body c))=some (true,fn190):=by kernel_rfl
theorem qwJ:((Tryd.prog.funcs[qca 191]?).bind fun fn=>fn.body.map fun c=>(qaH fn.ntmps c,cFn env fn fn191.body c))=some (true,fn191):=by kernel_rfl
theorem qwK:((Tryd.prog.funcs[qca 192]?).bind fun fn=>fn.body.map fun c=>(qaH fn.ntmps c,cFn env fn fn192.body c))=some (true,fn192):=by kernel_rfl
theorem qwL:((Tryd.prog.funcs[qca 193]?).bind fun fn=>fn.body.map fun c=>(qaH fn.ntmps c,cFn env fn fn193.body c))=some (true,fn193):=by kernel_rfl
theorem qwM:((Tryd.prog.funcs[qca 194]?).bind fun fn=>fn.body.map fun c=>(qaH fn.ntmps c,cFn env fn fn194.body c))=some (true,fn194):=by kernel_rfl
theorem qwN:((Tryd.prog.funcs[qca 195]?).bind fun fn=>fn.body.map fun c=>(qaH fn.ntmps c,cFn env fn fn195.body c))=some (true,fn195):=by kernel_rfl
theorem qwO:((Tryd.prog.funcs[qca 196]?).bind fun fn=>fn.body.map fun c=>(qaH fn.ntmps c,cFn env fn fn196.body c))=some (true,fn196):=by kernel_rfl
theorem qwP:((Tryd.prog.funcs[qca 207]?).bind fun fn=>fn.body.map fun c=>(qaH fn.ntmps c,cFn env fn fn207.body c))=some (true,fn207):=by kernel_rfl
theorem qwQ:((Tryd.prog.funcs[qca 208]?).bind fun fn=>fn.body.map fun c=>(qaH fn.ntmps c,cFn env fn fn208.body c))=some (true,fn208):=by kernel_rfl
theorem qwR:((Tryd.prog.funcs[qca 232]?).bind fun fn=>fn.body.map fun c=>(qaH fn.ntmps c,cFn env fn fn232.body c))=some (true,fn232):=by kernel_rfl
theorem qwS:((Tryd.prog.funcs[qca 234]?).bind fun fn=>fn.body.map fun c=>(qaH fn.ntmps c,cFn env fn fn234.body c))=some (true,fn234):=by kernel_rfl
theorem qwT:((Tryd.prog.funcs[qca 235]?).bind fun fn=>fn.body.map fun c=>(qaH fn.ntmps c,cFn env fn fn235.body c))=some (true,fn235):=by kernel_rfl
theorem qwU:((Tryd.prog.funcs[qca 236]?).bind fun fn=>fn.body.map fun c=>(qaH fn.ntmps c,cFn env fn fn236.body c))=some (true,fn236):=by kernel_rfl
theorem qwV:((Tryd.prog.funcs[qca 256]?).bind fun fn=>fn.body.map fun c=>(qaH fn.ntmps c,cFn env fn fn256.body c))=some (true,fn256):=by kernel_rfl
theorem qwW:((Tryd.prog.funcs[qca 258]?).bind fun fn=>fn.body.map fun c=>(qaH fn.ntmps c,cFn env fn fn258.body c))=some (true,fn258):=by kernel_rfl
theorem qwX:((Tryd.prog.funcs[qca 259]?).bind fun fn=>fn.body.map fun c=>(qaH fn.ntmps c,cFn env fn fn259.body c))=some (true,fn259):=by kernel_rfl
theorem qwY:((Tryd.prog.funcs[qca 264]?).bind fun fn=>fn.body.map fun c=>(qaH fn.ntmps c,cFn env fn fn264.body c))=some (true,fn264):=by kernel_rfl
theorem qwZ:((Tryd.prog.funcs[qca 265]?).bind fun fn=>fn.body.map fun c=>(qaH fn.ntmps c,cFn env fn fn265.body c))=some (true,fn265):=by kernel_rfl
theorem qw0:((Tryd.prog.funcs[qca 266]?).bind fun fn=>fn.body.map fun c=>(qaH fn.ntmps c,cFn env fn fn266.body c))=some (true,fn266):=by kernel_rfl
theorem qw1:((Tryd.prog.funcs[qca 283]?).bind fun fn=>fn.body.map fun c=>(qaH fn.ntmps c,cFn env fn fn283.body c))=some (true,fn283):=by kernel_rfl
theorem qw2:((Tryd.prog.funcs[qca 293]?).bind fun fn=>fn.body.map fun c=>(qaH fn.ntmps c,cFn env fn fn293.body c))=some (true,fn293):=by kernel_rfl
theorem qw3:((Tryd.prog.funcs[qca 294]?).bind fun fn=>fn.body.map fun c=>(qaH fn.ntmps c,cFn env fn fn294.body c))=some (true,fn294):=by kernel_rfl
theorem qw4:((Tryd.prog.funcs[qca 297]?).bind fun fn=>fn.body.map fun c=>(qaH fn.ntmps c,cFn env fn fn297.body c))=some (true,fn297):=by kernel_rfl
theorem qw5:((Tryd.prog.funcs[qca 298]?).bind fun fn=>fn.body.map fun c=>(qaH fn.ntmps c,cFn env fn fn298.body c))=some (true,fn298):=by kernel_rfl
theorem qw6:((Tryd.prog.funcs[qca 299]?).bind fun fn=>fn.body.map fun c=>(qaH fn.ntmps c,cFn env fn fn299.body c))=some (true,fn299):=by kernel_rfl
theorem qw7:((Tryd.prog.funcs[qca 300]?).bind fun fn=>fn.body.map fun c=>(qaH fn.ntmps c,cFn env fn fn300.body c))=some (true,fn300):=by kernel_rfl
theorem qw8:((Tryd.prog.funcs[qca 301]?).bind fun fn=>fn.body.map fun c=>(qaH fn.ntmps c,cFn env fn fn301.body c))=some (true,fn301):=by kernel_rfl
theorem qw9:((Tryd.prog.funcs[qca 302]?).bind fun fn=>fn.body.map fun c=>(qaH fn.ntmps c,cFn env fn fn302.body c))=some (true,fn302):=by kernel_rfl
theorem qxa:((Tryd.prog.funcs[qca 303]?).bind fun fn=>fn.body.map fun c=>(qaH fn.ntmps c,cFn env fn fn303.body c))=some (true,fn303):=by kernel_rfl
theorem qxb:((Tryd.prog.funcs[qca 304]?).bind fun fn=>fn.body.map fun c=>(qaH fn.ntmps c,cFn env fn fn304.body c))=some (true,fn304):=by kernel_rfl
theorem qxc:((Tryd.prog.funcs[qca 313]?).bind fun fn=>fn.body.map fun c=>(qaH fn.ntmps c,cFn env fn fn313.body c))=some (true,fn313):=by kernel_rfl
theorem qxd:((Tryd.prog.funcs[qca 314]?).bind fun fn=>fn.body.map fun c=>(qaH fn.ntmps c,cFn env fn fn314.body c))=some (true,fn314):=by kernel_rfl
theorem qxe:((Tryd.prog.funcs[qca 315]?).bind fun fn=>fn.body.map fun c=>(qaH fn.ntmps c,cFn env fn fn315.body c))=some (true,fn315):=by kernel_rfl
theorem qxf:((Tryd.prog.funcs[qca 316]?).bind fun fn=>fn.body.map fun c=>(qaH fn.ntmps c,cFn env fn fn316.body c))=some (true,fn316):=by kernel_rfl
theorem qxg:((Tryd.prog.funcs[qca 317]?).bind fun fn=>fn.body.map fun c=>(qaH fn.ntmps c,cFn env fn fn317.body c))=some (true,fn317):=by kernel_rfl
theorem qxh:((Tryd.prog.funcs[qca 318]?).bind fun fn=>fn.body.map fun c=>(qaH fn.ntmps c,cFn env fn fn318.body c))=some (true,fn318):=by kernel_rfl
theorem qxi:((Tryd.prog.funcs[qca 319]?).bind fun fn=>fn.body.map fun c=>(qaH fn.ntmps c,cFn env fn fn319.body c))=some (true,fn319):=by kernel_rfl
theorem qxj:((Tryd.prog.funcs[qca 320]?).bind fun fn=>fn.body.map fun c=>(qaH fn.ntmps c,cFn env fn fn320.body c))=some (true,fn320):=by kernel_rfl
theorem qxk:((Tryd.prog.funcs[qca 326]?).bind fun fn=>fn.body.map fun c=>(qaH fn.ntmps c,cFn env fn fn326.body c))=some (true,fn326):=by kernel_rfl
theorem qxl:((Tryd.prog.funcs[qca 332]?).bind fun fn=>fn.body.map fun c=>(qaH fn.ntmps c,cFn env fn fn332.body c))=some (true,fn332):=by kernel_rfl
theorem qxm:((Tryd.prog.funcs[qca 333]?).bind fun fn=>fn.body.map fun c=>(qaH fn.ntmps c,cFn env fn fn333.body c))=some (true,fn333):=by kernel_rfl
theorem qxn:((Tryd.prog.funcs[qca 334]?).bind fun fn=>fn.body.map fun c=>(qaH fn.ntmps c,cFn env fn fn334.body c))=some (true,fn334):=by kernel_rfl
theorem qxo:((Tryd.prog.funcs[qca 342]?).bind fun fn=>fn.body.map fun c=>(qaH fn.ntmps c,cFn env fn fn342.body c))=some (true,fn342):=by kernel_rfl
theorem qxp:((Tryd.prog.funcs[qca 343]?).bind fun fn=>fn.body.map fun c=>(qaH fn.ntmps c,cFn env fn fn343.body c))=some (true,fn343):=by kernel_rfl
theorem qxq:((Tryd.prog.funcs[qca 346]?).bind fun fn=>fn.body.map fun c=>(qaH fn.ntmps c,cFn env fn fn346.body c))=some (true,fn346):=by kernel_rfl
theorem qxr:((Tryd.prog.funcs[qca 347]?).bind fun fn=>fn.body.map fun c=>(qaH fn.ntmps c,cFn env fn fn347.body c))=some (true,fn347):=by kernel_rfl
theorem qyv:∀ f k,env.fm f=some k→FnOk env lib f k:=by
 intro f k hf
 have:=qyk f k hf
 subst this
 by_cases h0:k=188
 ·subst h0
  have e:qca 188=58:=by kernel_rfl
  rw[e]
  exact⟨.inl ⟨qjb,rfl,qro⟩⟩
 by_cases h1:k=138
 ·subst h1
  have e:qca 138=98:=by kernel_rfl
  rw[e]
  exact⟨.inl ⟨qnv,rfl,qvb⟩⟩
 cases hx:qhK k with
 | none =>
   refine⟨.inl ⟨fun _ _=>none,?_,qs7 env _⟩⟩
   show qeJ k=_
   unfold qeJ
   rw[hx]
   dsimp only
   rw[if_neg h0,if_neg h1]
 | some fn =>
   have hs:lib.summ k=none:=by
    show qeJ k=_
    unfold qeJ
    rw[hx]
   have hx2:=hx
   unfold qhK at hx
   split at hx
   ·exact qaF hs rfl qwn
   ·exact qaF hs rfl qwo
   ·exact qaF hs rfl qwp
   ·exact qaF hs rfl qwq
   ·exact qaF hs rfl qwr
   ·exact qaF hs rfl qws
   ·exact qaF hs rfl qwt
   ·exact qaF hs rfl qwu
   ·exact qaF hs rfl qwv
   ·exact qaF hs rfl qww
   ·exact qaF hs rfl qwx
   ·exact qaF hs rfl qwy
   ·exact qaF hs rfl qwz
   ·exact qaF hs rfl qwA
   ·exact qaF hs rfl qwB
   ·exact qaF hs rfl qwC
   ·exact qaF hs rfl qwD
   ·exact qaF hs rfl qwE
   ·exact qaF hs rfl qwF
   ·exact qaF hs rfl qwG
   ·exact qaF hs rfl qwH
   ·exact qaF hs rfl qwI
   ·exact qaF hs rfl qwJ
   ·exact qaF hs rfl qwK
   ·exact qaF hs rfl qwL
   ·exact qaF hs rfl qwM
   ·exact qaF hs rfl qwN
   ·exact qaF hs rfl qwO
   ·exact qaF hs rfl qwP
   ·exact qaF hs rfl qwQ
   ·exact qaF hs rfl qwR
   ·exact qaF hs rfl qwS
   ·exact qaF hs rfl qwT
   ·exact qaF hs rfl qwU
   ·exact qaF hs rfl qwV
   ·exact qaF hs rfl qwW
   ·exact qaF hs rfl qwX
   ·exact qaF hs rfl qwY
   ·exact qaF hs rfl qwZ
   ·exact qaF hs rfl qw0
   ·exact qaF hs rfl qw1
   ·exact qaF hs rfl qw2
   ·exact qaF hs rfl qw3
   ·exact qaF hs rfl qw4
   ·exact qaF hs rfl qw5
   ·exact qaF hs rfl qw6
   ·exact qaF hs rfl qw7
   ·exact qaF hs rfl qw8
   ·exact qaF hs rfl qw9
   ·exact qaF hs rfl qxa
   ·exact qaF hs rfl qxb
   ·exact qaF hs rfl qxc
   ·exact qaF hs rfl qxd
   ·exact qaF hs rfl qxe
   ·exact qaF hs rfl qxf
   ·exact qaF hs rfl qxg
   ·exact qaF hs rfl qxh
   ·exact qaF hs rfl qxi
   ·exact qaF hs rfl qxj
   ·exact qaF hs rfl qxk
   ·exact qaF hs rfl qxl
   ·exact qaF hs rfl qxm
   ·exact qaF hs rfl qxn
   ·exact qaF hs rfl qxo
   ·exact qaF hs rfl qxp
   ·exact qaF hs rfl qxq
   ·exact qaF hs rfl qxr
   ·cases hx
theorem quD:qbA env (call lib):=qvY qvt lib qyv
theorem qhb:Plain lib:=by
 refine⟨fun _=>rfl,fun f hf=>?_⟩
 show qeJ f=none
 have hf':qhK f≠none:=hf
 unfold qeJ
 cases hx:qhK f with
 | none=>exact absurd hx hf'
 | some _=>rfl
theorem qsC {f:Nat} {args:List AVal} {v:AVal} {s:List AVal→Heap→Option (ARes × Heap)} (hs:lib.summ f=some s) (h1:s args []=some (.val v,[])) (hw:wipeR v=v) (hd:qay v=true) (h:Heap) :
  pcall lib f args h=some (.val v,h):=by
 have:call lib f args []=some (.val v,[]):=qgL hs h1
 exact qch this (by rw[qpa (by rw[hw];exact hd),hw]) hd h
theorem qv0 (l:List Int) (h:Heap) (hl:l.length<2 ^ 30):qjb [.list (l.map qav) none] h=some (.val (qjc l h.length),h++qf6 l):=by
 unfold qjb
 dsimp only
 rw[qpm,List.length_map]
 by_cases hz:l=[]
 ·subst hz
  simp[qjc,qf6]
 ·have:l.map qav≠[]:=by simpa using hz
  rw[qjd hz,qja hz,if_pos (by simp[hl]),if_neg this]
theorem lib_mut:MPrims lib:=⟨fun l h hl=>qgL (s:=qjb) rfl (qv0 l h hl)⟩
theorem qmU:CPrims lib qaX:=by
 refine⟨fun l h hl=>?_,fun l hne hl=>?_,fun h=>?_⟩
 ·have h1:=lib_mut.clone l [] hl
  refine qch h1 ?_ (by rw[qa0];exact qaj l) h
  rcases qeu l with ⟨h2,h3⟩ | ⟨h2,h3⟩
  ·rw[h2,h3,qgN h3]
   rfl
  ·rw[h2,h3]
   unfold qeW
   have hv:viewV ([]++[.vec (l.map qav) 1]) (.vec ([]:Heap).length l.length)=.list (l.map qav) none:=(HInts.view (H:=[.vec (l.map qav) 1]) (l:=l) (v:=.vec 0 l.length) (f:=[0]) (.inr ⟨qfz h3,0,rfl,rfl,rfl⟩) 1999)
   rw[if_neg (by simp[wipeR,wipe,wipeCell,qay]),hv]
   rfl
 ·refine qgL (s:=qnv) rfl ?_
  unfold qnv
  have hx:∃ m,l.length=m+1:=⟨l.length-1,by have:=List.length_pos_iff.2 hne;omega⟩
  dsimp only
  rw[qpm,List.length_map,qr0]
  simp[hl]
 ·exact qsC (s:=qnv) rfl rfl rfl rfl h
theorem qsf (h:Heap):call lib 138 [.list [] none] h=some (.val (.tuple []),h):=qgL (s:=qnv) rfl rfl
theorem quF:∀ (t:CTree),TFit t→qaM t<2 ^ 30→∀ h:Heap,pcall lib 159 [qaC t] h=some (.val (.list ((qa3 t).map qam) none),h):=fun t hf hs h=>quG qhb qmU rfl rfl t hf hs h
theorem quE:CLib lib:=by
 constructor
 case plain=>exact qhb
 case prims=>exact qmU
 case grow=>exact fun e h hl hf hT hh=>qqi qhb lib_mut rfl e h hl hf hT hh
 all_goals rfl
theorem qvy:RLib lib:=by
 constructor
 case toCLib=>exact quE
 case list=>exact quF
 case mprims=>exact lib_mut
 all_goals rfl
end Go.Abs
