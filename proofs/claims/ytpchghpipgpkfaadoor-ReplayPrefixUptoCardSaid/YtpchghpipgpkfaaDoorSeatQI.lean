/-
  The seat's table of functions: each is the program's, as the kernel checks. Conditions: none.
-/
import Derived.Test.YtpchghpipgpkfaaDoorSeatPE
import Derived.Test.YtpchghpipgpkfaaDoorRAE
import Derived.Test.YtpchghpipgpkfaaDoorRM
import Derived.KernelRfl
set_option linter.unusedVariables false
set_option maxRecDepth 100000
set_option maxHeartbeats 4000000
namespace Go.Abs
open Go.Proofs Go.RowKit
def qhK:Nat→Option AFn
 | 132=>some fn132
 | 133=>some fn133
 | 134=>some fn134
 | 139=>some fn139
 | 151=>some fn151
 | 153=>some fn153
 | 154=>some fn154
 | 159=>some fm159
 | 160=>some fm160
 | 161=>some fn161
 | 162=>some fn162
 | 163=>some fn163
 | 164=>some fn164
 | 165=>some fn165
 | 167=>some fn167
 | 171=>some fn171
 | 177=>some fn177
 | 181=>some fn181
 | 183=>some fn183
 | 187=>some fm187
 | 189=>some fn189
 | 190=>some fn190
 | 191=>some fn191
 | 192=>some fn192
 | 193=>some fn193
 | 194=>some fn194
 | 195=>some fn195
 | 196=>some fn196
 | 207=>some fn207
 | 208=>some fn208
 | 232=>some fn232
 | 234=>some fn234
 | 235=>some fn235
 | 236=>some fn236
 | 256=>some fn256
 | 258=>some fn258
 | 259=>some fn259
 | 264=>some fn264
 | 265=>some fn265
 | 266=>some fn266
 | 278=>some fn278
 | 279=>some fn279
 | 283=>some fn283
 | 293=>some fn293
 | 294=>some fn294
 | 297=>some fn297
 | 298=>some fn298
 | 299=>some fn299
 | 300=>some fn300
 | 301=>some fn301
 | 302=>some fn302
 | 303=>some fn303
 | 304=>some fn304
 | 313=>some fn313
 | 314=>some fn314
 | 315=>some fn315
 | 316=>some fn316
 | 317=>some fn317
 | 318=>some fn318
 | 319=>some fn319
 | 320=>some fn320
 | 330=>some fn330
 | 332=>some fn332
 | 334=>some fn334
 | 338=>some fn338
 | 342=>some fn342
 | 343=>some fn343
 | 346=>some fn346
 | 347=>some fn347
 | _=>none
noncomputable def qeL (k:Nat):Option (List AVal→Heap→Option (ARes × Heap)) :=
 match qhK k with | some _=>none | none=>if k=188 then some qjb else if k=138 then some qnC else some fun _ _=>none
noncomputable def lib:Lib:={ pure:=fun _=>true,summ:=qeL,fns:=qhK }
theorem qwq:((Tryd.prog.funcs[qb7 132]?).bind fun fn=>fn.body.map fun c=>(qaH fn.ntmps c,cFn env fn fn132.body c))=some (true,fn132):=by kernel_rfl
theorem qwr:((Tryd.prog.funcs[qb7 133]?).bind fun fn=>fn.body.map fun c=>(qaH fn.ntmps c,cFn env fn fn133.body c))=some (true,fn133):=by kernel_rfl
theorem qws:((Tryd.prog.funcs[qb7 134]?).bind fun fn=>fn.body.map fun c=>(qaH fn.ntmps c,cFn env fn fn134.body c))=some (true,fn134):=by kernel_rfl
theorem qwt:((Tryd.prog.funcs[qb7 139]?).bind fun fn=>fn.body.map fun c=>(qaH fn.ntmps c,cFn env fn fn139.body c))=some (true,fn139):=by kernel_rfl
theorem qwu:((Tryd.prog.funcs[qb7 151]?).bind fun fn=>fn.body.map fun c=>(qaH fn.ntmps c,cFn env fn fn151.body c))=some (true,fn151):=by kernel_rfl
theorem qwv:((Tryd.prog.funcs[qb7 153]?).bind fun fn=>fn.body.map fun c=>(qaH fn.ntmps c,cFn env fn fn153.body c))=some (true,fn153):=by kernel_rfl
theorem qww:((Tryd.prog.funcs[qb7 154]?).bind fun fn=>fn.body.map fun c=>(qaH fn.ntmps c,cFn env fn fn154.body c))=some (true,fn154):=by kernel_rfl
theorem qwx:((Tryd.prog.funcs[qb7 159]?).bind fun fn=>fn.body.map fun c=>(qaH fn.ntmps c,cFn env fn fm159.body c))=some (true,fm159):=by kernel_rfl
theorem qwy:((Tryd.prog.funcs[qb7 160]?).bind fun fn=>fn.body.map fun c=>(qaH fn.ntmps c,cFn env fn fm160.body c))=some (true,fm160):=by kernel_rfl
theorem qwz:((Tryd.prog.funcs[qb7 161]?).bind fun fn=>fn.body.map fun c=>(qaH fn.ntmps c,cFn env fn fn161.body c))=some (true,fn161):=by kernel_rfl
theorem qwA:((Tryd.prog.funcs[qb7 162]?).bind fun fn=>fn.body.map fun c=>(qaH fn.ntmps c,cFn env fn fn162.body c))=some (true,fn162):=by kernel_rfl
theorem qwB:((Tryd.prog.funcs[qb7 163]?).bind fun fn=>fn.body.map fun c=>(qaH fn.ntmps c,cFn env fn fn163.body c))=some (true,fn163):=by kernel_rfl
theorem qwC:((Tryd.prog.funcs[qb7 164]?).bind fun fn=>fn.body.map fun c=>(qaH fn.ntmps c,cFn env fn fn164.body c))=some (true,fn164):=by kernel_rfl
theorem qwD:((Tryd.prog.funcs[qb7 165]?).bind fun fn=>fn.body.map fun c=>(qaH fn.ntmps c,cFn env fn fn165.body c))=some (true,fn165):=by kernel_rfl
theorem qwE:((Tryd.prog.funcs[qb7 167]?).bind fun fn=>fn.body.map fun c=>(qaH fn.ntmps c,cFn env fn fn167.body c))=some (true,fn167):=by kernel_rfl
theorem qwF:((Tryd.prog.funcs[qb7 171]?).bind fun fn=>fn.body.map fun c=>(qaH fn.ntmps c,cFn env fn fn171.body c))=some (true,fn171):=by kernel_rfl
theorem qwG:((Tryd.prog.funcs[qb7 177]?).bind fun fn=>fn.body.map fun c=>(qaH fn.ntmps c,cFn env fn fn177.body c))=some (true,fn177):=by kernel_rfl
theorem qwH:((Tryd.prog.funcs[qb7 181]?).bind fun fn=>fn.body.map fun c=>(qaH fn.ntmps c,cFn env fn fn181.body c))=some (true,fn181):=by kernel_rfl
theorem qwI:((Tryd.prog.funcs[qb7 183]?).bind fun fn=>fn.body.map fun c=>(qaH fn.ntmps c,cFn env fn fn183.body c))=some (true,fn183):=by kernel_rfl
theorem qwJ:((Tryd.prog.funcs[qb7 187]?).bind fun fn=>fn.body.map fun c=>(qaH fn.ntmps c,cFn env fn fm187.body c))=some (true,fm187):=by kernel_rfl
theorem qwK:((Tryd.prog.funcs[qb7 189]?).bind fun fn=>fn.body.map fun c=>(qaH fn.ntmps c,cFn env fn fn189.body c))=some (true,fn189):=by kernel_rfl
theorem qwL:((Tryd.prog.funcs[qb7 190]?).bind fun fn=>fn.body.map fun c=>(qaH fn.ntmps c,cFn env fn fn190.body c))=some (true,fn190):=by kernel_rfl
theorem qwM:((Tryd.prog.funcs[qb7 191]?).bind fun fn=>fn.body.map fun c=>(qaH fn.ntmps c,cFn env fn fn191.body c))=some (true,fn191):=by kernel_rfl
theorem qwN:((Tryd.prog.funcs[qb7 192]?).bind fun fn=>fn.body.map fun c=>(qaH fn.ntmps c,cFn env fn fn192.body c))=some (true,fn192):=by kernel_rfl
theorem qwO:((Tryd.prog.funcs[qb7 193]?).bind fun fn=>fn.body.map fun c=>(qaH fn.ntmps c,cFn env fn fn193.body c))=some (true,fn193):=by kernel_rfl
theorem qwP:((Tryd.prog.funcs[qb7 194]?).bind fun fn=>fn.body.map fun c=>(qaH fn.ntmps c,cFn env fn fn194.body c))=some (true,fn194):=by kernel_rfl
theorem qwQ:((Tryd.prog.funcs[qb7 195]?).bind fun fn=>fn.body.map fun c=>(qaH fn.ntmps c,cFn env fn fn195.body c))=some (true,fn195):=by kernel_rfl
theorem qwR:((Tryd.prog.funcs[qb7 196]?).bind fun fn=>fn.body.map fun c=>(qaH fn.ntmps c,cFn env fn fn196.body c))=some (true,fn196):=by kernel_rfl
theorem qwS:((Tryd.prog.funcs[qb7 207]?).bind fun fn=>fn.body.map fun c=>(qaH fn.ntmps c,cFn env fn fn207.body c))=some (true,fn207):=by kernel_rfl
theorem qwT:((Tryd.prog.funcs[qb7 208]?).bind fun fn=>fn.body.map fun c=>(qaH fn.ntmps c,cFn env fn fn208.body c))=some (true,fn208):=by kernel_rfl
theorem qwU:((Tryd.prog.funcs[qb7 232]?).bind fun fn=>fn.body.map fun c=>(qaH fn.ntmps c,cFn env fn fn232.body c))=some (true,fn232):=by kernel_rfl
theorem qwV:((Tryd.prog.funcs[qb7 234]?).bind fun fn=>fn.body.map fun c=>(qaH fn.ntmps c,cFn env fn fn234.body c))=some (true,fn234):=by kernel_rfl
theorem qwW:((Tryd.prog.funcs[qb7 235]?).bind fun fn=>fn.body.map fun c=>(qaH fn.ntmps c,cFn env fn fn235.body c))=some (true,fn235):=by kernel_rfl
theorem qwX:((Tryd.prog.funcs[qb7 236]?).bind fun fn=>fn.body.map fun c=>(qaH fn.ntmps c,cFn env fn fn236.body c))=some (true,fn236):=by kernel_rfl
theorem qwY:((Tryd.prog.funcs[qb7 256]?).bind fun fn=>fn.body.map fun c=>(qaH fn.ntmps c,cFn env fn fn256.body c))=some (true,fn256):=by kernel_rfl
theorem qwZ:((Tryd.prog.funcs[qb7 258]?).bind fun fn=>fn.body.map fun c=>(qaH fn.ntmps c,cFn env fn fn258.body c))=some (true,fn258):=by kernel_rfl
theorem qw0:((Tryd.prog.funcs[qb7 259]?).bind fun fn=>fn.body.map fun c=>(qaH fn.ntmps c,cFn env fn fn259.body c))=some (true,fn259):=by kernel_rfl
theorem qw1:((Tryd.prog.funcs[qb7 264]?).bind fun fn=>fn.body.map fun c=>(qaH fn.ntmps c,cFn env fn fn264.body c))=some (true,fn264):=by kernel_rfl
theorem qw2:((Tryd.prog.funcs[qb7 265]?).bind fun fn=>fn.body.map fun c=>(qaH fn.ntmps c,cFn env fn fn265.body c))=some (true,fn265):=by kernel_rfl
theorem qw3:((Tryd.prog.funcs[qb7 266]?).bind fun fn=>fn.body.map fun c=>(qaH fn.ntmps c,cFn env fn fn266.body c))=some (true,fn266):=by kernel_rfl
theorem qw4:((Tryd.prog.funcs[qb7 278]?).bind fun fn=>fn.body.map fun c=>(qaH fn.ntmps c,cFn env fn fn278.body c))=some (true,fn278):=by kernel_rfl
theorem qw5:((Tryd.prog.funcs[qb7 279]?).bind fun fn=>fn.body.map fun c=>(qaH fn.ntmps c,cFn env fn fn279.body c))=some (true,fn279):=by kernel_rfl
theorem qw6:((Tryd.prog.funcs[qb7 283]?).bind fun fn=>fn.body.map fun c=>(qaH fn.ntmps c,cFn env fn fn283.body c))=some (true,fn283):=by kernel_rfl
theorem qw7:((Tryd.prog.funcs[qb7 293]?).bind fun fn=>fn.body.map fun c=>(qaH fn.ntmps c,cFn env fn fn293.body c))=some (true,fn293):=by kernel_rfl
theorem qw8:((Tryd.prog.funcs[qb7 294]?).bind fun fn=>fn.body.map fun c=>(qaH fn.ntmps c,cFn env fn fn294.body c))=some (true,fn294):=by kernel_rfl
theorem qw9:((Tryd.prog.funcs[qb7 297]?).bind fun fn=>fn.body.map fun c=>(qaH fn.ntmps c,cFn env fn fn297.body c))=some (true,fn297):=by kernel_rfl
theorem qxa:((Tryd.prog.funcs[qb7 298]?).bind fun fn=>fn.body.map fun c=>(qaH fn.ntmps c,cFn env fn fn298.body c))=some (true,fn298):=by kernel_rfl
theorem qxb:((Tryd.prog.funcs[qb7 299]?).bind fun fn=>fn.body.map fun c=>(qaH fn.ntmps c,cFn env fn fn299.body c))=some (true,fn299):=by kernel_rfl
theorem qxc:((Tryd.prog.funcs[qb7 300]?).bind fun fn=>fn.body.map fun c=>(qaH fn.ntmps c,cFn env fn fn300.body c))=some (true,fn300):=by kernel_rfl
theorem qxd:((Tryd.prog.funcs[qb7 301]?).bind fun fn=>fn.body.map fun c=>(qaH fn.ntmps c,cFn env fn fn301.body c))=some (true,fn301):=by kernel_rfl
theorem qxe:((Tryd.prog.funcs[qb7 302]?).bind fun fn=>fn.body.map fun c=>(qaH fn.ntmps c,cFn env fn fn302.body c))=some (true,fn302):=by kernel_rfl
theorem qxf:((Tryd.prog.funcs[qb7 303]?).bind fun fn=>fn.body.map fun c=>(qaH fn.ntmps c,cFn env fn fn303.body c))=some (true,fn303):=by kernel_rfl
theorem qxg:((Tryd.prog.funcs[qb7 304]?).bind fun fn=>fn.body.map fun c=>(qaH fn.ntmps c,cFn env fn fn304.body c))=some (true,fn304):=by kernel_rfl
theorem qxh:((Tryd.prog.funcs[qb7 313]?).bind fun fn=>fn.body.map fun c=>(qaH fn.ntmps c,cFn env fn fn313.body c))=some (true,fn313):=by kernel_rfl
theorem qxi:((Tryd.prog.funcs[qb7 314]?).bind fun fn=>fn.body.map fun c=>(qaH fn.ntmps c,cFn env fn fn314.body c))=some (true,fn314):=by kernel_rfl
theorem qxj:((Tryd.prog.funcs[qb7 315]?).bind fun fn=>fn.body.map fun c=>(qaH fn.ntmps c,cFn env fn fn315.body c))=some (true,fn315):=by kernel_rfl
theorem qxk:((Tryd.prog.funcs[qb7 316]?).bind fun fn=>fn.body.map fun c=>(qaH fn.ntmps c,cFn env fn fn316.body c))=some (true,fn316):=by kernel_rfl
theorem qxl:((Tryd.prog.funcs[qb7 317]?).bind fun fn=>fn.body.map fun c=>(qaH fn.ntmps c,cFn env fn fn317.body c))=some (true,fn317):=by kernel_rfl
theorem qxm:((Tryd.prog.funcs[qb7 318]?).bind fun fn=>fn.body.map fun c=>(qaH fn.ntmps c,cFn env fn fn318.body c))=some (true,fn318):=by kernel_rfl
theorem qxn:((Tryd.prog.funcs[qb7 319]?).bind fun fn=>fn.body.map fun c=>(qaH fn.ntmps c,cFn env fn fn319.body c))=some (true,fn319):=by kernel_rfl
theorem qxo:((Tryd.prog.funcs[qb7 320]?).bind fun fn=>fn.body.map fun c=>(qaH fn.ntmps c,cFn env fn fn320.body c))=some (true,fn320):=by kernel_rfl
theorem qxp:((Tryd.prog.funcs[qb7 330]?).bind fun fn=>fn.body.map fun c=>(qaH fn.ntmps c,cFn env fn fn330.body c))=some (true,fn330):=by kernel_rfl
theorem qxq:((Tryd.prog.funcs[qb7 332]?).bind fun fn=>fn.body.map fun c=>(qaH fn.ntmps c,cFn env fn fn332.body c))=some (true,fn332):=by kernel_rfl
theorem qxr:((Tryd.prog.funcs[qb7 334]?).bind fun fn=>fn.body.map fun c=>(qaH fn.ntmps c,cFn env fn fn334.body c))=some (true,fn334):=by kernel_rfl
theorem qxs:((Tryd.prog.funcs[qb7 338]?).bind fun fn=>fn.body.map fun c=>(qaH fn.ntmps c,cFn env fn fn338.body c))=some (true,fn338):=by kernel_rfl
theorem qxt:((Tryd.prog.funcs[qb7 342]?).bind fun fn=>fn.body.map fun c=>(qaH fn.ntmps c,cFn env fn fn342.body c))=some (true,fn342):=by kernel_rfl
theorem qxu:((Tryd.prog.funcs[qb7 343]?).bind fun fn=>fn.body.map fun c=>(qaH fn.ntmps c,cFn env fn fn343.body c))=some (true,fn343):=by kernel_rfl
theorem qxv:((Tryd.prog.funcs[qb7 346]?).bind fun fn=>fn.body.map fun c=>(qaH fn.ntmps c,cFn env fn fn346.body c))=some (true,fn346):=by kernel_rfl
theorem qxw:((Tryd.prog.funcs[qb7 347]?).bind fun fn=>fn.body.map fun c=>(qaH fn.ntmps c,cFn env fn fn347.body c))=some (true,fn347):=by kernel_rfl
theorem qyC:∀ f k,env.fm f=some k→FnOk env lib f k:=by
 intro f k hf
 have:=qyr f k hf
 subst this
 by_cases h0:k=188
 ·subst h0
  have e:qb7 188=58:=by kernel_rfl
  rw[e]
  exact⟨.inl ⟨qjb,rfl,qrE⟩⟩
 by_cases h1:k=138
 ·subst h1
  have e:qb7 138=98:=by kernel_rfl
  rw[e]
  exact⟨.inl ⟨qnC,rfl,qvk⟩⟩
 cases hx:qhK k with
 | none =>
   refine⟨.inl ⟨fun _ _=>none,?_,qtl env _⟩⟩
   show qeL k=_
   unfold qeL
   rw[hx]
   dsimp only
   rw[if_neg h0,if_neg h1]
 | some fn =>
   have hs:lib.summ k=none:=by
    show qeL k=_
    unfold qeL
    rw[hx]
   have hx2:=hx
   unfold qhK at hx
   split at hx
   ·exact qaG hs rfl qwq
   ·exact qaG hs rfl qwr
   ·exact qaG hs rfl qws
   ·exact qaG hs rfl qwt
   ·exact qaG hs rfl qwu
   ·exact qaG hs rfl qwv
   ·exact qaG hs rfl qww
   ·exact qaG hs rfl qwx
   ·exact qaG hs rfl qwy
   ·exact qaG hs rfl qwz
   ·exact qaG hs rfl qwA
   ·exact qaG hs rfl qwB
   ·exact qaG hs rfl qwC
   ·exact qaG hs rfl qwD
   ·exact qaG hs rfl qwE
   ·exact qaG hs rfl qwF
   ·exact qaG hs rfl qwG
   ·exact qaG hs rfl qwH
   ·exact qaG hs rfl qwI
   ·exact qaG hs rfl qwJ
   ·exact qaG hs rfl qwK
   ·exact qaG hs rfl qwL
   ·exact qaG hs rfl qwM
   ·exact qaG hs rfl qwN
   ·exact qaG hs rfl qwO
   ·exact qaG hs rfl qwP
   ·exact qaG hs rfl qwQ
   ·exact qaG hs rfl qwR
   ·exact qaG hs rfl qwS
   ·exact qaG hs rfl qwT
   ·exact qaG hs rfl qwU
   ·exact qaG hs rfl qwV
   ·exact qaG hs rfl qwW
   ·exact qaG hs rfl qwX
   ·exact qaG hs rfl qwY
   ·exact qaG hs rfl qwZ
   ·exact qaG hs rfl qw0
   ·exact qaG hs rfl qw1
   ·exact qaG hs rfl qw2
   ·exact qaG hs rfl qw3
   ·exact qaG hs rfl qw4
   ·exact qaG hs rfl qw5
   ·exact qaG hs rfl qw6
   ·exact qaG hs rfl qw7
   ·exact qaG hs rfl qw8
   ·exact qaG hs rfl qw9
   ·exact qaG hs rfl qxa
   ·exact qaG hs rfl qxb
   ·exact qaG hs rfl qxc
   ·exact qaG hs rfl qxd
   ·exact qaG hs rfl qxe
   ·exact qaG hs rfl qxf
   ·exact qaG hs rfl qxg
   ·exact qaG hs rfl qxh
   ·exact qaG hs rfl qxi
   ·exact qaG hs rfl qxj
   ·exact qaG hs rfl qxk
   ·exact qaG hs rfl qxl
   ·exact qaG hs rfl qxm
   ·exact qaG hs rfl qxn
   ·exact qaG hs rfl qxo
   ·exact qaG hs rfl qxp
   ·exact qaG hs rfl qxq
   ·exact qaG hs rfl qxr
   ·exact qaG hs rfl qxs
   ·exact qaG hs rfl qxt
   ·exact qaG hs rfl qxu
   ·exact qaG hs rfl qxv
   ·exact qaG hs rfl qxw
   ·cases hx
theorem quN:qbD env (call lib):=qv3 qvA lib qyC
theorem qhd:Plain lib:=by
 refine⟨fun _=>rfl,fun f hf=>?_⟩
 show qeL f=none
 have hf':qhK f≠none:=hf
 unfold qeL
 cases hx:qhK f with
 | none=>exact absurd hx hf'
 | some _=>rfl
theorem qsP {f:Nat} {args:List AVal} {v:AVal} {s:List AVal→Heap→Option (ARes × Heap)} (hs:lib.summ f=some s) (h1:s args []=some (.val v,[])) (hw:wipeR v=v) (hd:qaA v=true) (h:Heap) :
  pcall lib f args h=some (.val v,h):=by
 have:call lib f args []=some (.val v,[]):=qgM hs h1
 exact qcj this (by rw[qpq (by rw[hw];exact hd),hw]) hd h
theorem qv4 (l:List Int) (h:Heap) (hl:l.length<2 ^ 30):qjb [.list (l.map qau) none] h=some (.val (qjc l h.length),h++qf9 l):=by
 unfold qjb
 dsimp only
 rw[qpA,List.length_map]
 by_cases hz:l=[]
 ·subst hz
  simp[qjc,qf9]
 ·have:l.map qau≠[]:=by simpa using hz
  rw[qjd hz,qja hz,if_pos (by simp[hl]),if_neg this]
theorem lib_mut:MPrims lib:=⟨fun l h hl=>qgM (s:=qjb) rfl (qv4 l h hl)⟩
theorem qm2:CPrims lib qa2:=by
 refine⟨fun l h hl=>?_,fun l hne hl=>?_,fun h=>?_⟩
 ·have h1:=lib_mut.clone l [] hl
  refine qcj h1 ?_ (by rw[qaT];exact qah l) h
  rcases qeu l with ⟨h2,h3⟩ | ⟨h2,h3⟩
  ·rw[h2,h3,qgO h3]
   rfl
  ·rw[h2,h3]
   unfold qeX
   have hv:viewV ([]++[.vec (l.map qau) 1]) (.vec ([]:Heap).length l.length)=.list (l.map qau) none:=(HInts.view (H:=[.vec (l.map qau) 1]) (l:=l) (v:=.vec 0 l.length) (f:=[0]) (.inr ⟨qfC h3,0,rfl,rfl,rfl⟩) 1999)
   rw[if_neg (by simp[wipeR,wipe,wipeCell,qaA]),hv]
   rfl
 ·refine qgM (s:=qnC) rfl ?_
  unfold qnC
  have hx:∃ m,l.length=m+1:=⟨l.length-1,by have:=List.length_pos_iff.2 hne;omega⟩
  dsimp only
  rw[qpA,List.length_map,qsg]
  simp[hl]
 ·exact qsP (s:=qnC) rfl rfl rfl rfl h
theorem qsv (h:Heap):call lib 138 [.list [] none] h=some (.val (.tuple []),h):=qgM (s:=qnC) rfl rfl
theorem qpM:∀ (t:CTree),TFit t→qaP t<2 ^ 30→∀ h:Heap,pcall lib 159 [qap t] h=some (.val (.list ((qaQ t).map qam) none),h):=fun t hf hs h=>quP qhd qm2 rfl rfl t hf hs h
theorem qpL:CLib lib:=by
 constructor
 case plain=>exact qhd
 case prims=>exact qm2
 case grow=>exact fun e h hl hf hT hh=>qqy qhd lib_mut rfl e h hl hf hT hh
 all_goals rfl
theorem qvF:RLib lib:=by
 constructor
 case toCLib=>exact qpL
 case list=>exact qpM
 case mprims=>exact lib_mut
 all_goals rfl
theorem quO:CLib2 lib:=by
 constructor
 case toCLib=>exact qpL
 case list=>exact qpM
 all_goals rfl
end Go.Abs
