/-
  The seat's table of functions: each is the program's, as the kernel checks. Conditions: none.
-/
import Derived.Test.YtpchghpipgpkfaaDoorSeatPF
import Derived.Test.YtpchghpipgpkfaaDoorRB
import Derived.Test.YtpchghpipgpkfaaDoorRM
import Derived.KernelRfl
set_option linter.unusedVariables false
set_option maxRecDepth 100000
set_option maxHeartbeats 4000000
namespace Go.Abs
open Go.Proofs Go.RowKit
def qig:Nat→Option AFn
 | 132=>some fn132
 | 133=>some fn133
 | 134=>some fn134
 | 139=>some fn139
 | 151=>some fn151
 | 153=>some fn153
 | 154=>some fn154
 | 159=>some fm159
 | 160=>some fm160
 | 161=>some fn161
 | 162=>some fn162
 | 163=>some fn163
 | 164=>some fn164
 | 165=>some fn165
 | 167=>some fn167
 | 171=>some fn171
 | 177=>some fn177
 | 181=>some fn181
 | 183=>some fn183
 | 187=>some fm187
 | 189=>some fn189
 | 190=>some fn190
 | 191=>some fn191
 | 192=>some fn192
 | 193=>some fn193
 | 194=>some fn194
 | 195=>some fn195
 | 196=>some fn196
 | 207=>some fn207
 | 208=>some fn208
 | 232=>some fn232
 | 234=>some fn234
 | 235=>some fn235
 | 236=>some fn236
 | 256=>some fn256
 | 258=>some fn258
 | 259=>some fn259
 | 264=>some fn264
 | 265=>some fn265
 | 266=>some fn266
 | 276=>some fn276
 | 283=>some fn283
 | 290=>some fn290
 | 293=>some fn293
 | 294=>some fn294
 | 297=>some fn297
 | 298=>some fn298
 | 299=>some fn299
 | 300=>some fn300
 | 301=>some fn301
 | 302=>some fn302
 | 304=>some fn304
 | 313=>some fn313
 | 314=>some fn314
 | 315=>some fn315
 | 316=>some fn316
 | 317=>some fn317
 | 318=>some fn318
 | 320=>some fn320
 | 327=>some fn327
 | 335=>some fn335
 | 336=>some fn336
 | 337=>some fn337
 | 344=>some fn344
 | _=>none
noncomputable def qe9 (k:Nat):Option (List AVal→Heap→Option (ARes × Heap)) :=
 match qig k with | some _=>none | none=>if k=188 then some qjJ else if k=138 then some qoZ else some fun _ _=>none
noncomputable def lib:Lib:={ pure:=fun _=>true,summ:=qe9,fns:=qig }
theorem qxx:((Tryd.prog.funcs[qcs 132]?).bind fun fn=>fn.body.map fun c=>(qaL fn.ntmps c,cFn env fn fn132.body c))=some (true,fn132):=by kernel_rfl
theorem qxy:((Tryd.prog.funcs[qcs 133]?).bind fun fn=>fn.body.map fun c=>(qaL fn.ntmps c,cFn env fn fn133.body c))=some (true,fn133):=by kernel_rfl
theorem qxz:((Tryd.prog.funcs[qcs 134]?).bind fun fn=>fn.body.map fun c=>(qaL fn.ntmps c,cFn env fn fn134.body c))=some (true,fn134):=by kernel_rfl
theorem qxA:((Tryd.prog.funcs[qcs 139]?).bind fun fn=>fn.body.map fun c=>(qaL fn.ntmps c,cFn env fn fn139.body c))=some (true,fn139):=by kernel_rfl
theorem qxB:((Tryd.prog.funcs[qcs 151]?).bind fun fn=>fn.body.map fun c=>(qaL fn.ntmps c,cFn env fn fn151.body c))=some (true,fn151):=by kernel_rfl
theorem qxC:((Tryd.prog.funcs[qcs 153]?).bind fun fn=>fn.body.map fun c=>(qaL fn.ntmps c,cFn env fn fn153.body c))=some (true,fn153):=by kernel_rfl
theorem qxD:((Tryd.prog.funcs[qcs 154]?).bind fun fn=>fn.body.map fun c=>(qaL fn.ntmps c,cFn env fn fn154.body c))=some (true,fn154):=by kernel_rfl
theorem qxE:((Tryd.prog.funcs[qcs 159]?).bind fun fn=>fn.body.map fun c=>(qaL fn.ntmps c,cFn env fn fm159.body c))=some (true,fm159):=by kernel_rfl
theorem qxF:((Tryd.prog.funcs[qcs 160]?).bind fun fn=>fn.body.map fun c=>(qaL fn.ntmps c,cFn env fn fm160.body c))=some (true,fm160):=by kernel_rfl
theorem qxG:((Tryd.prog.funcs[qcs 161]?).bind fun fn=>fn.body.map fun c=>(qaL fn.ntmps c,cFn env fn fn161.body c))=some (true,fn161):=by kernel_rfl
theorem qxH:((Tryd.prog.funcs[qcs 162]?).bind fun fn=>fn.body.map fun c=>(qaL fn.ntmps c,cFn env fn fn162.body c))=some (true,fn162):=by kernel_rfl
theorem qxI:((Tryd.prog.funcs[qcs 163]?).bind fun fn=>fn.body.map fun c=>(qaL fn.ntmps c,cFn env fn fn163.body c))=some (true,fn163):=by kernel_rfl
theorem qxJ:((Tryd.prog.funcs[qcs 164]?).bind fun fn=>fn.body.map fun c=>(qaL fn.ntmps c,cFn env fn fn164.body c))=some (true,fn164):=by kernel_rfl
theorem qxK:((Tryd.prog.funcs[qcs 165]?).bind fun fn=>fn.body.map fun c=>(qaL fn.ntmps c,cFn env fn fn165.body c))=some (true,fn165):=by kernel_rfl
theorem qxL:((Tryd.prog.funcs[qcs 167]?).bind fun fn=>fn.body.map fun c=>(qaL fn.ntmps c,cFn env fn fn167.body c))=some (true,fn167):=by kernel_rfl
theorem qxM:((Tryd.prog.funcs[qcs 171]?).bind fun fn=>fn.body.map fun c=>(qaL fn.ntmps c,cFn env fn fn171.body c))=some (true,fn171):=by kernel_rfl
theorem qxN:((Tryd.prog.funcs[qcs 177]?).bind fun fn=>fn.body.map fun c=>(qaL fn.ntmps c,cFn env fn fn177.body c))=some (true,fn177):=by kernel_rfl
theorem qxO:((Tryd.prog.funcs[qcs 181]?).bind fun fn=>fn.body.map fun c=>(qaL fn.ntmps c,cFn env fn fn181.body c))=some (true,fn181):=by kernel_rfl
theorem qxP:((Tryd.prog.funcs[qcs 183]?).bind fun fn=>fn.body.map fun c=>(qaL fn.ntmps c,cFn env fn fn183.body c))=some (true,fn183):=by kernel_rfl
theorem qxQ:((Tryd.prog.funcs[qcs 187]?).bind fun fn=>fn.body.map fun c=>(qaL fn.ntmps c,cFn env fn fm187.body c))=some (true,fm187):=by kernel_rfl
theorem qxR:((Tryd.prog.funcs[qcs 189]?).bind fun fn=>fn.body.map fun c=>(qaL fn.ntmps c,cFn env fn fn189.body c))=some (true,fn189):=by kernel_rfl
theorem qxS:((Tryd.prog.funcs[qcs 190]?).bind fun fn=>fn.body.map fun c=>(qaL fn.ntmps c,cFn env fn fn190.body c))=some (true,fn190):=by kernel_rfl
theorem qxT:((Tryd.prog.funcs[qcs 191]?).bind fun fn=>fn.body.map fun c=>(qaL fn.ntmps c,cFn env fn fn191.body c))=some (true,fn191):=by kernel_rfl
theorem qxU:((Tryd.prog.funcs[qcs 192]?).bind fun fn=>fn.body.map fun c=>(qaL fn.ntmps c,cFn env fn fn192.body c))=some (true,fn192):=by kernel_rfl
theorem qxV:((Tryd.prog.funcs[qcs 193]?).bind fun fn=>fn.body.map fun c=>(qaL fn.ntmps c,cFn env fn fn193.body c))=some (true,fn193):=by kernel_rfl
theorem qxW:((Tryd.prog.funcs[qcs 194]?).bind fun fn=>fn.body.map fun c=>(qaL fn.ntmps c,cFn env fn fn194.body c))=some (true,fn194):=by kernel_rfl
theorem qxX:((Tryd.prog.funcs[qcs 195]?).bind fun fn=>fn.body.map fun c=>(qaL fn.ntmps c,cFn env fn fn195.body c))=some (true,fn195):=by kernel_rfl
theorem qxY:((Tryd.prog.funcs[qcs 196]?).bind fun fn=>fn.body.map fun c=>(qaL fn.ntmps c,cFn env fn fn196.body c))=some (true,fn196):=by kernel_rfl
theorem qxZ:((Tryd.prog.funcs[qcs 207]?).bind fun fn=>fn.body.map fun c=>(qaL fn.ntmps c,cFn env fn fn207.body c))=some (true,fn207):=by kernel_rfl
theorem qx0:((Tryd.prog.funcs[qcs 208]?).bind fun fn=>fn.body.map fun c=>(qaL fn.ntmps c,cFn env fn fn208.body c))=some (true,fn208):=by kernel_rfl
theorem qx1:((Tryd.prog.funcs[qcs 232]?).bind fun fn=>fn.body.map fun c=>(qaL fn.ntmps c,cFn env fn fn232.body c))=some (true,fn232):=by kernel_rfl
theorem qx2:((Tryd.prog.funcs[qcs 234]?).bind fun fn=>fn.body.map fun c=>(qaL fn.ntmps c,cFn env fn fn234.body c))=some (true,fn234):=by kernel_rfl
theorem qx3:((Tryd.prog.funcs[qcs 235]?).bind fun fn=>fn.body.map fun c=>(qaL fn.ntmps c,cFn env fn fn235.body c))=some (true,fn235):=by kernel_rfl
theorem qx4:((Tryd.prog.funcs[qcs 236]?).bind fun fn=>fn.body.map fun c=>(qaL fn.ntmps c,cFn env fn fn236.body c))=some (true,fn236):=by kernel_rfl
theorem qx5:((Tryd.prog.funcs[qcs 256]?).bind fun fn=>fn.body.map fun c=>(qaL fn.ntmps c,cFn env fn fn256.body c))=some (true,fn256):=by kernel_rfl
theorem qx6:((Tryd.prog.funcs[qcs 258]?).bind fun fn=>fn.body.map fun c=>(qaL fn.ntmps c,cFn env fn fn258.body c))=some (true,fn258):=by kernel_rfl
theorem qx7:((Tryd.prog.funcs[qcs 259]?).bind fun fn=>fn.body.map fun c=>(qaL fn.ntmps c,cFn env fn fn259.body c))=some (true,fn259):=by kernel_rfl
theorem qx8:((Tryd.prog.funcs[qcs 264]?).bind fun fn=>fn.body.map fun c=>(qaL fn.ntmps c,cFn env fn fn264.body c))=some (true,fn264):=by kernel_rfl
theorem qx9:((Tryd.prog.funcs[qcs 265]?).bind fun fn=>fn.body.map fun c=>(qaL fn.ntmps c,cFn env fn fn265.body c))=some (true,fn265):=by kernel_rfl
theorem qya:((Tryd.prog.funcs[qcs 266]?).bind fun fn=>fn.body.map fun c=>(qaL fn.ntmps c,cFn env fn fn266.body c))=some (true,fn266):=by kernel_rfl
theorem qyb:((Tryd.prog.funcs[qcs 276]?).bind fun fn=>fn.body.map fun c=>(qaL fn.ntmps c,cFn env fn fn276.body c))=some (true,fn276):=by kernel_rfl
theorem qyc:((Tryd.prog.funcs[qcs 283]?).bind fun fn=>fn.body.map fun c=>(qaL fn.ntmps c,cFn env fn fn283.body c))=some (true,fn283):=by kernel_rfl
theorem qyd:((Tryd.prog.funcs[qcs 290]?).bind fun fn=>fn.body.map fun c=>(qaL fn.ntmps c,cFn env fn fn290.body c))=some (true,fn290):=by kernel_rfl
theorem qye:((Tryd.prog.funcs[qcs 293]?).bind fun fn=>fn.body.map fun c=>(qaL fn.ntmps c,cFn env fn fn293.body c))=some (true,fn293):=by kernel_rfl
theorem qyf:((Tryd.prog.funcs[qcs 294]?).bind fun fn=>fn.body.map fun c=>(qaL fn.ntmps c,cFn env fn fn294.body c))=some (true,fn294):=by kernel_rfl
theorem qyg:((Tryd.prog.funcs[qcs 297]?).bind fun fn=>fn.body.map fun c=>(qaL fn.ntmps c,cFn env fn fn297.body c))=some (true,fn297):=by kernel_rfl
theorem qyh:((Tryd.prog.funcs[qcs 298]?).bind fun fn=>fn.body.map fun c=>(qaL fn.ntmps c,cFn env fn fn298.body c))=some (true,fn298):=by kernel_rfl
theorem qyi:((Tryd.prog.funcs[qcs 299]?).bind fun fn=>fn.body.map fun c=>(qaL fn.ntmps c,cFn env fn fn299.body c))=some (true,fn299):=by kernel_rfl
theorem qyj:((Tryd.prog.funcs[qcs 300]?).bind fun fn=>fn.body.map fun c=>(qaL fn.ntmps c,cFn env fn fn300.body c))=some (true,fn300):=by kernel_rfl
theorem qyk:((Tryd.prog.funcs[qcs 301]?).bind fun fn=>fn.body.map fun c=>(qaL fn.ntmps c,cFn env fn fn301.body c))=some (true,fn301):=by kernel_rfl
theorem qyl:((Tryd.prog.funcs[qcs 302]?).bind fun fn=>fn.body.map fun c=>(qaL fn.ntmps c,cFn env fn fn302.body c))=some (true,fn302):=by kernel_rfl
theorem qym:((Tryd.prog.funcs[qcs 304]?).bind fun fn=>fn.body.map fun c=>(qaL fn.ntmps c,cFn env fn fn304.body c))=some (true,fn304):=by kernel_rfl
theorem qyn:((Tryd.prog.funcs[qcs 313]?).bind fun fn=>fn.body.map fun c=>(qaL fn.ntmps c,cFn env fn fn313.body c))=some (true,fn313):=by kernel_rfl
theorem qyo:((Tryd.prog.funcs[qcs 314]?).bind fun fn=>fn.body.map fun c=>(qaL fn.ntmps c,cFn env fn fn314.body c))=some (true,fn314):=by kernel_rfl
theorem qyp:((Tryd.prog.funcs[qcs 315]?).bind fun fn=>fn.body.map fun c=>(qaL fn.ntmps c,cFn env fn fn315.body c))=some (true,fn315):=by kernel_rfl
theorem qyq:((Tryd.prog.funcs[qcs 316]?).bind fun fn=>fn.body.map fun c=>(qaL fn.ntmps c,cFn env fn fn316.body c))=some (true,fn316):=by kernel_rfl
theorem qyr:((Tryd.prog.funcs[qcs 317]?).bind fun fn=>fn.body.map fun c=>(qaL fn.ntmps c,cFn env fn fn317.body c))=some (true,fn317):=by kernel_rfl
theorem qys:((Tryd.prog.funcs[qcs 318]?).bind fun fn=>fn.body.map fun c=>(qaL fn.ntmps c,cFn env fn fn318.body c))=some (true,fn318):=by kernel_rfl
theorem qyt:((Tryd.prog.funcs[qcs 320]?).bind fun fn=>fn.body.map fun c=>(qaL fn.ntmps c,cFn env fn fn320.body c))=some (true,fn320):=by kernel_rfl
theorem qyu:((Tryd.prog.funcs[qcs 327]?).bind fun fn=>fn.body.map fun c=>(qaL fn.ntmps c,cFn env fn fn327.body c))=some (true,fn327):=by kernel_rfl
theorem qyv:((Tryd.prog.funcs[qcs 335]?).bind fun fn=>fn.body.map fun c=>(qaL fn.ntmps c,cFn env fn fn335.body c))=some (true,fn335):=by kernel_rfl
theorem qyw:((Tryd.prog.funcs[qcs 336]?).bind fun fn=>fn.body.map fun c=>(qaL fn.ntmps c,cFn env fn fn336.body c))=some (true,fn336):=by kernel_rfl
theorem qyx:((Tryd.prog.funcs[qcs 337]?).bind fun fn=>fn.body.map fun c=>(qaL fn.ntmps c,cFn env fn fn337.body c))=some (true,fn337):=by kernel_rfl
theorem qyy:((Tryd.prog.funcs[qcs 344]?).bind fun fn=>fn.body.map fun c=>(qaL fn.ntmps c,cFn env fn fn344.body c))=some (true,fn344):=by kernel_rfl
theorem qzH:∀ f k,env.fm f=some k→FnOk env lib f k:=by
 intro f k hf
 have:=qzv f k hf
 subst this
 by_cases h0:k=188
 ·subst h0
  have e:qcs 188=58:=by kernel_rfl
  rw[e]
  exact⟨.inl ⟨qjJ,rfl,qsX⟩⟩
 by_cases h1:k=138
 ·subst h1
  have e:qcs 138=98:=by kernel_rfl
  rw[e]
  exact⟨.inl ⟨qoZ,rfl,qwk⟩⟩
 cases hx:qig k with
 | none =>
   refine⟨.inl ⟨fun _ _=>none,?_,quA env _⟩⟩
   show qe9 k=_
   unfold qe9
   rw[hx]
   dsimp only
   rw[if_neg h0,if_neg h1]
 | some fn =>
   have hs:lib.summ k=none:=by
    show qe9 k=_
    unfold qe9
    rw[hx]
   have hx2:=hx
   unfold qig at hx
   split at hx
   ·exact qaH hs rfl qxx
   ·exact qaH hs rfl qxy
   ·exact qaH hs rfl qxz
   ·exact qaH hs rfl qxA
   ·exact qaH hs rfl qxB
   ·exact qaH hs rfl qxC
   ·exact qaH hs rfl qxD
   ·exact qaH hs rfl qxE
   ·exact qaH hs rfl qxF
   ·exact qaH hs rfl qxG
   ·exact qaH hs rfl qxH
   ·exact qaH hs rfl qxI
   ·exact qaH hs rfl qxJ
   ·exact qaH hs rfl qxK
   ·exact qaH hs rfl qxL
   ·exact qaH hs rfl qxM
   ·exact qaH hs rfl qxN
   ·exact qaH hs rfl qxO
   ·exact qaH hs rfl qxP
   ·exact qaH hs rfl qxQ
   ·exact qaH hs rfl qxR
   ·exact qaH hs rfl qxS
   ·exact qaH hs rfl qxT
   ·exact qaH hs rfl qxU
   ·exact qaH hs rfl qxV
   ·exact qaH hs rfl qxW
   ·exact qaH hs rfl qxX
   ·exact qaH hs rfl qxY
   ·exact qaH hs rfl qxZ
   ·exact qaH hs rfl qx0
   ·exact qaH hs rfl qx1
   ·exact qaH hs rfl qx2
   ·exact qaH hs rfl qx3
   ·exact qaH hs rfl qx4
   ·exact qaH hs rfl qx5
   ·exact qaH hs rfl qx6
   ·exact qaH hs rfl qx7
   ·exact qaH hs rfl qx8
   ·exact qaH hs rfl qx9
   ·exact qaH hs rfl qya
   ·exact qaH hs rfl qyb
   ·exact qaH hs rfl qyc
   ·exact qaH hs rfl qyd
   ·exact qaH hs rfl qye
   ·exact qaH hs rfl qyf
   ·exact qaH hs rfl qyg
   ·exact qaH hs rfl qyh
   ·exact qaH hs rfl qyi
   ·exact qaH hs rfl qyj
   ·exact qaH hs rfl qyk
   ·exact qaH hs rfl qyl
   ·exact qaH hs rfl qym
   ·exact qaH hs rfl qyn
   ·exact qaH hs rfl qyo
   ·exact qaH hs rfl qyp
   ·exact qaH hs rfl qyq
   ·exact qaH hs rfl qyr
   ·exact qaH hs rfl qys
   ·exact qaH hs rfl qyt
   ·exact qaH hs rfl qyu
   ·exact qaH hs rfl qyv
   ·exact qaH hs rfl qyw
   ·exact qaH hs rfl qyx
   ·exact qaH hs rfl qyy
   ·cases hx
theorem qvM:qbI env (call lib):=qw7 qwy lib qzH
theorem qhI:Plain lib:=by
 refine⟨fun _=>rfl,fun f hf=>?_⟩
 show qe9 f=none
 have hf':qig f≠none:=hf
 unfold qe9
 cases hx:qig f with
 | none=>exact absurd hx hf'
 | some _=>rfl
theorem qt5 {f:Nat} {args:List AVal} {v:AVal} {s:List AVal→Heap→Option (ARes × Heap)} (hs:lib.summ f=some s) (h1:s args []=some (.val v,[])) (hw:wipeR v=v) (hd:qaB v=true) (h:Heap) :
  pcall lib f args h=some (.val v,h):=by
 have:call lib f args []=some (.val v,[]):=qhd hs h1
 exact qco this (by rw[qqD (by rw[hw];exact hd),hw]) hd h
theorem qxc (l:List Int) (h:Heap) (hl:l.length<2 ^ 30):qjJ [.list (l.map qat) none] h=some (.val (qjK l h.length),h++qgA l):=by
 unfold qjJ
 dsimp only
 rw[qqU,List.length_map]
 by_cases hz:l=[]
 ·subst hz
  simp[qjK,qgA]
 ·have:l.map qat≠[]:=by simpa using hz
  rw[qjL hz,qjI hz,if_pos (by simp[hl]),if_neg this]
theorem lib_mut:MPrims lib:=⟨fun l h hl=>qhd (s:=qjJ) rfl (qxc l h hl)⟩
theorem qoc:CPrims lib qa3:=by
 refine⟨fun l h hl=>?_,fun l hne hl=>?_,fun h=>?_⟩
 ·have h1:=lib_mut.clone l [] hl
  refine qco h1 ?_ (by rw[qaS];exact qah l) h
  rcases qeM l with ⟨h2,h3⟩ | ⟨h2,h3⟩
  ·rw[h2,h3,qhf h3]
   rfl
  ·rw[h2,h3]
   unfold qfo
   have hv:viewV ([]++[.vec (l.map qat) 1]) (.vec ([]:Heap).length l.length)=.list (l.map qat) none:=(HInts.view (H:=[.vec (l.map qat) 1]) (l:=l) (v:=.vec 0 l.length) (f:=[0]) (.inr ⟨qf3 h3,0,rfl,rfl,rfl⟩) 1999)
   rw[if_neg (by simp[wipeR,wipe,wipeCell,qaB]),hv]
   rfl
 ·refine qhd (s:=qoZ) rfl ?_
  unfold qoZ
  have hx:∃ m,l.length=m+1:=⟨l.length-1,by have:=List.length_pos_iff.2 hne;omega⟩
  dsimp only
  rw[qqU,List.length_map,qtx]
  simp[hl]
 ·exact qt5 (s:=qoZ) rfl rfl rfl rfl h
theorem qtM (h:Heap):call lib 138 [.list [] none] h=some (.val (.tuple []),h):=qhd (s:=qoZ) rfl rfl
theorem qq6:∀ (t:CTree),TFit t→qaR t<2 ^ 30→∀ h:Heap,pcall lib 159 [qao t] h=some (.val (.list ((qa6 t).map qal) none),h):=fun t hf hs h=>qvO qhI qoc rfl rfl t hf hs h
theorem qq5:CLib lib:=by
 constructor
 case plain=>exact qhI
 case prims=>exact qoc
 case grow=>exact fun e h hl hf hT hh=>qrW qhI lib_mut rfl e h hl hf hT hh
 all_goals rfl
theorem qzI:RLib lib:=by
 constructor
 case toCLib=>exact qq5
 case list=>exact qq6
 case mprims=>exact lib_mut
 all_goals rfl
theorem qvN:CLib2 lib:=by
 constructor
 case toCLib=>exact qq5
 case list=>exact qq6
 all_goals rfl
end Go.Abs
