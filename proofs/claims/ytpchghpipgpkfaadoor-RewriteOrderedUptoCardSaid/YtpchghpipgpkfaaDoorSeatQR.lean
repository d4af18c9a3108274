/-
  The seat's table of functions: each is the program's, as the kernel checks. Conditions: none.
-/
import Derived.Test.YtpchghpipgpkfaaDoorSeatPF
import Derived.Test.YtpchghpipgpkfaaDoorRC
import Derived.Test.YtpchghpipgpkfaaDoorRM
import Derived.KernelRfl
set_option linter.unusedVariables false
set_option maxRecDepth 100000
set_option maxHeartbeats 4000000
namespace Go.Abs
open Go.Proofs Go.RowKit
def qjf:Nat→Option AFn
 | 130=>some fn130
 | 132=>some fn132
 | 133=>some fn133
 | 134=>some fn134
 | 139=>some fn139
 | 140=>some fn140
 | 151=>some fn151
 | 153=>some fn153
 | 154=>some fn154
 | 159=>some fm159
 | 160=>some fm160
 | 161=>some fn161
 | 162=>some fn162
 | 163=>some fn163
 | 164=>some fn164
 | 165=>some fn165
 | 167=>some fn167
 | 171=>some fn171
 | 177=>some fn177
 | 181=>some fn181
 | 183=>some fn183
 | 187=>some fm187
 | 189=>some fn189
 | 190=>some fn190
 | 191=>some fn191
 | 192=>some fn192
 | 193=>some fn193
 | 194=>some fn194
 | 195=>some fn195
 | 196=>some fn196
 | 207=>some fn207
 | 208=>some fn208
 | 232=>some fn232
 | 234=>some fn234
 | 235=>some fn235
 | 236=>some fn236
 | 256=>some fn256
 | 258=>some fn258
 | 259=>some fn259
 | 264=>some fn264
 | 265=>some fn265
 | 266=>some fn266
 | 282=>some fn282
 | 283=>some fn283
 | 293=>some fn293
 | 294=>some fn294
 | 297=>some fn297
 | 298=>some fn298
 | 299=>some fn299
 | 300=>some fn300
 | 301=>some fn301
 | 302=>some fn302
 | 303=>some fm303
 | 304=>some fn304
 | 313=>some fn313
 | 314=>some fn314
 | 315=>some fn315
 | 316=>some fn316
 | 317=>some fn317
 | 318=>some fn318
 | 319=>some fn319
 | 320=>some fn320
 | 325=>some fn325
 | _=>none
noncomputable def qfU (k:Nat):Option (List AVal→Heap→Option (ARes × Heap)) :=
 match qjf k with | some _=>none | none=>if k=188 then some qkK else if k=138 then some qpN else some fun _ _=>none
noncomputable def lib:Lib:={ pure:=fun _=>true,summ:=qfU,fns:=qjf }
theorem qzt:((Tryd.prog.funcs[qcQ 130]?).bind fun fn=>fn.body.map fun c=>(qaP fn.ntmps c,cFn env fn fn130.body c))=some (true,fn130):=by kernel_rfl
theorem qzu:((Tryd.prog.funcs[qcQ 132]?).bind fun fn=>fn.body.map fun c=>(qaP fn.ntmps c,cFn env fn fn132.body c))=some (true,fn132):=by kernel_rfl
theorem qzv:((Tryd.prog.funcs[qcQ 133]?).bind fun fn=>fn.body.map fun c=>(qaP fn.ntmps c,cFn env fn fn133.body c))=some (true,fn133):=by kernel_rfl
theorem qzw:((Tryd.prog.funcs[qcQ 134]?).bind fun fn=>fn.body.map fun c=>(qaP fn.ntmps c,cFn env fn fn134.body c))=some (true,fn134):=by kernel_rfl
theorem qzx:((Tryd.prog.funcs[qcQ 139]?).bind fun fn=>fn.body.map fun c=>(qaP fn.ntmps c,cFn env fn fn139.body c))=some (true,fn139):=by kernel_rfl
theorem qzy:((Tryd.prog.funcs[qcQ 140]?).bind fun fn=>fn.body.map fun c=>(qaP fn.ntmps c,cFn env fn fn140.body c))=some (true,fn140):=by kernel_rfl
theorem qzz:((Tryd.prog.funcs[qcQ 151]?).bind fun fn=>fn.body.map fun c=>(qaP fn.ntmps c,cFn env fn fn151.body c))=some (true,fn151):=by kernel_rfl
theorem qzA:((Tryd.prog.funcs[qcQ 153]?).bind fun fn=>fn.body.map fun c=>(qaP fn.ntmps c,cFn env fn fn153.body c))=some (true,fn153):=by kernel_rfl
theorem qzB:((Tryd.prog.funcs[qcQ 154]?).bind fun fn=>fn.body.map fun c=>(qaP fn.ntmps c,cFn env fn fn154.body c))=some (true,fn154):=by kernel_rfl
theorem qzC:((Tryd.prog.funcs[qcQ 159]?).bind fun fn=>fn.body.map fun c=>(qaP fn.ntmps c,cFn env fn fm159.body c))=some (true,fm159):=by kernel_rfl
theorem qzD:((Tryd.prog.funcs[qcQ 160]?).bind fun fn=>fn.body.map fun c=>(qaP fn.ntmps c,cFn env fn fm160.body c))=some (true,fm160):=by kernel_rfl
theorem qzE:((Tryd.prog.funcs[qcQ 161]?).bind fun fn=>fn.body.map fun c=>(qaP fn.ntmps c,cFn env fn fn161.body c))=some (true,fn161):=by kernel_rfl
theorem qzF:((Tryd.prog.funcs[qcQ 162]?).bind fun fn=>fn.body.map fun c=>(qaP fn.ntmps c,cFn env fn fn162.body c))=some (true,fn162):=by kernel_rfl
theorem qzG:((Tryd.prog.funcs[qcQ 163]?).bind fun fn=>fn.body.map fun c=>(qaP fn.ntmps c,cFn env fn fn163.body c))=some (true,fn163):=by kernel_rfl
theorem qzH:((Tryd.prog.funcs[qcQ 164]?).bind fun fn=>fn.body.map fun c=>(qaP fn.ntmps c,cFn env fn fn164.body c))=some (true,fn164):=by kernel_rfl
theorem qzI:((Tryd.prog.funcs[qcQ 165]?).bind fun fn=>fn.body.map fun c=>(qaP fn.ntmps c,cFn env fn fn165.body c))=some (true,fn165):=by kernel_rfl
theorem qzJ:((Tryd.prog.funcs[qcQ 167]?).bind fun fn=>fn.body.map fun c=>(qaP fn.ntmps c,cFn env fn fn167.body c))=some (true,fn167):=by kernel_rfl
theorem qzK:((Tryd.prog.funcs[qcQ 171]?).bind fun fn=>fn.body.map fun c=>(qaP fn.ntmps c,cFn env fn fn171.body c))=some (true,fn171):=by kernel_rfl
theorem qzL:((Tryd.prog.funcs[qcQ 177]?).bind fun fn=>fn.body.map fun c=>(qaP fn.ntmps c,cFn env fn fn177.body c))=some (true,fn177):=by kernel_rfl
theorem qzM:((Tryd.prog.funcs[qcQ 181]?).bind fun fn=>fn.body.map fun c=>(qaP fn.ntmps c,cFn env fn fn181.body c))=some (true,fn181):=by kernel_rfl
theorem qzN:((Tryd.prog.funcs[qcQ 183]?).bind fun fn=>fn.body.map fun c=>(qaP fn.ntmps c,cFn env fn fn183.body c))=some (true,fn183):=by kernel_rfl
theorem qzO:((Tryd.prog.funcs[qcQ 187]?).bind fun fn=>fn.body.map fun c=>(qaP fn.ntmps c,cFn env fn fm187.body c))=some (true,fm187):=by kernel_rfl
theorem qzP:((Tryd.prog.funcs[qcQ 189]?).bind fun fn=>fn.body.map fun c=>(qaP fn.ntmps c,cFn env fn fn189.body c))=some (true,fn189):=by kernel_rfl
theorem qzQ:((Tryd.prog.funcs[qcQ 190]?).bind fun fn=>fn.body.map fun c=>(qaP fn.ntmps c,cFn env fn fn190.body c))=some (true,fn190):=by kernel_rfl
theorem qzR:((Tryd.prog.funcs[qcQ 191]?).bind fun fn=>fn.body.map fun c=>(qaP fn.ntmps c,cFn env fn fn191.body c))=some (true,fn191):=by kernel_rfl
theorem qzS:((Tryd.prog.funcs[qcQ 192]?).bind fun fn=>fn.body.map fun c=>(qaP fn.ntmps c,cFn env fn fn192.body c))=some (true,fn192):=by kernel_rfl
theorem qzT:((Tryd.prog.funcs[qcQ 193]?).bind fun fn=>fn.body.map fun c=>(qaP fn.ntmps c,cFn env fn fn193.body c))=some (true,fn193):=by kernel_rfl
theorem qzU:((Tryd.prog.funcs[qcQ 194]?).bind fun fn=>fn.body.map fun c=>(qaP fn.ntmps c,cFn env fn fn194.body c))=some (true,fn194):=by kernel_rfl
theorem qzV:((Tryd.prog.funcs[qcQ 195]?).bind fun fn=>fn.body.map fun c=>(qaP fn.ntmps c,cFn env fn fn195.body c))=some (true,fn195):=by kernel_rfl
theorem qzW:((Tryd.prog.funcs[qcQ 196]?).bind fun fn=>fn.body.map fun c=>(qaP fn.ntmps c,cFn env fn fn196.body c))=some (true,fn196):=by kernel_rfl
theorem qzX:((Tryd.prog.funcs[qcQ 207]?).bind fun fn=>fn.body.map fun c=>(qaP fn.ntmps c,cFn env fn fn207.body c))=some (true,fn207):=by kernel_rfl
theorem qzY:((Tryd.prog.funcs[qcQ 208]?).bind fun fn=>fn.body.map fun c=>(qaP fn.ntmps c,cFn env fn fn208.body c))=some (true,fn208):=by kernel_rfl
theorem qzZ:((Tryd.prog.funcs[qcQ 232]?).bind fun fn=>fn.body.map fun c=>(qaP fn.ntmps c,cFn env fn fn232.body c))=some (true,fn232):=by kernel_rfl
theorem qz0:((Tryd.prog.funcs[qcQ 234]?).bind fun fn=>fn.body.map fun c=>(qaP fn.ntmps c,cFn env fn fn234.body c))=some (true,fn234):=by kernel_rfl
theorem qz1:((Tryd.prog.funcs[qcQ 235]?).bind fun fn=>fn.body.map fun c=>(qaP fn.ntmps c,cFn env fn fn235.body c))=some (true,fn235):=by kernel_rfl
theorem qz2:((Tryd.prog.funcs[qcQ 236]?).bind fun fn=>fn.body.map fun c=>(qaP fn.ntmps c,cFn env fn fn236.body c))=some (true,fn236):=by kernel_rfl
theorem qz3:((Tryd.prog.funcs[qcQ 256]?).bind fun fn=>fn.body.map fun c=>(qaP fn.ntmps c,cFn env fn fn256.body c))=some (true,fn256):=by kernel_rfl
theorem qz4:((Tryd.prog.funcs[qcQ 258]?).bind fun fn=>fn.body.map fun c=>(qaP fn.ntmps c,cFn env fn fn258.body c))=some (true,fn258):=by kernel_rfl
theorem qz5:((Tryd.prog.funcs[qcQ 259]?).bind fun fn=>fn.body.map fun c=>(qaP fn.ntmps c,cFn env fn fn259.body c))=some (true,fn259):=by kernel_rfl
theorem qz6:((Tryd.prog.funcs[qcQ 264]?).bind fun fn=>fn.body.map fun c=>(qaP fn.ntmps c,cFn env fn fn264.body c))=some (true,fn264):=by kernel_rfl
theorem qz7:((Tryd.prog.funcs[qcQ 265]?).bind fun fn=>fn.body.map fun c=>(qaP fn.ntmps c,cFn env fn fn265.body c))=some (true,fn265):=by kernel_rfl
theorem qz8:((Tryd.prog.funcs[qcQ 266]?).bind fun fn=>fn.body.map fun c=>(qaP fn.ntmps c,cFn env fn fn266.body c))=some (true,fn266):=by kernel_rfl
theorem qz9:((Tryd.prog.funcs[qcQ 282]?).bind fun fn=>fn.body.map fun c=>(qaP fn.ntmps c,cFn env fn fn282.body c))=some (true,fn282):=by kernel_rfl
theorem qAa:((Tryd.prog.funcs[qcQ 283]?).bind fun fn=>fn.body.map fun c=>(qaP fn.ntmps c,cFn env fn fn283.body c))=some (true,fn283):=by kernel_rfl
theorem qAb:((Tryd.prog.funcs[qcQ 293]?).bind fun fn=>fn.body.map fun c=>(qaP fn.ntmps c,cFn env fn fn293.body c))=some (true,fn293):=by kernel_rfl
theorem qAc:((Tryd.prog.funcs[qcQ 294]?).bind fun fn=>fn.body.map fun c=>(qaP fn.ntmps c,cFn env fn fn294.body c))=some (true,fn294):=by kernel_rfl
theorem qAd:((Tryd.prog.funcs[qcQ 297]?).bind fun fn=>fn.body.map fun c=>(qaP fn.ntmps c,cFn env fn fn297.body c))=some (true,fn297):=by kernel_rfl
theorem qAe:((Tryd.prog.funcs[qcQ 298]?).bind fun fn=>fn.body.map fun c=>(qaP fn.ntmps c,cFn env fn fn298.body c))=some (true,fn298):=by kernel_rfl
theorem qAf:((Tryd.prog.funcs[qcQ 299]?).bind fun fn=>fn.body.map fun c=>(qaP fn.ntmps c,cFn env fn fn299.body c))=some (true,fn299):=by kernel_rfl
theorem qAg:((Tryd.prog.funcs[qcQ 300]?).bind fun fn=>fn.body.map fun c=>(qaP fn.ntmps c,cFn env fn fn300.body c))=some (true,fn300):=by kernel_rfl
theorem qAh:((Tryd.prog.funcs[qcQ 301]?).bind fun fn=>fn.body.map fun c=>(qaP fn.ntmps c,cFn env fn fn301.body c))=some (true,fn301):=by kernel_rfl
theorem qAi:((Tryd.prog.funcs[qcQ 302]?).bind fun fn=>fn.body.map fun c=>(qaP fn.ntmps c,cFn env fn fn302.body c))=some (true,fn302):=by kernel_rfl
theorem qAj:((Tryd.prog.funcs[qcQ 303]?).bind fun fn=>fn.body.map fun c=>(qaP fn.ntmps c,cFn env fn fm303.body c))=some (true,fm303):=by kernel_rfl
theorem qAk:((Tryd.prog.funcs[qcQ 304]?).bind fun fn=>fn.body.map fun c=>(qaP fn.ntmps c,cFn env fn fn304.body c))=some (true,fn304):=by kernel_rfl
theorem qAl:((Tryd.prog.funcs[qcQ 313]?).bind fun fn=>fn.body.map fun c=>(qaP fn.ntmps c,cFn env fn fn313.body c))=some (true,fn313):=by kernel_rfl
theorem qAm:((Tryd.prog.funcs[qcQ 314]?).bind fun fn=>fn.body.map fun c=>(qaP fn.ntmps c,cFn env fn fn314.body c))=some (true,fn314):=by kernel_rfl
theorem qAn:((Tryd.prog.funcs[qcQ 315]?).bind fun fn=>fn.body.map fun c=>(qaP fn.ntmps c,cFn env fn fn315.body c))=some (true,fn315):=by kernel_rfl
theorem qAo:((Tryd.prog.funcs[qcQ 316]?).bind fun fn=>fn.body.map fun c=>(qaP fn.ntmps c,cFn env fn fn316.body c))=some (true,fn316):=by kernel_rfl
theorem qAp:((Tryd.prog.funcs[qcQ 317]?).bind fun fn=>fn.body.map fun c=>(qaP fn.ntmps c,cFn env fn fn317.body c))=some (true,fn317):=by kernel_rfl
theorem qAq:((Tryd.prog.funcs[qcQ 318]?).bind fun fn=>fn.body.map fun c=>(qaP fn.ntmps c,cFn env fn fn318.body c))=some (true,fn318):=by kernel_rfl
theorem qAr:((Tryd.prog.funcs[qcQ 319]?).bind fun fn=>fn.body.map fun c=>(qaP fn.ntmps c,cFn env fn fn319.body c))=some (true,fn319):=by kernel_rfl
theorem qAs:((Tryd.prog.funcs[qcQ 320]?).bind fun fn=>fn.body.map fun c=>(qaP fn.ntmps c,cFn env fn fn320.body c))=some (true,fn320):=by kernel_rfl
theorem qAt:((Tryd.prog.funcs[qcQ 325]?).bind fun fn=>fn.body.map fun c=>(qaP fn.ntmps c,cFn env fn fn325.body c))=some (true,fn325):=by kernel_rfl
theorem qBG:∀ f k,env.fm f=some k→FnOk env lib f k:=by
 intro f k hf
 have:=qBv f k hf
 subst this
 by_cases h0:k=188
 ·subst h0
  have e:qcQ 188=58:=by kernel_rfl
  rw[e]
  exact⟨.inl ⟨qkK,rfl,qt9⟩⟩
 by_cases h1:k=138
 ·subst h1
  have e:qcQ 138=98:=by kernel_rfl
  rw[e]
  exact⟨.inl ⟨qpN,rfl,qyg⟩⟩
 cases hx:qjf k with
 | none =>
   refine⟨.inl ⟨fun _ _=>none,?_,qwf env _⟩⟩
   show qfU k=_
   unfold qfU
   rw[hx]
   dsimp only
   rw[if_neg h0,if_neg h1]
 | some fn =>
   have hs:lib.summ k=none:=by
    show qfU k=_
    unfold qfU
    rw[hx]
   have hx2:=hx
   unfold qjf at hx
   split at hx
   ·exact qaO hs rfl qzt
   ·exact qaO hs rfl qzu
   ·exact qaO hs rfl qzv
   ·exact qaO hs rfl qzw
   ·exact qaO hs rfl qzx
   ·exact qaO hs rfl qzy
   ·exact qaO hs rfl qzz
   ·exact qaO hs rfl qzA
   ·exact qaO hs rfl qzB
   ·exact qaO hs rfl qzC
   ·exact qaO hs rfl qzD
   ·exact qaO hs rfl qzE
   ·exact qaO hs rfl qzF
   ·exact qaO hs rfl qzG
   ·exact qaO hs rfl qzH
   ·exact qaO hs rfl qzI
   ·exact qaO hs rfl qzJ
   ·exact qaO hs rfl qzK
   ·exact qaO hs rfl qzL
   ·exact qaO hs rfl qzM
   ·exact qaO hs rfl qzN
   ·exact qaO hs rfl qzO
   ·exact qaO hs rfl qzP
   ·exact qaO hs rfl qzQ
   ·exact qaO hs rfl qzR
   ·exact qaO hs rfl qzS
   ·exact qaO hs rfl qzT
   ·exact qaO hs rfl qzU
   ·exact qaO hs rfl qzV
   ·exact qaO hs rfl qzW
   ·exact qaO hs rfl qzX
   ·exact qaO hs rfl qzY
   ·exact qaO hs rfl qzZ
   ·exact qaO hs rfl qz0
   ·exact qaO hs rfl qz1
   ·exact qaO hs rfl qz2
   ·exact qaO hs rfl qz3
   ·exact qaO hs rfl qz4
   ·exact qaO hs rfl qz5
   ·exact qaO hs rfl qz6
   ·exact qaO hs rfl qz7
   ·exact qaO hs rfl qz8
   ·exact qaO hs rfl qz9
   ·exact qaO hs rfl qAa
   ·exact qaO hs rfl qAb
   ·exact qaO hs rfl qAc
   ·exact qaO hs rfl qAd
   ·exact qaO hs rfl qAe
   ·exact qaO hs rfl qAf
   ·exact qaO hs rfl qAg
   ·exact qaO hs rfl qAh
   ·exact qaO hs rfl qAi
   ·exact qaO hs rfl qAj
   ·exact qaO hs rfl qAk
   ·exact qaO hs rfl qAl
   ·exact qaO hs rfl qAm
   ·exact qaO hs rfl qAn
   ·exact qaO hs rfl qAo
   ·exact qaO hs rfl qAp
   ·exact qaO hs rfl qAq
   ·exact qaO hs rfl qAr
   ·exact qaO hs rfl qAs
   ·exact qaO hs rfl qAt
   ·cases hx
theorem qxE:qbX env (call lib):=qy3 qyy lib qBG
theorem qiw:Plain lib:=by
 refine⟨fun _=>rfl,fun f hf=>?_⟩
 show qfU f=none
 have hf':qjf f≠none:=hf
 unfold qfU
 cases hx:qjf f with
 | none=>exact absurd hx hf'
 | some _=>rfl
theorem qvu {f:Nat} {args:List AVal} {v:AVal} {s:List AVal→Heap→Option (ARes × Heap)} (hs:lib.summ f=some s) (h1:s args []=some (.val v,[])) (hw:wipeR v=v) (hd:qaH v=true) (h:Heap) :
  pcall lib f args h=some (.val v,h):=by
 have:call lib f args []=some (.val v,[]):=qh4 hs h1
 exact qcM this (by rw[qrw (by rw[hw];exact hd),hw]) hd h
theorem qy4 (l:List Int) (h:Heap) (hl:l.length<2 ^ 30):qkK [.list (l.map qav) none] h=some (.val (qkL l h.length),h++qhj l):=by
 unfold qkK
 dsimp only
 rw[qrK,List.length_map]
 by_cases hz:l=[]
 ·subst hz
  simp[qkL,qhj]
 ·have:l.map qav≠[]:=by simpa using hz
  rw[qkM hz,qkJ hz,if_pos (by simp[hl]),if_neg this]
theorem lib_mut:MPrims lib:=⟨fun l h hl=>qh4 (s:=qkK) rfl (qy4 l h hl)⟩
theorem qo7:CPrims lib qa6:=by
 refine⟨fun l h hl=>?_,fun l hne hl=>?_,fun h=>?_⟩
 ·have h1:=lib_mut.clone l [] hl
  refine qcM h1 ?_ (by rw[qa3];exact qah l) h
  rcases qfw l with ⟨h2,h3⟩ | ⟨h2,h3⟩
  ·rw[h2,h3,qh6 h3]
   rfl
  ·rw[h2,h3]
   unfold qf5
   have hv:viewV ([]++[.vec (l.map qav) 1]) (.vec ([]:Heap).length l.length)=.list (l.map qav) none:=(HInts.view (H:=[.vec (l.map qav) 1]) (l:=l) (v:=.vec 0 l.length) (f:=[0]) (.inr ⟨qgN h3,0,rfl,rfl,rfl⟩) 1999)
   rw[if_neg (by simp[wipeR,wipe,wipeCell,qaH]),hv]
   rfl
 ·refine qh4 (s:=qpN) rfl ?_
  unfold qpN
  have hx:∃ m,l.length=m+1:=⟨l.length-1,by have:=List.length_pos_iff.2 hne;omega⟩
  dsimp only
  rw[qrK,List.length_map,quR]
  simp[hl]
 ·exact qvu (s:=qpN) rfl rfl rfl rfl h
theorem qu7 (h:Heap):call lib 138 [.list [] none] h=some (.val (.tuple []),h):=qh4 (s:=qpN) rfl rfl
theorem qrV:∀ (t:CTree),TFit t→qaJ t<2 ^ 30→∀ h:Heap,pcall lib 159 [qao t] h=some (.val (.list ((qau t).map qam) none),h):=fun t hf hs h=>qxG qiw qo7 rfl rfl t hf hs h
theorem qrU:CLib lib:=by
 constructor
 case plain=>exact qiw
 case prims=>exact qo7
 case grow=>exact fun e h hl hf hT hh=>qsQ qiw lib_mut rfl e h hl hf hT hh
 all_goals rfl
theorem qBH:RLib lib:=by
 constructor
 case toCLib=>exact qrU
 case list=>exact qrV
 case mprims=>exact lib_mut
 all_goals rfl
theorem qxF:CLib2 lib:=by
 constructor
 case toCLib=>exact qrU
 case list=>exact qrV
 all_goals rfl
end Go.Abs
