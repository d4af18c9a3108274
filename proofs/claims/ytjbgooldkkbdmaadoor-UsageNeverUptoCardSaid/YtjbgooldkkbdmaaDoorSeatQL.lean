/-
  The seat's table of functions: each is the program's, as the kernel checks. Conditions: none.
-/
import Derived.Test.YtjbgooldkkbdmaaDoorSeatPW
import Derived.Test.YtjbgooldkkbdmaaDoorUK
import Derived.Test.YtjbgooldkkbdmaaDoorRM
import Derived.KernelRfl
set_option linter.unusedVariables false
set_option maxRecDepth 100000
set_option maxHeartbeats 4000000
namespace Go.Abs
open Go.Proofs Go.RowKit
def qgT:Nat→Option AFn
 | 134=>some fn134
 | 151=>some fn151
 | 153=>some fn153
 | 154=>some fn154
 | 160=>some fm160
 | 161=>some fn161
 | 165=>some fn165
 | 167=>some fn167
 | 177=>some fn177
 | 181=>some fn181
 | 183=>some fn183
 | 190=>some fn190
 | 191=>some fn191
 | 192=>some fn192
 | 193=>some fn193
 | 194=>some fn194
 | 195=>some fn195
 | 196=>some fn196
 | 232=>some fn232
 | 234=>some fn234
 | 235=>some fn235
 | 236=>some fn236
 | 242=>some fn242
 | 258=>some fn258
 | 259=>some fn259
 | 264=>some fn264
 | 265=>some fn265
 | 266=>some fn266
 | 267=>some fn267
 | 274=>some fn274
 | 275=>some fn275
 | 276=>some fn276
 | 277=>some fn277
 | 285=>some fn285
 | 287=>some fn287
 | 288=>some fn288
 | 289=>some fn289
 | 290=>some fn290
 | 295=>some fn295
 | _=>none
noncomputable def qek (k:Nat):Option (List AVal→Heap→Option (ARes × Heap)) :=
 match qgT k with | some _=>none | none=>if k=188 then some qib else if k=138 then some qmx else if k=286 then some qhl else some fun _ _=>none
noncomputable def lib:Lib:={ pure:=fun _=>true,summ:=qek,fns:=qgT }
theorem qtz:((Tryd.prog.funcs[qdp 134]?).bind fun fn=>fn.body.map fun c=>(qaJ fn.ntmps c,cFn env fn fn134.body c))=some (true,fn134):=by kernel_rfl
theorem qtA:((Tryd.prog.funcs[qdp 151]?).bind fun fn=>fn.body.map fun c=>(qaJ fn.ntmps c,cFn env fn fn151.body c))=some (true,fn151):=by kernel_rfl
theorem qtB:((Tryd.prog.funcs[qdp 153]?).bind fun fn=>fn.body.map fun c=>(qaJ fn.ntmps c,cFn env fn fn153.body c))=some (true,fn153):=by kernel_rfl
theorem qtC:((Tryd.prog.funcs[qdp 154]?).bind fun fn=>fn.body.map fun c=>(qaJ fn.ntmps c,cFn env fn fn154.body c))=some (true,fn154):=by kernel_rfl
theorem qtD:((Tryd.prog.funcs[qdp 160]?).bind fun fn=>fn.body.map fun c=>(qaJ fn.ntmps c,cFn env fn fm160.body c))=some (true,fm160):=by kernel_rfl
theorem qtE:((Tryd.prog.funcs[qdp 161]?).bind fun fn=>fn.body.map fun c=>(qaJ fn.ntmps c,cFn env fn fn161.body c))=some (true,fn161):=by kernel_rfl
theorem qtF:((Tryd.prog.funcs[qdp 165]?).bind fun fn=>fn.body.map fun c=>(qaJ fn.ntmps c,cFn env fn fn165.body c))=some (true,fn165):=by kernel_rfl
theorem qtG:((Tryd.prog.funcs[qdp 167]?).bind fun fn=>fn.body.map fun c=>(qaJ fn.ntmps c,cFn env fn fn167.body c))=some (true,fn167):=by kernel_rfl
theorem qtH:((Tryd.prog.funcs[qdp 177]?).bind fun fn=>fn.body.map fun c=>(qaJ fn.ntmps c,cFn env fn fn177.body c))=some (true,fn177):=by kernel_rfl
theorem qtI:((Tryd.prog.funcs[qdp 181]?).bind fun fn=>fn.body.map fun c=>(qaJ fn.ntmps c,cFn env fn fn181.body c))=some (true,fn181):=by kernel_rfl
theorem qtJ:((Tryd.prog.funcs[qdp 183]?).bind fun fn=>fn.body.map fun c=>(qaJ fn.ntmps c,cFn env fn fn183.body c))=some (true,fn183):=by kernel_rfl
theorem qtK:((Tryd.prog.funcs[qdp 190]?).bind fun fn=>fn.body.map fun c=>(qaJ fn.ntmps c,cFn env fn fn190.body c))=some (true,fn190):=by kernel_rfl
theorem qtL:((Tryd.prog.funcs[qdp 191]?).bind fun fn=>fn.body.map fun c=>(qaJ fn.ntmps c,cFn env fn fn191.body c))=some (true,fn191):=by kernel_rfl
theorem qtM:((Tryd.prog.funcs[qdp 192]?).bind fun fn=>fn.body.map fun c=>(qaJ fn.ntmps c,cFn env fn fn192.body c))=some (true,fn192):=by kernel_rfl
theorem qtN:((Tryd.prog.funcs[qdp 193]?).bind fun fn=>fn.body.map fun c=>(qaJ fn.ntmps c,cFn env fn fn193.body c))=some (true,fn193):=by kernel_rfl
theorem qtO:((Tryd.prog.funcs[qdp 194]?).bind fun fn=>fn.body.map fun c=>(qaJ fn.ntmps c,cFn env fn fn194.body c))=some (true,fn194):=by kernel_rfl
theorem qtP:((Tryd.prog.funcs[qdp 195]?).bind fun fn=>fn.body.map fun c=>(qaJ fn.ntmps c,cFn env fn fn195.body c))=some (true,fn195):=by kernel_rfl
theorem qtQ:((Tryd.prog.funcs[qdp 196]?).bind fun fn=>fn.body.map fun c=>(qaJ fn.ntmps c,cFn env fn fn196.body c))=some (true,fn196):=by kernel_rfl
theorem qtR:((Tryd.prog.funcs[qdp 232]?).bind fun fn=>fn.body.map fun c=>(qaJ fn.ntmps c,cFn env fn fn232.body c))=some (true,fn232):=by kernel_rfl
theorem qtS:((Tryd.prog.funcs[qdp 234]?).bind fun fn=>fn.body.map fun c=>(qaJ fn.ntmps c,cFn env fn fn234.body c))=some (true,fn234):=by kernel_rfl
theorem qtT:((Tryd.prog.funcs[qdp 235]?).bind fun fn=>fn.body.map fun c=>(qaJ fn.ntmps c,cFn env fn fn235.body c))=some (true,fn235):=by kernel_rfl
theorem qtU:((Tryd.prog.funcs[qdp 236]?).bind fun fn=>fn.body.map fun c=>(qaJ fn.ntmps c,cFn env fn fn236.body c))=some (true,fn236):=by kernel_rfl
theorem qtV:((Tryd.prog.funcs[qdp 242]?).bind fun fn=>fn.body.map fun c=>(qaJ fn.ntmps c,cFn env fn fn242.body c))=some (true,fn242):=by kernel_rfl
theorem qtW:((Tryd.prog.funcs[qdp 258]?).bind fun fn=>fn.body.map fun c=>(qaJ fn.ntmps c,cFn env fn fn258.body c))=some (true,fn258):=by kernel_rfl
theorem qtX:((Tryd.prog.funcs[qdp 259]?).bind fun fn=>fn.body.map fun c=>(qaJ fn.ntmps c,cFn env fn fn259.body c))=some (true,fn259):=by kernel_rfl
theorem qtY:((Tryd.prog.funcs[qdp 264]?).bind fun fn=>fn.body.map fun c=>(qaJ fn.ntmps c,cFn env fn fn264.body c))=some (true,fn264):=by kernel_rfl
theorem qtZ:((Tryd.prog.funcs[qdp 265]?).bind fun fn=>fn.body.map fun c=>(qaJ fn.ntmps c,cFn env fn fn265.body c))=some (true,fn265):=by kernel_rfl
theorem qt0:((Tryd.prog.funcs[qdp 266]?).bind fun fn=>fn.body.map fun c=>(qaJ fn.ntmps c,cFn env fn fn266.body c))=some (true,fn266):=by kernel_rfl
theorem qt1:((Tryd.prog.funcs[qdp 267]?).bind fun fn=>fn.body.map fun c=>(qaJ fn.ntmps c,cFn env fn fn267.body c))=some (true,fn267):=by kernel_rfl
theorem qt2:((Tryd.prog.funcs[qdp 274]?).bind fun fn=>fn.body.map fun c=>(qaJ fn.ntmps c,cFn env fn fn274.body c))=some (true,fn274):=by kernel_rfl
theorem qt3:((Tryd.prog.funcs[qdp 275]?).bind fun fn=>fn.body.map fun c=>(qaJ fn.ntmps c,cFn env fn fn275.body c))=some (true,fn275):=by kernel_rfl
theorem qt4:((Tryd.prog.funcs[qdp 276]?).bind fun fn=>fn.body.map fun c=>(qaJ fn.ntmps c,cFn env fn fn276.body c))=some (true,fn276):=by kernel_rfl
theorem qt5:((Tryd.prog.funcs[qdp 277]?).bind fun fn=>fn.body.map fun c=>(qaJ fn.ntmps c,cFn env fn fn277.body c))=some (true,fn277):=by kernel_rfl
theorem qt6:((Tryd.prog.funcs[qdp 285]?).bind fun fn=>fn.body.map fun c=>(qaJ fn.ntmps c,cFn env fn fn285.body c))=some (true,fn285):=by kernel_rfl
theorem qt7:((Tryd.prog.funcs[qdp 287]?).bind fun fn=>fn.body.map fun c=>(qaJ fn.ntmps c,cFn env fn fn287.body c))=some (true,fn287):=by kernel_rfl
theorem qt8:((Tryd.prog.funcs[qdp 288]?).bind fun fn=>fn.body.map fun c=>(qaJ fn.ntmps c,cFn env fn fn288.body c))=some (true,fn288):=by kernel_rfl
theorem qt9:((Tryd.prog.funcs[qdp 289]?).bind fun fn=>fn.body.map fun c=>(qaJ fn.ntmps c,cFn env fn fn289.body c))=some (true,fn289):=by kernel_rfl
theorem qua:((Tryd.prog.funcs[qdp 290]?).bind fun fn=>fn.body.map fun c=>(qaJ fn.ntmps c,cFn env fn fn290.body c))=some (true,fn290):=by kernel_rfl
theorem qub:((Tryd.prog.funcs[qdp 295]?).bind fun fn=>fn.body.map fun c=>(qaJ fn.ntmps c,cFn env fn fn295.body c))=some (true,fn295):=by kernel_rfl
theorem qu4:∀ f k,env.fm f=some k→FnOk env lib f k:=by
 intro f k hf
 have:=qsQ f k hf
 subst this
 by_cases h0:k=188
 ·subst h0
  have e:qdp 188=25:=by kernel_rfl
  rw[e]
  exact⟨.inl ⟨qib,rfl,qpT⟩⟩
 by_cases h1:k=138
 ·subst h1
  have e:qdp 138=57:=by kernel_rfl
  rw[e]
  exact⟨.inl ⟨qmx,rfl,qsE⟩⟩
 by_cases h2:k=286
 ·subst h2
  have e:qdp 286=14:=by kernel_rfl
  rw[e]
  exact⟨.inl ⟨qhl,rfl,qq8⟩⟩
 cases hx:qgT k with
 | none =>
   refine⟨.inl ⟨fun _ _=>none,?_,qrd env _⟩⟩
   show qek k=_
   unfold qek
   rw[hx]
   dsimp only
   rw[if_neg h0,if_neg h1,if_neg h2]
 | some fn =>
   have hs:lib.summ k=none:=by
    show qek k=_
    unfold qek
    rw[hx]
   have hx2:=hx
   unfold qgT at hx
   split at hx
   ·exact qaP hs rfl qtz
   ·exact qaP hs rfl qtA
   ·exact qaP hs rfl qtB
   ·exact qaP hs rfl qtC
   ·exact qaP hs rfl qtD
   ·exact qaP hs rfl qtE
   ·exact qaP hs rfl qtF
   ·exact qaP hs rfl qtG
   ·exact qaP hs rfl qtH
   ·exact qaP hs rfl qtI
   ·exact qaP hs rfl qtJ
   ·exact qaP hs rfl qtK
   ·exact qaP hs rfl qtL
   ·exact qaP hs rfl qtM
   ·exact qaP hs rfl qtN
   ·exact qaP hs rfl qtO
   ·exact qaP hs rfl qtP
   ·exact qaP hs rfl qtQ
   ·exact qaP hs rfl qtR
   ·exact qaP hs rfl qtS
   ·exact qaP hs rfl qtT
   ·exact qaP hs rfl qtU
   ·exact qaP hs rfl qtV
   ·exact qaP hs rfl qtW
   ·exact qaP hs rfl qtX
   ·exact qaP hs rfl qtY
   ·exact qaP hs rfl qtZ
   ·exact qaP hs rfl qt0
   ·exact qaP hs rfl qt1
   ·exact qaP hs rfl qt2
   ·exact qaP hs rfl qt3
   ·exact qaP hs rfl qt4
   ·exact qaP hs rfl qt5
   ·exact qaP hs rfl qt6
   ·exact qaP hs rfl qt7
   ·exact qaP hs rfl qt8
   ·exact qaP hs rfl qt9
   ·exact qaP hs rfl qua
   ·exact qaP hs rfl qub
   ·cases hx
theorem qsi:qbn env (call lib):=qtg qsO lib qu4
theorem qiC:Plain lib:=by
 refine⟨fun _=>rfl,fun f hf=>?_⟩
 show qek f=none
 have hf':qgT f≠none:=hf
 unfold qek
 cases hx:qgT f with
 | none=>exact absurd hx hf'
 | some _=>rfl
theorem qqL {f:Nat} {args:List AVal} {v:AVal} {s:List AVal→Heap→Option (ARes × Heap)} (hs:lib.summ f=some s) (h1:s args []=some (.val v,[])) (hw:wipeR v=v) (hd:qap v=true) (h:Heap) :
  pcall lib f args h=some (.val v,h):=by
 have:call lib f args []=some (.val v,[]):=qdb hs h1
 exact qct this (by rw[qnX (by rw[hw];exact hd),hw]) hd h
theorem qth (l:List Int) (h:Heap) (hl:l.length<2 ^ 30):qib [.list (l.map qat) none] h=some (.val (qic l h.length),h++qfu l):=by
 unfold qib
 dsimp only
 rw[qoa,List.length_map]
 by_cases hz:l=[]
 ·subst hz
  simp[qic,qfu]
 ·have:l.map qat≠[]:=by simpa using hz
  rw[qid hz,qia hz,if_pos (by simp[hl]),if_neg this]
theorem lib_mut:MPrims lib:=⟨fun l h hl=>qdb (s:=qib) rfl (qth l h hl)⟩
theorem qqs:CPrims lib qa9:=by
 refine⟨fun l h hl=>?_,fun l hne hl=>?_,fun h=>?_⟩
 ·have h1:=lib_mut.clone l [] hl
  refine qct h1 ?_ (by rw[qa8];exact qac l) h
  rcases qd5 l with ⟨h2,h3⟩ | ⟨h2,h3⟩
  ·rw[h2,h3,qf7 h3]
   rfl
  ·rw[h2,h3]
   unfold qex
   have hv:viewV ([]++[.vec (l.map qat) 1]) (.vec ([]:Heap).length l.length)=.list (l.map qat) none:=(HInts.view (H:=[.vec (l.map qat) 1]) (l:=l) (v:=.vec 0 l.length) (f:=[0]) (.inr ⟨qe5 h3,0,rfl,rfl,rfl⟩) 1999)
   rw[if_neg (by simp[wipeR,wipe,wipeCell,qap]),hv]
   rfl
 ·refine qdb (s:=qmx) rfl ?_
  unfold qmx
  have hx:∃ m,l.length=m+1:=⟨l.length-1,by have:=List.length_pos_iff.2 hne;omega⟩
  dsimp only
  rw[qoa,List.length_map,qqh]
  simp[hl]
 ·exact qqL (s:=qmx) rfl rfl rfl rfl h
theorem qqt (h:Heap):call lib 138 [.list [] none] h=some (.val (.tuple []),h):=qdb (s:=qmx) rfl rfl
theorem qsj:CLib lib:=by
 constructor
 case plain=>exact qiC
 case prims=>exact qqs
 case grow=>exact fun e h hl hf hT hh=>qoZ qiC lib_mut rfl e h hl hf hT hh
 all_goals rfl
end Go.Abs
