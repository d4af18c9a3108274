/-
  The seat's table of functions: each is the program's, as the kernel checks. Conditions: none.
-/
import Derived.Test.YtjbgooldkkbdmaaDoorSeatPW
import Derived.Test.YtjbgooldkkbdmaaDoorUK
import Derived.Test.YtjbgooldkkbdmaaDoorRM
import Derived.KernelRfl
set_option linter.unusedVariables false
set_option maxRecDepth 100000
set_option maxHeartbeats 4000000
namespace Go.Abs
open Go.Proofs Go.RowKit
def qhB:Nat→Option AFn
 | 132=>some qw9
 | 133=>some qxa
 | 134=>some fn134
 | 139=>some qxb
 | 140=>some fn140
 | 151=>some fn151
 | 153=>some fn153
 | 154=>some fn154
 | 159=>some fm159
 | 160=>some fm160
 | 161=>some fn161
 | 162=>some qxc
 | 163=>some qxd
 | 164=>some qxe
 | 165=>some fn165
 | 167=>some fn167
 | 171=>some fn171
 | 177=>some fn177
 | 181=>some fn181
 | 183=>some fn183
 | 187=>some fm187
 | 189=>some qxf
 | 190=>some fn190
 | 191=>some fn191
 | 192=>some fn192
 | 193=>some fn193
 | 194=>some fn194
 | 195=>some fn195
 | 196=>some fn196
 | 207=>some fn207
 | 208=>some fn208
 | 232=>some fn232
 | 234=>some fn234
 | 235=>some fn235
 | 236=>some fn236
 | 242=>some fn242
 | 258=>some fn258
 | 259=>some fn259
 | 264=>some fn264
 | 265=>some fn265
 | 266=>some fn266
 | 268=>some fn268
 | 274=>some fn274
 | 275=>some fn275
 | 285=>some fn285
 | 287=>some fn287
 | 288=>some fn288
 | 289=>some fn289
 | 295=>some fn295
 | _=>none
noncomputable def qeY (k:Nat):Option (List AVal→Heap→Option (ARes × Heap)) :=
 match qhB k with | some _=>none | none=>if k=188 then some qiY else if k=138 then some qnb else if k=286 then some qh4 else some fun _ _=>none
noncomputable def lib:Lib:={ pure:=fun _=>true,summ:=qeY,fns:=qhB }
theorem qvI:((Tryd.prog.funcs[qc8 134]?).bind fun fn=>fn.body.map fun c=>(qaL fn.ntmps c,cFn env fn fn134.body c))=some (true,fn134):=by kernel_rfl
theorem qvJ:((Tryd.prog.funcs[qc8 140]?).bind fun fn=>fn.body.map fun c=>(qaL fn.ntmps c,cFn env fn fn140.body c))=some (true,fn140):=by kernel_rfl
theorem qvK:((Tryd.prog.funcs[qc8 151]?).bind fun fn=>fn.body.map fun c=>(qaL fn.ntmps c,cFn env fn fn151.body c))=some (true,fn151):=by kernel_rfl
theorem qvL:((Tryd.prog.funcs[qc8 153]?).bind fun fn=>fn.body.map fun c=>(qaL fn.ntmps c,cFn env fn fn153.body c))=some (true,fn153):=by kernel_rfl
theorem qvM:((Tryd.prog.funcs[qc8 154]?).bind fun fn=>fn.body.map fun c=>(qaL fn.ntmps c,cFn env fn fn154.body c))=some (true,fn154):=by kernel_rfl
theorem qvN:((Tryd.prog.funcs[qc8 159]?).bind fun fn=>fn.body.map fun c=>(qaL fn.ntmps c,cFn env fn fm159.body c))=some (true,fm159):=by kernel_rfl
theorem qvO:((Tryd.prog.funcs[qc8 160]?).bind fun fn=>fn.body.map fun c=>(qaL fn.ntmps c,cFn env fn fm160.body c))=some (true,fm160):=by kernel_rfl
theorem qvP:((Tryd.prog.funcs[qc8 161]?).bind fun fn=>fn.body.map fun c=>(qaL fn.ntmps c,cFn env fn fn161.body c))=some (true,fn161):=by kernel_rfl
theorem qvQ:((Tryd.prog.funcs[qc8 165]?).bind fun fn=>fn.body.map fun c=>(qaL fn.ntmps c,cFn env fn fn165.body c))=some (true,fn165):=by kernel_rfl
theorem qvR:((Tryd.prog.funcs[qc8 167]?).bind fun fn=>fn.body.map fun c=>(qaL fn.ntmps c,cFn env fn fn167.body c))=some (true,fn167):=by kernel_rfl
theorem qvS:((Tryd.prog.funcs[qc8 171]?).bind fun fn=>fn.body.map fun c=>(qaL fn.ntmps c,cFn env fn fn171.body c))=some (true,fn171):=by kernel_rfl
theorem qvT:((Tryd.prog.funcs[qc8 177]?).bind fun fn=>fn.body.map fun c=>(qaL fn.ntmps c,cFn env fn fn177.body c))=some (true,fn177):=by kernel_rfl
theorem qvU:((Tryd.prog.funcs[qc8 181]?).bind fun fn=>fn.body.map fun c=>(qaL fn.ntmps c,cFn env fn fn181.body c))=some (true,fn181):=by kernel_rfl
theorem qvV:((Tryd.prog.funcs[qc8 183]?).bind fun fn=>fn.body.map fun c=>(qaL fn.ntmps c,cFn env fn fn183.body c))=some (true,fn183):=by kernel_rfl
theorem qvW:((Tryd.prog.funcs[qc8 187]?).bind fun fn=>fn.body.map fun c=>(qaL fn.ntmps c,cFn env fn fm187.body c))=some (true,fm187):=by kernel_rfl
theorem qvX:((Tryd.prog.funcs[qc8 190]?).bind fun fn=>fn.body.map fun c=>(qaL fn.ntmps c,cFn env fn fn190.body c))=some (true,fn190):=by kernel_rfl
theorem qvY:((Tryd.prog.funcs[qc8 191]?).bind fun fn=>fn.body.map fun c=>(qaL fn.ntmps c,cFn env fn fn191.body c))=some (true,fn191):=by kernel_rfl
theorem qvZ:((Tryd.prog.funcs[qc8 192]?).bind fun fn=>fn.body.map fun c=>(qaL fn.ntmps c,cFn env fn fn192.body c))=some (true,fn192):=by kernel_rfl
theorem qv0:((Tryd.prog.funcs[qc8 193]?).bind fun fn=>fn.body.map fun c=>(qaL fn.ntmps c,cFn env fn fn193.body c))=some (true,fn193):=by kernel_rfl
theorem qv1:((Tryd.prog.funcs[qc8 194]?).bind fun fn=>fn.body.map fun c=>(qaL fn.ntmps c,cFn env fn fn194.body c))=some (true,fn194):=by kernel_rfl
theorem qv2:((Tryd.prog.funcs[qc8 195]?).bind fun fn=>fn.body.map fun c=>(qaL fn.ntmps c,cFn env fn fn195.body c))=some (true,fn195):=by kernel_rfl
theorem qv3:((Tryd.prog.funcs[qc8 196]?).bind fun fn=>fn.body.map fun c=>(qaL fn.ntmps c,cFn env fn fn196.body c))=some (true,fn196):=by kernel_rfl
theorem qv4:((Tryd.prog.funcs[qc8 207]?).bind fun fn=>fn.body.map fun c=>(qaL fn.ntmps c,cFn env fn fn207.body c))=some (true,fn207):=by kernel_rfl
theorem qv5:((Tryd.prog.funcs[qc8 208]?).bind fun fn=>fn.body.map fun c=>(qaL fn.ntmps c,cFn env fn fn208.body c))=some (true,fn208):=by kernel_rfl
theorem qv6:((Tryd.prog.funcs[qc8 232]?).bind fun fn=>fn.body.map fun c=>(qaL fn.ntmps c,cFn env fn fn232.body c))=some (true,fn232):=by kernel_rfl
theorem qv7:((Tryd.prog.funcs[qc8 234]?).bind fun fn=>fn.body.map fun c=>(qaL fn.ntmps c,cFn env fn fn234.body c))=some (true,fn234):=by kernel_rfl
theorem qv8:((Tryd.prog.funcs[qc8 235]?).bind fun fn=>fn.body.map fun c=>(qaL fn.ntmps c,cFn env fn fn235.body c))=some (true,fn235):=by kernel_rfl
theorem qv9:((Tryd.prog.funcs[qc8 236]?).bind fun fn=>fn.body.map fun c=>(qaL fn.ntmps c,cFn env fn fn236.body c))=some (true,fn236):=by kernel_rfl
theorem qwa:((Tryd.prog.funcs[qc8 242]?).bind fun fn=>fn.body.map fun c=>(qaL fn.ntmps c,cFn env fn fn242.body c))=some (true,fn242):=by kernel_rfl
theorem qwb:((Tryd.prog.funcs[qc8 258]?).bind fun fn=>fn.body.map fun c=>(qaL fn.ntmps c,cFn env fn fn258.body c))=some (true,fn258):=by kernel_rfl
theorem qwc:((Tryd.prog.funcs[qc8 259]?).bind fun fn=>fn.body.map fun c=>(qaL fn.ntmps c,cFn env fn fn259.body c))=some (true,fn259):=by kernel_rfl
theorem qwd:((Tryd.prog.funcs[qc8 264]?).bind fun fn=>fn.body.map fun c=>(qaL fn.ntmps c,cFn env fn fn264.body c))=some (true,fn264):=by kernel_rfl
theorem qwe:((Tryd.prog.funcs[qc8 265]?).bind fun fn=>fn.body.map fun c=>(qaL fn.ntmps c,cFn env fn fn265.body c))=some (true,fn265):=by kernel_rfl
theorem qwf:((Tryd.prog.funcs[qc8 266]?).bind fun fn=>fn.body.map fun c=>(qaL fn.ntmps c,cFn env fn fn266.body c))=some (true,fn266):=by kernel_rfl
theorem qwg:((Tryd.prog.funcs[qc8 268]?).bind fun fn=>fn.body.map fun c=>(qaL fn.ntmps c,cFn env fn fn268.body c))=some (true,fn268):=by kernel_rfl
theorem qwh:((Tryd.prog.funcs[qc8 274]?).bind fun fn=>fn.body.map fun c=>(qaL fn.ntmps c,cFn env fn fn274.body c))=some (true,fn274):=by kernel_rfl
theorem qwi:((Tryd.prog.funcs[qc8 275]?).bind fun fn=>fn.body.map fun c=>(qaL fn.ntmps c,cFn env fn fn275.body c))=some (true,fn275):=by kernel_rfl
theorem qwj:((Tryd.prog.funcs[qc8 285]?).bind fun fn=>fn.body.map fun c=>(qaL fn.ntmps c,cFn env fn fn285.body c))=some (true,fn285):=by kernel_rfl
theorem qwk:((Tryd.prog.funcs[qc8 287]?).bind fun fn=>fn.body.map fun c=>(qaL fn.ntmps c,cFn env fn fn287.body c))=some (true,fn287):=by kernel_rfl
theorem qwl:((Tryd.prog.funcs[qc8 288]?).bind fun fn=>fn.body.map fun c=>(qaL fn.ntmps c,cFn env fn fn288.body c))=some (true,fn288):=by kernel_rfl
theorem qwm:((Tryd.prog.funcs[qc8 289]?).bind fun fn=>fn.body.map fun c=>(qaL fn.ntmps c,cFn env fn fn289.body c))=some (true,fn289):=by kernel_rfl
theorem qwn:((Tryd.prog.funcs[qc8 295]?).bind fun fn=>fn.body.map fun c=>(qaL fn.ntmps c,cFn env fn fn295.body c))=some (true,fn295):=by kernel_rfl
theorem qxq:∀ f k,env.fm f=some k→FnOk env lib f k:=by
 intro f k hf
 have:=quX f k hf
 subst this
 by_cases h0:k=188
 ·subst h0
  have e:qc8 188=25:=by kernel_rfl
  rw[e]
  exact⟨.inl ⟨qiY,rfl,qq1⟩⟩
 by_cases h1:k=138
 ·subst h1
  have e:qc8 138=57:=by kernel_rfl
  rw[e]
  exact⟨.inl ⟨qnb,rfl,quF⟩⟩
 by_cases h2:k=286
 ·subst h2
  have e:qc8 286=14:=by kernel_rfl
  rw[e]
  exact⟨.inl ⟨qh4,rfl,qsA⟩⟩
 cases hx:qhB k with
 | none =>
   refine⟨.inl ⟨fun _ _=>none,?_,qsF env _⟩⟩
   show qeY k=_
   unfold qeY
   rw[hx]
   dsimp only
   rw[if_neg h0,if_neg h1,if_neg h2]
 | some fn =>
   have hs:lib.summ k=none:=by
    show qeY k=_
    unfold qeY
    rw[hx]
   have hx2:=hx
   unfold qhB at hx
   split at hx
   ·exact absurd ((show env.fm (qc8 132)=none by kernel_rfl).symm.trans hf) (by simp)
   ·exact absurd ((show env.fm (qc8 133)=none by kernel_rfl).symm.trans hf) (by simp)
   ·exact qaR hs rfl qvI
   ·exact absurd ((show env.fm (qc8 139)=none by kernel_rfl).symm.trans hf) (by simp)
   ·exact qaR hs rfl qvJ
   ·exact qaR hs rfl qvK
   ·exact qaR hs rfl qvL
   ·exact qaR hs rfl qvM
   ·exact qaR hs rfl qvN
   ·exact qaR hs rfl qvO
   ·exact qaR hs rfl qvP
   ·exact absurd ((show env.fm (qc8 162)=none by kernel_rfl).symm.trans hf) (by simp)
   ·exact absurd ((show env.fm (qc8 163)=none by kernel_rfl).symm.trans hf) (by simp)
   ·exact absurd ((show env.fm (qc8 164)=none by kernel_rfl).symm.trans hf) (by simp)
   ·exact qaR hs rfl qvQ
   ·exact qaR hs rfl qvR
   ·exact qaR hs rfl qvS
   ·exact qaR hs rfl qvT
   ·exact qaR hs rfl qvU
   ·exact qaR hs rfl qvV
   ·exact qaR hs rfl qvW
   ·exact absurd ((show env.fm (qc8 189)=none by kernel_rfl).symm.trans hf) (by simp)
   ·exact qaR hs rfl qvX
   ·exact qaR hs rfl qvY
   ·exact qaR hs rfl qvZ
   ·exact qaR hs rfl qv0
   ·exact qaR hs rfl qv1
   ·exact qaR hs rfl qv2
   ·exact qaR hs rfl qv3
   ·exact qaR hs rfl qv4
   ·exact qaR hs rfl qv5
   ·exact qaR hs rfl qv6
   ·exact qaR hs rfl qv7
   ·exact qaR hs rfl qv8
   ·exact qaR hs rfl qv9
   ·exact qaR hs rfl qwa
   ·exact qaR hs rfl qwb
   ·exact qaR hs rfl qwc
   ·exact qaR hs rfl qwd
   ·exact qaR hs rfl qwe
   ·exact qaR hs rfl qwf
   ·exact qaR hs rfl qwg
   ·exact qaR hs rfl qwh
   ·exact qaR hs rfl qwi
   ·exact qaR hs rfl qwj
   ·exact qaR hs rfl qwk
   ·exact qaR hs rfl qwl
   ·exact qaR hs rfl qwm
   ·exact qaR hs rfl qwn
   ·cases hx
theorem qt6:qbD env (call lib):=qvj quV lib qxq
theorem qg4:Plain lib:=by
 refine⟨fun _=>rfl,fun f hf=>?_⟩
 show qeY f=none
 have hf':qhB f≠none:=hf
 unfold qeY
 cases hx:qhB f with
 | none=>exact absurd hx hf'
 | some _=>rfl
theorem qr3 {f:Nat} {args:List AVal} {v:AVal} {s:List AVal→Heap→Option (ARes × Heap)} (hs:lib.summ f=some s) (h1:s args []=some (.val v,[])) (hw:wipeR v=v) (hd:qar v=true) (h:Heap) :
  pcall lib f args h=some (.val v,h):=by
 have:call lib f args []=some (.val v,[]):=qdL hs h1
 exact qcy this (by rw[qoL (by rw[hw];exact hd),hw]) hd h
theorem qvk (l:List Int) (h:Heap) (hl:l.length<2 ^ 30):qiY [.list (l.map qau) none] h=some (.val (qiZ l h.length),h++qf7 l):=by
 unfold qiY
 dsimp only
 rw[qoX,List.length_map]
 by_cases hz:l=[]
 ·subst hz
  simp[qiZ,qf7]
 ·have:l.map qau≠[]:=by simpa using hz
  rw[qi0 hz,qiX hz,if_pos (by simp[hl]),if_neg this]
theorem lib_mut:MPrims lib:=⟨fun l h hl=>qdL (s:=qiY) rfl (qvk l h hl)⟩
theorem qmA:CPrims lib qa1:=by
 refine⟨fun l h hl=>?_,fun l hne hl=>?_,fun h=>?_⟩
 ·have h1:=lib_mut.clone l [] hl
  refine qcy h1 ?_ (by rw[qbc];exact qac l) h
  rcases qeE l with ⟨h2,h3⟩ | ⟨h2,h3⟩
  ·rw[h2,h3,qgK h3]
   rfl
  ·rw[h2,h3]
   unfold qeF
   have hv:viewV ([]++[.vec (l.map qau) 1]) (.vec ([]:Heap).length l.length)=.list (l.map qau) none:=(HInts.view (H:=[.vec (l.map qau) 1]) (l:=l) (v:=.vec 0 l.length) (f:=[0]) (.inr ⟨qfF h3,0,rfl,rfl,rfl⟩) 1999)
   rw[if_neg (by simp[wipeR,wipe,wipeCell,qar]),hv]
   rfl
 ·refine qdL (s:=qnb) rfl ?_
  unfold qnb
  have hx:∃ m,l.length=m+1:=⟨l.length-1,by have:=List.length_pos_iff.2 hne;omega⟩
  dsimp only
  rw[qoX,List.length_map,qrA]
  simp[hl]
 ·exact qr3 (s:=qnb) rfl rfl rfl rfl h
theorem qrL (h:Heap):call lib 138 [.list [] none] h=some (.val (.tuple []),h):=qdL (s:=qnb) rfl rfl
theorem qt9:∀ (t:CTree),TFit t→qbs t<2 ^ 30→∀ h:Heap,pcall lib 159 [qaB t] h=some (.val (.list ((qcp t).map qal) none),h):=fun t hf hs h=>qub qg4 qmA rfl rfl t hf hs h
theorem qt7:CLib lib:=by
 constructor
 case plain=>exact qg4
 case prims=>exact qmA
 case grow=>exact fun e h hl hf hT hh=>qpR qg4 lib_mut rfl e h hl hf hT hh
 all_goals rfl
theorem qt8:CLib2 lib:=by
 constructor
 case toCLib=>exact qt7
 case list=>exact qt9
 all_goals rfl
end Go.Abs
