/-
  The seat's table of functions: each is the program's, as the kernel checks. Conditions: none.
-/
import Derived.Test.YtpchghpipgpkfaaDoorSeatPE
import Derived.Test.YtpchghpipgpkfaaDoorSeatPG
import Derived.Test.YtpchghpipgpkfaaDoorRAE
import Derived.Test.YtpchghpipgpkfaaDoorRM
import Derived.KernelRfl
set_option linter.unusedVariables false
set_option maxRecDepth 100000
set_option maxHeartbeats 4000000
namespace Go.Abs
open Go.Proofs Go.RowKit
def qhy:Nat→Option AFn
 | 132=>some fn132
 | 133=>some fn133
 | 134=>some fn134
 | 139=>some fn139
 | 151=>some fn151
 | 153=>some fn153
 | 154=>some fn154
 | 159=>some fm159
 | 160=>some fm160
 | 161=>some fn161
 | 162=>some fn162
 | 163=>some fn163
 | 164=>some fn164
 | 165=>some fn165
 | 167=>some fn167
 | 171=>some fn171
 | 177=>some fn177
 | 181=>some fn181
 | 183=>some fn183
 | 187=>some fm187
 | 189=>some fn189
 | 190=>some fn190
 | 191=>some fn191
 | 192=>some fn192
 | 193=>some fn193
 | 194=>some fn194
 | 195=>some fn195
 | 196=>some fn196
 | 207=>some fn207
 | 208=>some fn208
 | 232=>some fn232
 | 234=>some fn234
 | 235=>some fn235
 | 236=>some fn236
 | 256=>some fn256
 | 258=>some fn258
 | 259=>some fn259
 | 264=>some fn264
 | 265=>some fn265
 | 266=>some fn266
 | 283=>some fn283
 | 293=>some fn293
 | 294=>some fn294
 | 297=>some fn297
 | 298=>some fn298
 | 299=>some fn299
 | 300=>some fn300
 | 301=>some fn301
 | 302=>some fn302
 | 303=>some fn303
 | 304=>some fn304
 | 313=>some fn313
 | 314=>some fn314
 | 315=>some fn315
 | 316=>some fn316
 | 317=>some fn317
 | 318=>some fn318
 | 319=>some fn319
 | 320=>some fn320
 | 328=>some fn328
 | 332=>some fn332
 | 333=>some fn333
 | 334=>some fn334
 | 338=>some fn338
 | 339=>some fn339
 | 342=>some fn342
 | 343=>some fn343
 | 346=>some fn346
 | 347=>some fn347
 | _=>none
noncomputable def qeD (k:Nat):Option (List AVal→Heap→Option (ARes × Heap)) :=
 match qhy k with | some _=>none | none=>if k=188 then some qi2 else if k=138 then some qno else if k=345 then some growS else some fun _ _=>none
noncomputable def lib:Lib:={ pure:=fun _=>true,summ:=qeD,fns:=qhy }
theorem qv9:((Tryd.prog.funcs[qb2 132]?).bind fun fn=>fn.body.map fun c=>(qaG fn.ntmps c,cFn env fn fn132.body c))=some (true,fn132):=by kernel_rfl
theorem qwa:((Tryd.prog.funcs[qb2 133]?).bind fun fn=>fn.body.map fun c=>(qaG fn.ntmps c,cFn env fn fn133.body c))=some (true,fn133):=by kernel_rfl
theorem qwb:((Tryd.prog.funcs[qb2 134]?).bind fun fn=>fn.body.map fun c=>(qaG fn.ntmps c,cFn env fn fn134.body c))=some (true,fn134):=by kernel_rfl
theorem qwc:((Tryd.prog.funcs[qb2 139]?).bind fun fn=>fn.body.map fun c=>(qaG fn.ntmps c,cFn env fn fn139.body c))=some (true,fn139):=by kernel_rfl
theorem qwd:((Tryd.prog.funcs[qb2 151]?).bind fun fn=>fn.body.map fun c=>(qaG fn.ntmps c,cFn env fn fn151.body c))=some (true,fn151):=by kernel_rfl
theorem qwe:((Tryd.prog.funcs[qb2 153]?).bind fun fn=>fn.body.map fun c=>(qaG fn.ntmps c,cFn env fn fn153.body c))=some (true,fn153):=by kernel_rfl
theorem qwf:((Tryd.prog.funcs[qb2 154]?).bind fun fn=>fn.body.map fun c=>(qaG fn.ntmps c,cFn env fn fn154.body c))=some (true,fn154):=by kernel_rfl
theorem qwg:((Tryd.prog.funcs[qb2 159]?).bind fun fn=>fn.body.map fun c=>(qaG fn.ntmps c,cFn env fn fm159.body c))=some (true,fm159):=by kernel_rfl
theorem qwh:((Tryd.prog.funcs[qb2 160]?).bind fun fn=>fn.body.map fun c=>(qaG fn.ntmps c,cFn env fn fm160.body c))=some (true,fm160):=by kernel_rfl
theorem qwi:((Tryd.prog.funcs[qb2 161]?).bind fun fn=>fn.body.map fun c=>(qaG fn.ntmps c,cFn env fn fn161.body c))=some (true,fn161):=by kernel_rfl
theorem qwj:((Tryd.prog.funcs[qb2 162]?).bind fun fn=>fn.body.map fun c=>(qaG fn.ntmps c,cFn env fn fn162.body c))=some (true,fn162):=by kernel_rfl
theorem qwk:((Tryd.prog.funcs[qb2 163]?).bind fun fn=>fn.body.map fun c=>(qaG fn.ntmps c,cFn env fn fn163.body c))=some (true,fn163):=by kernel_rfl
theorem qwl:((Tryd.prog.funcs[qb2 164]?).bind fun fn=>fn.body.map fun c=>(qaG fn.ntmps c,cFn env fn fn164.body c))=some (true,fn164):=by kernel_rfl
theorem qwm:((Tryd.prog.funcs[qb2 165]?).bind fun fn=>fn.body.map fun c=>(qaG fn.ntmps c,cFn env fn fn165.body c))=some (true,fn165):=by kernel_rfl
theorem qwn:((Tryd.prog.funcs[qb2 167]?).bind fun fn=>fn.body.map fun c=>(qaG fn.ntmps c,cFn env fn fn167.body c))=some (true,fn167):=by kernel_rfl
theorem qwo:((Tryd.prog.funcs[qb2 171]?).bind fun fn=>fn.body.map fun c=>(qaG fn.ntmps c,cFn env fn fn171.body c))=some (true,fn171):=by kernel_rfl
theorem qwp:((Tryd.prog.funcs[qb2 177]?).bind fun fn=>fn.body.map fun c=>(qaG fn.ntmps c,cFn env fn fn177.body c))=some (true,fn177):=by kernel_rfl
theorem qwq:((Tryd.prog.funcs[qb2 181]?).bind fun fn=>fn.body.map fun c=>(qaG fn.ntmps c,cFn env fn fn181.body c))=some (true,fn181):=by kernel_rfl
theorem qwr:((Tryd.prog.funcs[qb2 183]?).bind fun fn=>fn.body.map fun c=>(qaG fn.ntmps c,cFn env fn fn183.body c))=some (true,fn183):=by kernel_rfl
theorem qws:((Tryd.prog.funcs[qb2 187]?).bind fun fn=>fn.body.map fun c=>(qaG fn.ntmps c,cFn env fn fm187.body c))=some (true,fm187):=by kernel_rfl
theorem qwt:((Tryd.prog.funcs[qb2 189]?).bind fun fn=>fn.body.map fun c=>(qaG fn.ntmps c,cFn env fn fn189.body c))=some (true,fn189):=by kernel_rfl
theorem qwu:((Tryd.prog.funcs[qb2 190]?).bind fun fn=>fn.body.map fun c=>(qaG fn.ntmps c,cFn env fn fn190.body c))=some (true,fn190):=by kernel_rfl
theorem qwv:((Tryd.prog.funcs[qb2 191]?).bind fun fn=>fn.body.map fun c=>(qaG fn.ntmps c,cFn env fn fn191.body c))=some (true,fn191):=by kernel_rfl
theorem qww:((Tryd.prog.funcs[qb2 192]?).bind fun fn=>fn.body.map fun c=>(qaG fn.ntmps c,cFn env fn fn192.body c))=some (true,fn192):=by kernel_rfl
theorem qwx:((Tryd.prog.funcs[qb2 193]?).bind fun fn=>fn.body.map fun c=>(qaG fn.ntmps c,cFn env fn fn193.body c))=some (true,fn193):=by kernel_rfl
theorem qwy:((Tryd.prog.funcs[qb2 194]?).bind fun fn=>fn.body.map fun c=>(qaG fn.ntmps c,cFn env fn fn194.body c))=some (true,fn194):=by kernel_rfl
theorem qwz:((Tryd.prog.funcs[qb2 195]?).bind fun fn=>fn.body.map fun c=>(qaG fn.ntmps c,cFn env fn fn195.body c))=some (true,fn195):=by kernel_rfl
theorem qwA:((Tryd.prog.funcs[qb2 196]?).bind fun fn=>fn.body.map fun c=>(qaG fn.ntmps c,cFn env fn fn196.body c))=some (true,fn196):=by kernel_rfl
theorem qwB:((Tryd.prog.funcs[qb2 207]?).bind fun fn=>fn.body.map fun c=>(qaG fn.ntmps c,cFn env fn fn207.body c))=some (true,fn207):=by kernel_rfl
theorem qwC:((Tryd.prog.funcs[qb2 208]?).bind fun fn=>fn.body.map fun c=>(qaG fn.ntmps c,cFn env fn fn208.body c))=some (true,fn208):=by kernel_rfl
theorem qwD:((Tryd.prog.funcs[qb2 232]?).bind fun fn=>fn.body.map fun c=>(qaG fn.ntmps c,cFn env fn fn232.body c))=some (true,fn232):=by kernel_rfl
theorem qwE:((Tryd.prog.funcs[qb2 234]?).bind fun fn=>fn.body.map fun c=>(qaG fn.ntmps c,cFn env fn fn234.body c))=some (true,fn234):=by kernel_rfl
theorem qwF:((Tryd.prog.funcs[qb2 235]?).bind fun fn=>fn.body.map fun c=>(qaG fn.ntmps c,cFn env fn fn235.body c))=some (true,fn235):=by kernel_rfl
theorem qwG:((Tryd.prog.funcs[qb2 236]?).bind fun fn=>fn.body.map fun c=>(qaG fn.ntmps c,cFn env fn fn236.body c))=some (true,fn236):=by kernel_rfl
theorem qwH:((Tryd.prog.funcs[qb2 256]?).bind fun fn=>fn.body.map fun c=>(qaG fn.ntmps c,cFn env fn fn256.body c))=some (true,fn256):=by kernel_rfl
theorem qwI:((Tryd.prog.funcs[qb2 258]?).bind fun fn=>fn.body.map fun c=>(qaG fn.ntmps c,cFn env fn fn258.body c))=some (true,fn258):=by kernel_rfl
theorem qwJ:((Tryd.prog.funcs[qb2 259]?).bind fun fn=>fn.body.map fun c=>(qaG fn.ntmps c,cFn env fn fn259.body c))=some (true,fn259):=by kernel_rfl
theorem qwK:((Tryd.prog.funcs[qb2 264]?).bind fun fn=>fn.body.map fun c=>(qaG fn.ntmps c,cFn env fn fn264.body c))=some (true,fn264):=by kernel_rfl
theorem qwL:((Tryd.prog.funcs[qb2 265]?).bind fun fn=>fn.body.map fun c=>(qaG fn.ntmps c,cFn env fn fn265.body c))=some (true,fn265):=by kernel_rfl
theorem qwM:((Tryd.prog.funcs[qb2 266]?).bind fun fn=>fn.body.map fun c=>(qaG fn.ntmps c,cFn env fn fn266.body c))=some (true,fn266):=by kernel_rfl
theorem qwN:((Tryd.prog.funcs[qb2 283]?).bind fun fn=>fn.body.map fun c=>(qaG fn.ntmps c,cFn env fn fn283.body c))=some (true,fn283):=by kernel_rfl
theorem qwO:((Tryd.prog.funcs[qb2 293]?).bind fun fn=>fn.body.map fun c=>(qaG fn.ntmps c,cFn env fn fn293.body c))=some (true,fn293):=by kernel_rfl
theorem qwP:((Tryd.prog.funcs[qb2 294]?).bind fun fn=>fn.body.map fun c=>(qaG fn.ntmps c,cFn env fn fn294.body c))=some (true,fn294):=by kernel_rfl
theorem qwQ:((Tryd.prog.funcs[qb2 297]?).bind fun fn=>fn.body.map fun c=>(qaG fn.ntmps c,cFn env fn fn297.body c))=some (true,fn297):=by kernel_rfl
theorem qwR:((Tryd.prog.funcs[qb2 298]?).bind fun fn=>fn.body.map fun c=>(qaG fn.ntmps c,cFn env fn fn298.body c))=some (true,fn298):=by kernel_rfl
theorem qwS:((Tryd.prog.funcs[qb2 299]?).bind fun fn=>fn.body.map fun c=>(qaG fn.ntmps c,cFn env fn fn299.body c))=some (true,fn299):=by kernel_rfl
theorem qwT:((Tryd.prog.funcs[qb2 300]?).bind fun fn=>fn.body.map fun c=>(qaG fn.ntmps c,cFn env fn fn300.body c))=some (true,fn300):=by kernel_rfl
theorem qwU:((Tryd.prog.funcs[qb2 301]?).bind fun fn=>fn.body.map fun c=>(qaG fn.ntmps c,cFn env fn fn301.body c))=some (true,fn301):=by kernel_rfl
theorem qwV:((Tryd.prog.funcs[qb2 302]?).bind fun fn=>fn.body.map fun c=>(qaG fn.ntmps c,cFn env fn fn302.body c))=some (true,fn302):=by kernel_rfl
theorem qwW:((Tryd.prog.funcs[qb2 303]?).bind fun fn=>fn.body.map fun c=>(qaG fn.ntmps c,cFn env fn fn303.body c))=some (true,fn303):=by kernel_rfl
theorem qwX:((Tryd.prog.funcs[qb2 304]?).bind fun fn=>fn.body.map fun c=>(qaG fn.ntmps c,cFn env fn fn304.body c))=some (true,fn304):=by kernel_rfl
theorem qwY:((Tryd.prog.funcs[qb2 313]?).bind fun fn=>fn.body.map fun c=>(qaG fn.ntmps c,cFn env fn fn313.body c))=some (true,fn313):=by kernel_rfl
theorem qwZ:((Tryd.prog.funcs[qb2 314]?).bind fun fn=>fn.body.map fun c=>(qaG fn.ntmps c,cFn env fn fn314.body c))=some (true,fn314):=by kernel_rfl
theorem qw0:((Tryd.prog.funcs[qb2 315]?).bind fun fn=>fn.body.map fun c=>(qaG fn.ntmps c,cFn env fn fn315.body c))=some (true,fn315):=by kernel_rfl
theorem qw1:((Tryd.prog.funcs[qb2 316]?).bind fun fn=>fn.body.map fun c=>(qaG fn.ntmps c,cFn env fn fn316.body c))=some (true,fn316):=by kernel_rfl
theorem qw2:((Tryd.prog.funcs[qb2 317]?).bind fun fn=>fn.body.map fun c=>(qaG fn.ntmps c,cFn env fn fn317.body c))=some (true,fn317):=by kernel_rfl
theorem qw3:((Tryd.prog.funcs[qb2 318]?).bind fun fn=>fn.body.map fun c=>(qaG fn.ntmps c,cFn env fn fn318.body c))=some (true,fn318):=by kernel_rfl
theorem qw4:((Tryd.prog.funcs[qb2 319]?).bind fun fn=>fn.body.map fun c=>(qaG fn.ntmps c,cFn env fn fn319.body c))=some (true,fn319):=by kernel_rfl
theorem qw5:((Tryd.prog.funcs[qb2 320]?).bind fun fn=>fn.body.map fun c=>(qaG fn.ntmps c,cFn env fn fn320.body c))=some (true,fn320):=by kernel_rfl
theorem qw6:((Tryd.prog.funcs[qb2 328]?).bind fun fn=>fn.body.map fun c=>(qaG fn.ntmps c,cFn env fn fn328.body c))=some (true,fn328):=by kernel_rfl
theorem qw7:((Tryd.prog.funcs[qb2 332]?).bind fun fn=>fn.body.map fun c=>(qaG fn.ntmps c,cFn env fn fn332.body c))=some (true,fn332):=by kernel_rfl
theorem qw8:((Tryd.prog.funcs[qb2 333]?).bind fun fn=>fn.body.map fun c=>(qaG fn.ntmps c,cFn env fn fn333.body c))=some (true,fn333):=by kernel_rfl
theorem qw9:((Tryd.prog.funcs[qb2 334]?).bind fun fn=>fn.body.map fun c=>(qaG fn.ntmps c,cFn env fn fn334.body c))=some (true,fn334):=by kernel_rfl
theorem qxa:((Tryd.prog.funcs[qb2 338]?).bind fun fn=>fn.body.map fun c=>(qaG fn.ntmps c,cFn env fn fn338.body c))=some (true,fn338):=by kernel_rfl
theorem qxb:((Tryd.prog.funcs[qb2 339]?).bind fun fn=>fn.body.map fun c=>(qaG fn.ntmps c,cFn env fn fn339.body c))=some (true,fn339):=by kernel_rfl
theorem qxc:((Tryd.prog.funcs[qb2 342]?).bind fun fn=>fn.body.map fun c=>(qaG fn.ntmps c,cFn env fn fn342.body c))=some (true,fn342):=by kernel_rfl
theorem qxd:((Tryd.prog.funcs[qb2 343]?).bind fun fn=>fn.body.map fun c=>(qaG fn.ntmps c,cFn env fn fn343.body c))=some (true,fn343):=by kernel_rfl
theorem qxe:((Tryd.prog.funcs[qb2 346]?).bind fun fn=>fn.body.map fun c=>(qaG fn.ntmps c,cFn env fn fn346.body c))=some (true,fn346):=by kernel_rfl
theorem qxf:((Tryd.prog.funcs[qb2 347]?).bind fun fn=>fn.body.map fun c=>(qaG fn.ntmps c,cFn env fn fn347.body c))=some (true,fn347):=by kernel_rfl
theorem qyg:∀ f k,env.fm f=some k→FnOk env lib f k:=by
 intro f k hf
 have:=qx5 f k hf
 subst this
 by_cases h0:k=188
 ·subst h0
  have e:qb2 188=58:=by kernel_rfl
  rw[e]
  exact⟨.inl ⟨qi2,rfl,qrh⟩⟩
 by_cases h1:k=138
 ·subst h1
  have e:qb2 138=98:=by kernel_rfl
  rw[e]
  exact⟨.inl ⟨qno,rfl,qu1⟩⟩
 by_cases h2:k=345
 ·subst h2
  have e:qb2 345=48:=by kernel_rfl
  rw[e]
  exact⟨.inl ⟨growS,rfl,qud⟩⟩
 cases hx:qhy k with
 | none =>
   refine⟨.inl ⟨fun _ _=>none,?_,qsZ env _⟩⟩
   show qeD k=_
   unfold qeD
   rw[hx]
   dsimp only
   rw[if_neg h0,if_neg h1,if_neg h2]
 | some fn =>
   have hs:lib.summ k=none:=by
    show qeD k=_
    unfold qeD
    rw[hx]
   have hx2:=hx
   unfold qhy at hx
   split at hx
   ·exact qaF hs rfl qv9
   ·exact qaF hs rfl qwa
   ·exact qaF hs rfl qwb
   ·exact qaF hs rfl qwc
   ·exact qaF hs rfl qwd
   ·exact qaF hs rfl qwe
   ·exact qaF hs rfl qwf
   ·exact qaF hs rfl qwg
   ·exact qaF hs rfl qwh
   ·exact qaF hs rfl qwi
   ·exact qaF hs rfl qwj
   ·exact qaF hs rfl qwk
   ·exact qaF hs rfl qwl
   ·exact qaF hs rfl qwm
   ·exact qaF hs rfl qwn
   ·exact qaF hs rfl qwo
   ·exact qaF hs rfl qwp
   ·exact qaF hs rfl qwq
   ·exact qaF hs rfl qwr
   ·exact qaF hs rfl qws
   ·exact qaF hs rfl qwt
   ·exact qaF hs rfl qwu
   ·exact qaF hs rfl qwv
   ·exact qaF hs rfl qww
   ·exact qaF hs rfl qwx
   ·exact qaF hs rfl qwy
   ·exact qaF hs rfl qwz
   ·exact qaF hs rfl qwA
   ·exact qaF hs rfl qwB
   ·exact qaF hs rfl qwC
   ·exact qaF hs rfl qwD
   ·exact qaF hs rfl qwE
   ·exact qaF hs rfl qwF
   ·exact qaF hs rfl qwG
   ·exact qaF hs rfl qwH
   ·exact qaF hs rfl qwI
   ·exact qaF hs rfl qwJ
   ·exact qaF hs rfl qwK
   ·exact qaF hs rfl qwL
   ·exact qaF hs rfl qwM
   ·exact qaF hs rfl qwN
   ·exact qaF hs rfl qwO
   ·exact qaF hs rfl qwP
   ·exact qaF hs rfl qwQ
   ·exact qaF hs rfl qwR
   ·exact qaF hs rfl qwS
   ·exact qaF hs rfl qwT
   ·exact qaF hs rfl qwU
   ·exact qaF hs rfl qwV
   ·exact qaF hs rfl qwW
   ·exact qaF hs rfl qwX
   ·exact qaF hs rfl qwY
   ·exact qaF hs rfl qwZ
   ·exact qaF hs rfl qw0
   ·exact qaF hs rfl qw1
   ·exact qaF hs rfl qw2
   ·exact qaF hs rfl qw3
   ·exact qaF hs rfl qw4
   ·exact qaF hs rfl qw5
   ·exact qaF hs rfl qw6
   ·exact qaF hs rfl qw7
   ·exact qaF hs rfl qw8
   ·exact qaF hs rfl qw9
   ·exact qaF hs rfl qxa
   ·exact qaF hs rfl qxb
   ·exact qaF hs rfl qxc
   ·exact qaF hs rfl qxd
   ·exact qaF hs rfl qxe
   ·exact qaF hs rfl qxf
   ·cases hx
theorem qut:qbz env (call lib):=qvL qvi lib qyg
theorem qg5:Plain lib:=by
 refine⟨fun _=>rfl,fun f hf=>?_⟩
 show qeD f=none
 have hf':qhy f≠none:=hf
 unfold qeD
 cases hx:qhy f with
 | none=>exact absurd hx hf'
 | some _=>rfl
theorem qsu {f:Nat} {args:List AVal} {v:AVal} {s:List AVal→Heap→Option (ARes × Heap)} (hs:lib.summ f=some s) (h1:s args []=some (.val v,[])) (hw:wipeR v=v) (hd:qay v=true) (h:Heap) :
  pcall lib f args h=some (.val v,h):=by
 have:call lib f args []=some (.val v,[]):=qeY hs h1
 exact qcf this (by rw[qo5 (by rw[hw];exact hd),hw]) hd h
theorem qvM (l:List Int) (h:Heap) (hl:l.length<2 ^ 30):qi2 [.list (l.map qaw) none] h=some (.val (qi3 l h.length),h++qf0 l):=by
 unfold qi2
 dsimp only
 rw[qpf,List.length_map]
 by_cases hz:l=[]
 ·subst hz
  simp[qi3,qf0]
 ·have:l.map qaw≠[]:=by simpa using hz
  rw[qi4 hz,qi1 hz,if_pos (by simp[hl]),if_neg this]
theorem lib_mut:MPrims lib:=⟨fun l h hl=>qeY (s:=qi2) rfl (qvM l h hl)⟩
theorem qmP:CPrims lib qa1:=by
 refine⟨fun l h hl=>?_,fun l hne hl=>?_,fun h=>?_⟩
 ·have h1:=lib_mut.clone l [] hl
  refine qcf h1 ?_ (by rw[qaY];exact qai l) h
  rcases qen l with ⟨h2,h3⟩ | ⟨h2,h3⟩
  ·rw[h2,h3,qgF h3]
   rfl
  ·rw[h2,h3]
   unfold qeP
   have hv:viewV ([]++[.vec (l.map qaw) 1]) (.vec ([]:Heap).length l.length)=.list (l.map qaw) none:=(HInts.view (H:=[.vec (l.map qaw) 1]) (l:=l) (v:=.vec 0 l.length) (f:=[0]) (.inr ⟨qfs h3,0,rfl,rfl,rfl⟩) 1999)
   rw[if_neg (by simp[wipeR,wipe,wipeCell,qay]),hv]
   rfl
 ·refine qeY (s:=qno) rfl ?_
  unfold qno
  have hx:∃ m,l.length=m+1:=⟨l.length-1,by have:=List.length_pos_iff.2 hne;omega⟩
  dsimp only
  rw[qpf,List.length_map,qrT]
  simp[hl]
 ·exact qsu (s:=qno) rfl rfl rfl rfl h
theorem qr8 (h:Heap):call lib 138 [.list [] none] h=some (.val (.tuple []),h):=qeY (s:=qno) rfl rfl
theorem qpr:∀ (t:CTree),TFit t→qaM t<2 ^ 30→∀ h:Heap,pcall lib 159 [qaB t] h=some (.val (.list ((qa6 t).map qal) none),h):=fun t hf hs h=>quv qg5 qmP rfl rfl t hf hs h
theorem qpq:CLib lib:=by
 constructor
 case plain=>exact qg5
 case prims=>exact qmP
 case grow=>exact fun e h hl hf hT hh=>qqe qg5 lib_mut rfl e h hl hf hT hh
 all_goals rfl
theorem qvn:RLib lib:=by
 constructor
 case toCLib=>exact qpq
 case list=>exact qpr
 case mprims=>exact lib_mut
 all_goals rfl
theorem quu:CLib2 lib:=by
 constructor
 case toCLib=>exact qpq
 case list=>exact qpr
 all_goals rfl
end Go.Abs
