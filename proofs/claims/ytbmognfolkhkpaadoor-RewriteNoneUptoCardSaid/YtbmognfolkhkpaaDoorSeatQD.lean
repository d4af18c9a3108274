/-
  The seat's table of functions: each is the program's, as the kernel checks. Conditions: none.
-/
import Derived.Test.YtbmognfolkhkpaaDoorSeatPD
import Derived.Test.YtbmognfolkhkpaaDoorRM
import Derived.KernelRfl
set_option linter.unusedVariables false
set_option maxRecDepth 100000
set_option maxHeartbeats 4000000
namespace Go.Abs
open Go.Proofs Go.RowKit
def qij : Nat → Option AFn
 | 132 => some fn132
 | 134 => some fn134
 | 151 => some fn151
 | 153 => some fn153
 | 154 => some fn154
 | 159 => some fm159
 | 160 => some fm160
 | 161 => some fn161
 | 162 => some fn162
 | 163 => some fn163
 | 165 => some fn165
 | 167 => some fn167
 | 171 => some fn171
 | 177 => some fn177
 | 181 => some fn181
 | 183 => some fn183
 | 187 => some fm187
 | 190 => some fn190
 | 191 => some fn191
 | 192 => some fn192
 | 193 => some fn193
 | 194 => some fn194
 | 195 => some fn195
 | 196 => some fn196
 | 207 => some fn207
 | 208 => some fn208
 | 232 => some fn232
 | 234 => some fn234
 | 235 => some fn235
 | 236 => some fn236
 | 256 => some fn256
 | 258 => some fn258
 | 259 => some fn259
 | 264 => some fn264
 | 265 => some fn265
 | 266 => some fn266
 | 270 => some fn270
 | 282 => some fn282
 | 283 => some fn283
 | 293 => some fn293
 | 294 => some fn294
 | 297 => some fn297
 | 298 => some fn298
 | 299 => some fn299
 | 300 => some fn300
 | 301 => some fn301
 | 302 => some fn302
 | 303 => some fn303
 | 304 => some fn304
 | 313 => some fn313
 | 314 => some fn314
 | 315 => some fn315
 | 316 => some fn316
 | 317 => some fn317
 | 318 => some fn318
 | 319 => some fn319
 | 320 => some fn320
 | _ => none
noncomputable def qfs (k : Nat) : Option (List AVal → Heap → Option (ARes × Heap)) :=
 match qij k with | some _ => none | none => if k = 188 then some qjB else if k = 138 then some qnA else some fun _ _ => none
noncomputable def lib : Lib := { pure := fun _ => true,summ := qfs,fns := qij }
theorem quV : ((Tryd.prog.funcs[qds 132]?).bind fun fn => fn.body.map fun c => (qbk fn.ntmps c,cFn env fn fn132.body c)) = some (true,fn132) := by kernel_rfl
theorem quW : ((Tryd.prog.funcs[qds 134]?).bind fun fn => fn.body.map fun c => (qbk fn.ntmps c,cFn env fn fn134.body c)) = some (true,fn134) := by kernel_rfl
theorem quX : ((Tryd.prog.funcs[qds 151]?).bind fun fn => fn.body.map fun c => (qbk fn.ntmps c,cFn env fn fn151.body c)) = some (true,fn151) := by kernel_rfl
theorem quY : ((Tryd.prog.funcs[qds 153]?).bind fun fn => fn.body.map fun c => (qbk fn.ntmps c,cFn env fn fn153.body c)) = some (true,fn153) := by kernel_rfl
theorem quZ : ((Tryd.prog.funcs[qds 154]?).bind fun fn => fn.body.map fun c => (qbk fn.ntmps c,cFn env fn fn154.body c)) = some (true,fn154) := by kernel_rfl
theorem qu0 : ((Tryd.prog.funcs[qds 159]?).bind fun fn => fn.body.map fun c => (qbk fn.ntmps c,cFn env fn fm159.body c)) = some (true,fm159) := by kernel_rfl
theorem qu1 : ((Tryd.prog.funcs[qds 160]?).bind fun fn => fn.body.map fun c => (qbk fn.ntmps c,cFn env fn fm160.body c)) = some (true,fm160) := by kernel_rfl
theorem qu2 : ((Tryd.prog.funcs[qds 161]?).bind fun fn => fn.body.map fun c => (qbk fn.ntmps c,cFn env fn fn161.body c)) = some (true,fn161) := by kernel_rfl
theorem qu3 : ((Tryd.prog.funcs[qds 162]?).bind fun fn => fn.body.map fun c => (qbk fn.ntmps c,cFn env fn fn162.body c)) = some (true,fn162) := by kernel_rfl
theorem qu4 : ((Tryd.prog.funcs[qds 163]?).bind fun fn => fn.body.map fun c => (qbk fn.ntmps c,cFn env fn fn163.body c)) = some (true,fn163) := by kernel_rfl
theorem qu5 : ((Tryd.prog.funcs[qds 165]?).bind fun fn => fn.body.map fun c => (qbk fn.ntmps c,cFn env fn fn165.body c)) = some (true,fn165) := by kernel_rfl
theorem qu6 : ((Tryd.prog.funcs[qds 167]?).bind fun fn => fn.body.map fun c => (qbk fn.ntmps c,cFn env fn fn167.body c)) = some (true,fn167) := by kernel_rfl
theorem qu7 : ((Tryd.prog.funcs[qds 171]?).bind fun fn => fn.body.map fun c => (qbk fn.ntmps c,cFn env fn fn171.body c)) = some (true,fn171) := by kernel_rfl
theorem qu8 : ((Tryd.prog.funcs[qds 177]?).bind fun fn => fn.body.map fun c => (qbk fn.ntmps c,cFn env fn fn177.body c)) = some (true,fn177) := by kernel_rfl
theorem qu9 : ((Tryd.prog.funcs[qds 181]?).bind fun fn => fn.body.map fun c => (qbk fn.ntmps c,cFn env fn fn181.body c)) = some (true,fn181) := by kernel_rfl
theorem qva : ((Tryd.prog.funcs[qds 183]?).bind fun fn => fn.body.map fun c => (qbk fn.ntmps c,cFn env fn fn183.body c)) = some (true,fn183) := by kernel_rfl
theorem qvb : ((Tryd.prog.funcs[qds 187]?).bind fun fn => fn.body.map fun c => (qbk fn.ntmps c,cFn env fn fm187.body c)) = some (true,fm187) := by kernel_rfl
theorem qvc : ((Tryd.prog.funcs[qds 190]?).bind fun fn => fn.body.map fun c => (qbk fn.ntmps c,cFn env fn fn190.body c)) = some (true,fn190) := by kernel_rfl
theorem qvd : ((Tryd.prog.funcs[qds 191]?).bind fun fn => fn.body.map fun c => (qbk fn.ntmps c,cFn env fn fn191.body c)) = some (true,fn191) := by kernel_rfl
theorem qve : ((Tryd.prog.funcs[qds 192]?).bind fun fn => fn.body.map fun c => (qbk fn.ntmps c,cFn env fn fn192.body c)) = some (true,fn192) := by kernel_rfl
theorem qvf : ((Tryd.prog.funcs[qds 193]?).bind fun fn => fn.body.map fun c => (qbk fn.ntmps c,cFn env fn fn193.body c)) = some (true,fn193) := by kernel_rfl
theorem qvg : ((Tryd.prog.funcs[qds 194]?).bind fun fn => fn.body.map fun c => (qbk fn.ntmps c,cFn env fn fn194.body c)) = some (true,fn194) := by kernel_rfl
theorem qvh : ((Tryd.prog.funcs[qds 195]?).bind fun fn => fn.body.map fun c => (qbk fn.ntmps c,cFn env fn fn195.body c)) = some (true,fn195) := by kernel_rfl
theorem qvi : ((Tryd.prog.funcs[qds 196]?).bind fun fn => fn.body.map fun c => (qbk fn.ntmps c,cFn env fn fn196.body c)) = some (true,fn196) := by kernel_rfl
theorem qvj : ((Tryd.prog.funcs[qds 207]?).bind fun fn => fn.body.map fun c => (qbk fn.ntmps c,cFn env fn fn207.body c)) = some (true,fn207) := by kernel_rfl
theorem qvk : ((Tryd.prog.funcs[qds 208]?).bind fun fn => fn.body.map fun c => (qbk fn.ntmps c,cFn env fn fn208.body c)) = some (true,fn208) := by kernel_rfl
theorem qvl : ((Tryd.prog.funcs[qds 232]?).bind fun fn => fn.body.map fun c => (qbk fn.ntmps c,cFn env fn fn232.body c)) = some (true,fn232) := by kernel_rfl
theorem qvm : ((Tryd.prog.funcs[qds 234]?).bind fun fn => fn.body.map fun c => (qbk fn.ntmps c,cFn env fn fn234.body c)) = some (true,fn234) := by kernel_rfl
theorem qvn : ((Tryd.prog.funcs[qds 235]?).bind fun fn => fn.body.map fun c => (qbk fn.ntmps c,cFn env fn fn235.body c)) = some (true,fn235) := by kernel_rfl
theorem qvo : ((Tryd.prog.funcs[qds 236]?).bind fun fn => fn.body.map fun c => (qbk fn.ntmps c,cFn env fn fn236.body c)) = some (true,fn236) := by kernel_rfl
theorem qvp : ((Tryd.prog.funcs[qds 256]?).bind fun fn => fn.body.map fun c => (qbk fn.ntmps c,cFn env fn fn256.body c)) = some (true,fn256) := by kernel_rfl
theorem qvq : ((Tryd.prog.funcs[qds 258]?).bind fun fn => fn.body.map fun c => (qbk fn.ntmps c,cFn env fn fn258.body c)) = some (true,fn258) := by kernel_rfl
theorem qvr : ((Tryd.prog.funcs[qds 259]?).bind fun fn => fn.body.map fun c => (qbk fn.ntmps c,cFn env fn fn259.body c)) = some (true,fn259) := by kernel_rfl
theorem qvs : ((Tryd.prog.funcs[qds 264]?).bind fun fn => fn.body.map fun c => (qbk fn.ntmps c,cFn env fn fn264.body c)) = some (true,fn264) := by kernel_rfl
theorem qvt : ((Tryd.prog.funcs[qds 265]?).bind fun fn => fn.body.map fun c => (qbk fn.ntmps c,cFn env fn fn265.body c)) = some (true,fn265) := by kernel_rfl
theorem qvu : ((Tryd.prog.funcs[qds 266]?).bind fun fn => fn.body.map fun c => (qbk fn.ntmps c,cFn env fn fn266.body c)) = some (true,fn266) := by kernel_rfl
theorem qvv : ((Tryd.prog.funcs[qds 270]?).bind fun fn => fn.body.map fun c => (qbk fn.ntmps c,cFn env fn fn270.body c)) = some (true,fn270) := by kernel_rfl
theorem qvw : ((Tryd.prog.funcs[qds 282]?).bind fun fn => fn.body.map fun c => (qbk fn.ntmps c,cFn env fn fn282.body c)) = some (true,fn282) := by kernel_rfl
theorem qvx : ((Tryd.prog.funcs[qds 283]?).bind fun fn => fn.body.map fun c => (qbk fn.ntmps c,cFn env fn fn283.body c)) = some (true,fn283) := by kernel_rfl
theorem qvy : ((Tryd.prog.funcs[qds 293]?).bind fun fn => fn.body.map fun c => (qbk fn.ntmps c,cFn env fn fn293.body c)) = some (true,fn293) := by kernel_rfl
theorem qvz : ((Tryd.prog.funcs[qds 294]?).bind fun fn => fn.body.map fun c => (qbk fn.ntmps c,cFn env fn fn294.body c)) = some (true,fn294) := by kernel_rfl
theorem qvA : ((Tryd.prog.funcs[qds 297]?).bind fun fn => fn.body.map fun c => (qbk fn.ntmps c,cFn env fn fn297.body c)) = some (true,fn297) := by kernel_rfl
theorem qvB : ((Tryd.prog.funcs[qds 298]?).bind fun fn => fn.body.map fun c => (qbk fn.ntmps c,cFn env fn fn298.body c)) = some (true,fn298) := by kernel_rfl
theorem qvC : ((Tryd.prog.funcs[qds 299]?).bind fun fn => fn.body.map fun c => (qbk fn.ntmps c,cFn env fn fn299.body c)) = some (true,fn299) := by kernel_rfl
theorem qvD : ((Tryd.prog.funcs[qds 300]?).bind fun fn => fn.body.map fun c => (qbk fn.ntmps c,cFn env fn fn300.body c)) = some (true,fn300) := by kernel_rfl
theorem qvE : ((Tryd.prog.funcs[qds 301]?).bind fun fn => fn.body.map fun c => (qbk fn.ntmps c,cFn env fn fn301.body c)) = some (true,fn301) := by kernel_rfl
theorem qvF : ((Tryd.prog.funcs[qds 302]?).bind fun fn => fn.body.map fun c => (qbk fn.ntmps c,cFn env fn fn302.body c)) = some (true,fn302) := by kernel_rfl
theorem qvG : ((Tryd.prog.funcs[qds 303]?).bind fun fn => fn.body.map fun c => (qbk fn.ntmps c,cFn env fn fn303.body c)) = some (true,fn303) := by kernel_rfl
theorem qvH : ((Tryd.prog.funcs[qds 304]?).bind fun fn => fn.body.map fun c => (qbk fn.ntmps c,cFn env fn fn304.body c)) = some (true,fn304) := by kernel_rfl
theorem qvI : ((Tryd.prog.funcs[qds 313]?).bind fun fn => fn.body.map fun c => (qbk fn.ntmps c,cFn env fn fn313.body c)) = some (true,fn313) := by kernel_rfl
theorem qvJ : ((Tryd.prog.funcs[qds 314]?).bind fun fn => fn.body.map fun c => (qbk fn.ntmps c,cFn env fn fn314.body c)) = some (true,fn314) := by kernel_rfl
theorem qvK : ((Tryd.prog.funcs[qds 315]?).bind fun fn => fn.body.map fun c => (qbk fn.ntmps c,cFn env fn fn315.body c)) = some (true,fn315) := by kernel_rfl
theorem qvL : ((Tryd.prog.funcs[qds 316]?).bind fun fn => fn.body.map fun c => (qbk fn.ntmps c,cFn env fn fn316.body c)) = some (true,fn316) := by kernel_rfl
theorem qvM : ((Tryd.prog.funcs[qds 317]?).bind fun fn => fn.body.map fun c => (qbk fn.ntmps c,cFn env fn fn317.body c)) = some (true,fn317) := by kernel_rfl
theorem qvN : ((Tryd.prog.funcs[qds 318]?).bind fun fn => fn.body.map fun c => (qbk fn.ntmps c,cFn env fn fn318.body c)) = some (true,fn318) := by kernel_rfl
theorem qvO : ((Tryd.prog.funcs[qds 319]?).bind fun fn => fn.body.map fun c => (qbk fn.ntmps c,cFn env fn fn319.body c)) = some (true,fn319) := by kernel_rfl
theorem qvP : ((Tryd.prog.funcs[qds 320]?).bind fun fn => fn.body.map fun c => (qbk fn.ntmps c,cFn env fn fn320.body c)) = some (true,fn320) := by kernel_rfl
theorem qwG : ∀ f k,env.fm f = some k → FnOk env lib f k := by
 intro f k hf
 have := qwx f k hf
 subst this
 by_cases h0 : k = 188
 ·subst h0
  have e : qds 188 = 63 := by kernel_rfl
  rw [e]
  exact ⟨.inl ⟨qjB,rfl,qqS⟩⟩
 by_cases h1 : k = 138
 ·subst h1
  have e : qds 138 = 111 := by kernel_rfl
  rw [e]
  exact ⟨.inl ⟨qnA,rfl,qtZ⟩⟩
 cases hx : qij k with
 | none =>
   refine ⟨.inl ⟨fun _ _ => none,?_,qr9 env _⟩⟩
   show qfs k = _
   unfold qfs
   rw [hx]
   dsimp only
   rw [if_neg h0,if_neg h1]
 | some fn =>
   have hs : lib.summ k = none := by
    show qfs k = _
    unfold qfs
    rw [hx]
   have hx2 := hx
   unfold qij at hx
   split at hx
   ·exact qbj hs rfl quV
   ·exact qbj hs rfl quW
   ·exact qbj hs rfl quX
   ·exact qbj hs rfl quY
   ·exact qbj hs rfl quZ
   ·exact qbj hs rfl qu0
   ·exact qbj hs rfl qu1
   ·exact qbj hs rfl qu2
   ·exact qbj hs rfl qu3
   ·exact qbj hs rfl qu4
   ·exact qbj hs rfl qu5
   ·exact qbj hs rfl qu6
   ·exact qbj hs rfl qu7
   ·exact qbj hs rfl qu8
   ·exact qbj hs rfl qu9
   ·exact qbj hs rfl qva
   ·exact qbj hs rfl qvb
   ·exact qbj hs rfl qvc
   ·exact qbj hs rfl qvd
   ·exact qbj hs rfl qve
   ·exact qbj hs rfl qvf
   ·exact qbj hs rfl qvg
   ·exact qbj hs rfl qvh
   ·exact qbj hs rfl qvi
   ·exact qbj hs rfl qvj
   ·exact qbj hs rfl qvk
   ·exact qbj hs rfl qvl
   ·exact qbj hs rfl qvm
   ·exact qbj hs rfl qvn
   ·exact qbj hs rfl qvo
   ·exact qbj hs rfl qvp
   ·exact qbj hs rfl qvq
   ·exact qbj hs rfl qvr
   ·exact qbj hs rfl qvs
   ·exact qbj hs rfl qvt
   ·exact qbj hs rfl qvu
   ·exact qbj hs rfl qvv
   ·exact qbj hs rfl qvw
   ·exact qbj hs rfl qvx
   ·exact qbj hs rfl qvy
   ·exact qbj hs rfl qvz
   ·exact qbj hs rfl qvA
   ·exact qbj hs rfl qvB
   ·exact qbj hs rfl qvC
   ·exact qbj hs rfl qvD
   ·exact qbj hs rfl qvE
   ·exact qbj hs rfl qvF
   ·exact qbj hs rfl qvG
   ·exact qbj hs rfl qvH
   ·exact qbj hs rfl qvI
   ·exact qbj hs rfl qvJ
   ·exact qbj hs rfl qvK
   ·exact qbj hs rfl qvL
   ·exact qbj hs rfl qvM
   ·exact qbj hs rfl qvN
   ·exact qbj hs rfl qvO
   ·exact qbj hs rfl qvP
   ·cases hx
theorem qtz : qcq env (call lib) := quB qua lib qwG
theorem qhI : Plain lib := by
 refine ⟨fun _ => rfl,fun f hf => ?_⟩
 show qfs f = none
 have hf' : qij f ≠ none := hf
 unfold qfs
 cases hx : qij f with
 | none => exact absurd hx hf'
 | some _ => rfl
theorem qrK {f : Nat} {args : List AVal} {v : AVal} {s : List AVal → Heap → Option (ARes × Heap)} (hs : lib.summ f = some s) (h1 : s args [] = some (.val v,[])) (hw : wipeR v = v) (hd : qa7 v = true) (h : Heap) :
  pcall lib f args h = some (.val v,h) := by
 have : call lib f args [] = some (.val v,[]) := qhg hs h1
 exact qc9 this (by rw [qo3 (by rw [hw]; exact hd),hw]) hd h
theorem quC (l : List Int) (h : Heap) (hl : l.length < 2 ^ 30) : qjB [.list (l.map qa0) none] h = some (.val (qjC l h.length),h ++ qgD l) := by
 unfold qjB
 dsimp only
 rw [qpb,List.length_map]
 by_cases hz : l = []
 ·subst hz
  simp [qjC,qgD]
 ·have : l.map qa0 ≠ [] := by simpa using hz
  rw [qjD hz,qjA hz,if_pos (by simp [hl]),if_neg this]
theorem lib_mut : MPrims lib := ⟨fun l h hl => qhg (s := qjB) rfl (quC l h hl)⟩
theorem qm2 : CPrims lib qbF := by
 refine ⟨fun l h hl => ?_,fun l hne hl => ?_,fun h => ?_⟩
 ·have h1 := lib_mut.clone l [] hl
  refine qc9 h1 ?_ (by rw [qaa]; exact qaA l) h
  rcases qfb l with ⟨h2,h3⟩ | ⟨h2,h3⟩
  ·rw [h2,h3,qhi h3]
   rfl
  ·rw [h2,h3]
   unfold qfD
   have hv : viewV ([] ++ [.vec (l.map qa0) 1]) (.vec ([] : Heap).length l.length) = .list (l.map qa0) none := (HInts.view (H := [.vec (l.map qa0) 1]) (l := l) (v := .vec 0 l.length) (f := [0]) (.inr ⟨qgb h3,0,rfl,rfl,rfl⟩) 1999)
   rw [if_neg (by simp [wipeR,wipe,wipeCell,qa7]),hv]
   rfl
 ·refine qhg (s := qnA) rfl ?_
  unfold qnA
  have hx : ∃ m,l.length = m + 1 := ⟨l.length - 1,by have := List.length_pos_iff.2 hne; omega⟩
  dsimp only
  rw [qpb,List.length_map,qrh]
  simp [hl]
 ·exact qrK (s := qnA) rfl rfl rfl rfl h
theorem qru (h : Heap) : call lib 138 [.list [] none] h = some (.val (.tuple []),h) := qhg (s := qnA) rfl rfl
theorem qtB : ∀ (t : CTree),TFit t → qbq t < 2 ^ 30 → ∀ h : Heap,pcall lib 159 [qa8 t] h = some (.val (.list ((qc3 t).map qaO) none),h) := fun t hf hs h => qtC qhI qm2 rfl rfl t hf hs h
theorem qtA : CLib lib := by
 constructor
 case plain => exact qhI
 case prims => exact qm2
 case grow => exact fun e h hl hf hT hh => qp0 qhI lib_mut rfl e h hl hf hT hh
 all_goals rfl
theorem qwH : RLib lib := by
 constructor
 case toCLib => exact qtA
 case list => exact qtB
 case mprims => exact lib_mut
 all_goals rfl
end Go.Abs
