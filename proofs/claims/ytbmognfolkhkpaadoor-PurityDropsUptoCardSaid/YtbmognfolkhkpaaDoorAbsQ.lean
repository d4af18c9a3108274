/-
  Evaluating the abstract machine: the laws by which a simp set steps through code. Conditions: none.
-/
import Derived.Test.YtbmognfolkhkpaaDoorAbsB
set_option linter.unusedVariables false
namespace Go.Abs
theorem qak (tm:Tmps) (d t:Nat) (v:AVal):upd tm (some d) v t=if t=d then v else tm t:=rfl
theorem qaW (tm:Tmps) (v:AVal):upd tm none v=tm:=rfl
theorem qal (args:List AVal) (i:Nat):qeV args i=(args[i]?).getD (.tuple []):=rfl
theorem qah (pure:Nat→Bool) (call:CallT) (s:St):qdm pure call [] s=some (.normal,s):=rfl
theorem qac (pure:Nat→Bool) (call:CallT) (d:Option Nat) (o:AOp) (r:List Step) (tm:Tmps) (h:Heap) :
  qdm pure call (⟨d,none,o⟩::r) ⟨tm,h⟩=match aOp pure call o tm h with | some (.val v,h')=>qdm pure call r ⟨upd tm d v,h'⟩ | some (.panic v,h')=>some (.panic v,⟨tm,h'⟩) | none=>none:=rfl
theorem qap (pure:Nat→Bool) (call:CallT) (d:Option Nat) (g:Option Nat × Bool) (o:AOp) (r:List Step) (tm:Tmps) (h:Heap) :
  qdm pure call (⟨d,some g,o⟩::r) ⟨tm,h⟩=match qax (some g) tm with
   | some true=>(match aOp pure call o tm h with | some (.val v,h')=>qdm pure call r ⟨upd tm d v,h'⟩ | some (.panic v,h')=>some (.panic v,⟨tm,h'⟩) | none=>none)
   | some false=>qdm pure call r ⟨upd tm d (.tuple []),h⟩
   | none=>none:=rfl
theorem qqb (pure:Nat→Bool) (call:CallT) (s:St):qfk pure call [] s=some (.normal,s):=rfl
theorem qn3 (pure:Nat→Bool) (call:CallT) (d:Option Nat) (o:AOp) (r:List Step) (tm:Tmps) (h:Heap) :
  qfk pure call (⟨d,none,o⟩::r) ⟨tm,h⟩=match qlq pure call o tm h with | some (.val v,h')=>qfk pure call r ⟨upd tm d v,h'⟩ | some (.panic v,h')=>some (.panic v,⟨tm,h'⟩) | none=>none:=rfl
theorem qqa (pure:Nat→Bool) (call:CallT) (x:Opd) (tm:Tmps) (h:Heap):qlq pure call (.move x) tm h=some (.val (opd tm x),h):=rfl
def qnj (l:List Step) (tm:Tmps) (hs:List Heap) (i lo hi:Nat):Prop :=
 match l[i]? with
 | some ⟨some d,g,o⟩=>qax g tm=some true→∀ h∈(hs.drop lo).take (hi+1-lo),aOp (fun _=>false) qjo o tm h=some (.val (tm d),h)
 | _=>True
def qgm (l:List Step) (tm:Tmps) (hs:List Heap):List (Nat × Nat × Nat)→Prop
 | []=>True
 | c::cs=>qnj l tm hs c.1 c.2.1 c.2.2∧qgm l tm hs cs
theorem qro {l:List Step} {tm:Tmps} {hs:List Heap} {c:Nat × Nat × Nat} (h:qnj l tm hs c.1 c.2.1 c.2.2):qmq l tm hs c:=by
 intro s d h1 h2 h3 k hp hk1 hk2 hk
 unfold qnj at h
 obtain⟨d',g,o⟩:=s
 dsimp only at h2
 subst h2
 rw[h1] at h
 refine h h3 hp ?_
 refine List.mem_of_getElem? (i:=k-c.2.1) ?_
 rw[List.getElem?_take,if_pos (by omega),List.getElem?_drop,show c.2.1+(k-c.2.1)=k by omega]
 exact hk
theorem qlC {l:List Step} {tm:Tmps} {hs:List Heap}:∀ {cs:List (Nat × Nat × Nat)},qgm l tm hs cs→∀ c∈cs,qmq l tm hs c
 | [],_=>by simp
 | c :: cs,h => by
   intro c' hc
   rcases List.mem_cons.1 hc with rfl | hc
   ·exact qro h.1
   ·exact qlC h.2 c' hc
theorem qu0 {pure:Nat→Bool} {call:CallT} {l:List Step} {cs:List (Nat × Nat × Nat)} {s:St} {tm:Tmps} {hs:List Heap} {h:Heap}
  (hr:qeC pure call l s.tm [] s.h=some (tm,hs,h)) (hc:qgm l tm hs cs):qiE pure call l cs s=some (.normal,⟨tm,h⟩):=by
 unfold qiE
 rw[hr]
 exact if_pos (qlC hc)
noncomputable def qpr (pure:Nat→Bool) (call:CallT) (l:List Step) (cs:List (Nat × Nat × Nat)) (s:St):Option (AExit × St):=qiE pure call l cs s
open Classical in
noncomputable def qrz (pure:Nat→Bool) (call:CallT) (l:List Step) (cs:List (Nat × Nat × Nat)) (s:St) (r:Option (Tmps × List Heap × Heap)):Option (AExit × St) :=
 match r with
 | some (tm,hs,h)=>if qgm l tm hs cs then some (.normal,⟨tm,h⟩) else qpr pure call l cs s
 | none=>qpr pure call l cs s
theorem qa2 (pure:Nat→Bool) (call:CallT) (l:List Step) (cs:List (Nat × Nat × Nat)) (s:St):qiE pure call l cs s=qrz pure call l cs s (qeC pure call l s.tm [] s.h):=by
 unfold qrz
 split
 ·rename_i tm hs h hr
  split
  ·rename_i hc
   exact qu0 hr hc
  ·rfl
 ·rfl
open Classical in
theorem qaM (pure:Nat→Bool) (call:CallT) (l:List Step) (cs:List (Nat × Nat × Nat)) (s:St) (tm:Tmps) (hs:List Heap) (h:Heap) :
  qrz pure call l cs s (some (tm,hs,h))=if qgm l tm hs cs then some (.normal,⟨tm,h⟩) else qpr pure call l cs s:=rfl
theorem qaT (pure:Nat→Bool) (call:CallT) (tm:Tmps) (hs:List Heap) (h:Heap):qeC pure call [] tm hs h=some (tm,hs++[h],h):=rfl
theorem qaN (pure:Nat→Bool) (call:CallT) (d:Option Nat) (g:Option (Option Nat × Bool)) (o:AOp) (r:List Step) (tm:Tmps) (hs:List Heap) (h:Heap) :
  qeC pure call (⟨d,g,o⟩::r) tm hs h=match qax g tm with
   | some true=>(match aOp pure call o tm h with | some (.val v,h')=>qeC pure call r (upd tm d v) (if qbc o=true then hs++[h] else hs) h' | _=>none)
   | some false=>qeC pure call r (upd tm d (.tuple [])) (if qbc o=true then hs++[h] else hs) h
   | none=>none:=rfl
theorem qpK {h:Heap} {v:AVal} (hv:qbd (wipeR v)=true):qfL h v=wipeR v:=if_pos hv
noncomputable def pcall (L:Lib) (f:Nat) (args:List AVal) (h:Heap):Option (ARes × Heap) :=
 match call L f args [] with
 | some (.val v,h2)=>if qbd (qfL h2 v)=true then some (.val (qfL h2 v),h) else none
 | some (.panic v,h2)=>if qbd (qfL h2 v)=true then some (.panic (qfL h2 v),h) else none
 | none=>none
theorem qaK (L:Lib) (hp:∀ f,L.pure f=true) (f:Nat) (args:List AVal) (h:Heap) :
  qdJ L.pure (call L) f args h=if qaZ (args.map wipe)=true then pcall L f (args.map wipe) h else qlj (call L) f args h:=by
 unfold qdJ pcall
 by_cases hd:qaZ (args.map wipe)=true
 ·rw[if_pos ⟨hp f,hd⟩,if_pos hd]
  cases call L f (args.map wipe) [] with
  | none=>rfl
  | some x=>obtain⟨v,h'⟩:=x;cases v<;>rfl
 ·rw[if_neg (fun hx=>hd hx.2),if_neg hd]
theorem qt9 {L:Lib} {f:Nat} {fn:AFn} {args:List AVal} {v:AVal} (h':Heap) (hs:L.summ f=none) (hf:L.fns f=some fn)
  (hr:qaS fn.results (qbQ L.pure (call L) fn.body ⟨qeV args,[]⟩)=some (.val v,h')) (hv:qbd (wipeR v)=true) (h:Heap):pcall L f args h=some (.val (wipeR v),h):=by
 unfold pcall
 rw[qbH hs hf hr]
 dsimp only
 rw[qpK hv,if_pos hv]
theorem qdp {L:Lib} {f:Nat} {args:List AVal} {v u:AVal} {h':Heap} (hr:call L f args []=some (.val v,h')) (hu:qfL h' v=u) (hd:qbd u=true) (h:Heap):pcall L f args h=some (.val u,h):=by
 unfold pcall
 rw[hr]
 dsimp only
 rw[hu,if_pos hd]
theorem qkQ {h:Heap} {v u:AVal} (hp:qgx u=true) (hd:qfL h v=u):v=u:=by
 unfold qfL at hd
 split at hd
 ·cases v<;>simp only[wipeR,wipe,wipeCell] at hd<;>subst hd<;>first | rfl | (simp[qgx] at hp)
 ·rename_i hn
  exfalso
  unfold viewV at hd
  rw[qbO] at hd
  split at hd
  ·rename_i hdd
   exact hn (by cases v<;>simp only[wipeR,wipe,wipeCell] at hd ⊢ <;> first | (subst hd;first | rfl | (simp[qgx] at hp;done)) | (exfalso;revert hp;rw[← hd];simp[qgx]))
  ·unfold qc0 at hd
   cases v<;>(try dsimp only at hd)<;>(repeat' (first | (simp only[wipeR,wipe,wipeCell] at hd;subst hd;simp[qgx] at hp;done) | split at hd))
theorem qf8 {L:Lib} {f:Nat} {args args':List AVal} {h:Heap} {u:AVal} (ha:args.map (lookV h)=args') (hd:qaZ args'=true) (hp:qgx u=true) (hc:pcall L f args' h=some (.val u,h)):qi7 (call L) f args h=some (.val u,h):=by
 unfold pcall at hc
 unfold qi7
 rw[ha,if_pos hd]
 split at hc
 ·rename_i v h2 he
  rw[he]
  dsimp only
  split at hc
  ·simp only[Option.some.injEq,Prod.mk.injEq,ARes.val.injEq,and_true] at hc
   rw[qkQ hp hc,if_pos hp]
  ·cases hc
 ·split at hc
  ·simp at hc
  ·cases hc
 ·cases hc
def kt:List Nat→List AVal→Tmps
 | k::ks,v::vs,t=>if t=k then v else kt ks vs t
 | _,_,_=>.junk
theorem qaB (k:Nat) (ks:List Nat) (v:AVal) (vs:List AVal) (t:Nat):kt (k::ks) (v::vs) t=if t=k then v else kt ks vs t:=rfl
theorem qa0 (ks:List Nat) (t:Nat):kt ks [] t=.junk:=by cases ks<;>rfl
theorem qr0 (g:Nat→AVal):∀ (keep:List Nat),kt keep (keep.map g)=fun t=>if t∈keep then g t else .junk
 | []=>by funext t;simp[kt]
 | k :: ks => by
   funext t
   rw[List.map_cons,qaB,qr0 g ks]
   by_cases h:t=k<;>simp[h]
theorem qqC:qpT []=false:=rfl
theorem qaf (k:Nat) (ks:List Nat):qpT (k::ks)=decide (k=1000000):=rfl
theorem qaX (b:Nat) (keep:List Nat) (tm:Tmps) (h:Heap):gc b keep ⟨tm,h⟩ =
  if qpT keep=true then ⟨kt (keep.drop 1) ((keep.drop 1).map tm),h⟩
  else if b≤h.length then ⟨kt keep (keep.map fun t=>ren (qih b (qkx b keep ⟨tm,h⟩)) (tm t)),
   (h.take b).map (qgg (qih b (qkx b keep ⟨tm,h⟩)))++(qkx b keep ⟨tm,h⟩).map fun id=>qgg (qih b (qkx b keep ⟨tm,h⟩)) ((h[id]?).getD .gone)⟩ else ⟨tm,h⟩:=by
 unfold gc gc1 qx6
 rw[qr0,qr0]
theorem qaF (b:Nat) (keep:List Nat) (tm:Tmps) (h:Heap):qkx b keep ⟨tm,h⟩=qeq b (keep.flatMap (fun t=>qbT (tm t))++(h.take b).flatMap qoH) []:=rfl
section
variable (pure:Nat→Bool) (call:CallT)
theorem qam (s:St):qbQ pure call .skip s=some (.normal,s):=rfl
theorem qad (l:List Step) (s:St):qbQ pure call (.ops l) s=qdm pure call l s:=rfl
theorem qnm (l:List Step) (s:St):qbQ pure call (.kops l) s=qfk pure call l s:=rfl
theorem qaL (l:List Step) (cs:List (Nat × Nat × Nat)) (s:St):qbQ pure call (.draw l cs) s=qiE pure call l cs s:=rfl
theorem qae (a b:ACode) (s:St):qbQ pure call (.seq a b) s=match qbQ pure call a s with | some (.normal,s')=>qbQ pure call b s' | r=>r:=rfl
theorem qab (c:Opd) (a b:ACode) (s:St):qbQ pure call (.cond c a b) s=match opd s.tm c with | .bool t=>if t then qbQ pure call a s else qbQ pure call b s | _=>none:=rfl
theorem qai (id:Nat) (c:ACode) (s:St):qbQ pure call (.block id c) s=match qbQ pure call c s with | some (.exit id',s')=>if id'=id then some (.normal,s') else some (.exit id',s') | r=>r:=rfl
theorem qfg (k:List Nat) (a b:ACode) (s:St):qbQ pure call (.frame k (.seq a b)) s=(qbQ pure call (.seq a b) s).map (gcE s.h.length k):=rfl
theorem qch (t:Nat) (c:ACode) (s:St):qbQ pure call (.freeze t c) s=qbQ pure call c (qhG t s):=rfl
theorem qnn (c:ACode) (s:St):qbQ pure call (.view c) s=qbQ pure call c (qq5 s):=rfl
theorem qbj (id:Nat) (s:St):qbQ pure call (.exit id) s=some (.exit id,s):=rfl
theorem qar (s:St):qbQ pure call .ret s=some (.ret,s):=rfl
end
def qfx (b:Nat):Nat→Option (Option Nat)
 | 0=>some none
 | _+1=>some (some b)
def qdr (sz:Nat):Nat→Heap
 | 0=>[]
 | n+1=>[.tail (n+1) sz]
theorem qec (b:Nat):qfx b 0=some none:=rfl
theorem qfy (b n:Nat):qfx b (n+1)=some (some b):=rfl
theorem qeh (sz:Nat):qdr sz 0=[]:=rfl
theorem qe5 (sz n:Nat):qdr sz (n+1)=[.tail (n+1) sz]:=rfl
theorem qes {b n:Nat} (h:0<n):qfx b n=some (some b):=by cases n with | zero=>omega | succ n=>rfl
theorem qdO {sz n:Nat} (h:0<n):qdr sz n=[.tail n sz]:=by cases n with | zero=>omega | succ n=>rfl
theorem qix (b sz n:Nat):(qfx b n=some none∧qdr sz n=[])∨(qfx b n=some (some b)∧qdr sz n=[.tail n sz]):=by
 cases n with
 | zero=>exact .inl ⟨rfl,rfl⟩
 | succ n=>exact .inr ⟨rfl,rfl⟩
def qyb (id sz:Nat) (cs:List AVal) (tm:Tmps):Tmps:=fun i=>frz id sz cs (tm i)
theorem qds (id sz:Nat) (cs:List AVal) (tm:Tmps) (i:Nat):qyb id sz cs tm i=frz id sz cs (tm i):=rfl
theorem qcM (id sz:Nat) (cs:List AVal) (tm:Tmps) (h:Heap):qny id sz cs ⟨tm,h⟩=if qaZ cs=true∧cs.all leaf=true then ⟨qyb id sz cs tm,(h.set id .gone).map (qla id sz cs)⟩ else ⟨tm,h⟩:=rfl
theorem qco (t:Nat) (tm:Tmps) (h:Heap):qhG t ⟨tm,h⟩=match tm t with
 | .ptr (some (id,0))=>(match h[id]? with | some (.box cs)=>qny id 0 (cs.map wipeCell) ⟨tm,h⟩ | _=>⟨tm,h⟩)
 | .vec id _=>(match h[id]? with | some (.vec cs sz)=>qny id sz (cs.map wipeCell) ⟨tm,h⟩ | _=>⟨tm,h⟩)
 | _=>⟨tm,h⟩:=rfl
theorem qcj:qoH .gone=[]:=rfl
theorem qbl (cs:List AVal):qoH (.box cs)=cs.flatMap qbT:=rfl
theorem qdZ (n sz:Nat):qoH (.tail n sz)=[]:=rfl
theorem qio:qoH (.map [])=[]:=rfl
theorem qbb (ρ:Nat→Option Nat):qgg ρ .gone=.gone:=rfl
theorem qbm (ρ:Nat→Option Nat) (cs:List AVal):qgg ρ (.box cs)=.box (cs.map (ren ρ)):=rfl
theorem qcE (ρ:Nat→Option Nat) (n sz:Nat):qgg ρ (.tail n sz)=.tail n sz:=rfl
theorem qiz (ρ:Nat→Option Nat):qgg ρ (.map [])=.map []:=rfl
theorem qfa (call:CallT) (f:Nat) (args:List AVal) (h:Heap):qlj call f args h=if (qcy args h).all (fun i=>decide (i<h.length))=true then
  match call f (args.map (ren fun i=>qa5 i (qcy args h) 0)) (qdF (qcy args h) h) with
  | some (r,h2)=>some (qoS (qcy args h) (qn0 (qcy args h).length r h2) h.length r,qfY (qcy args h) (qn0 (qcy args h).length r h2) h h2)
  | none=>none
 else none:=rfl
theorem qer (k:Nat) (v:AVal) (h2:Heap):qn0 k (.val v) h2=qeq k (qbT v++(h2.take k).flatMap qoH) []:=rfl
theorem qfn (l nl:List Nat) (n j:Nat):qdA l nl n j=if j<l.length then l[j]? else (qa5 j nl 0).map (n+·):=rfl
theorem qdM (args:List AVal) (h:Heap):qcy args h=grow h (grow h (grow h (qeq 0 (args.flatMap qbT) []))):=rfl
theorem qgu (h:Heap) (l:List Nat):grow h l=qeq 0 (l.flatMap fun i=>qoH ((h[i]?).getD .gone)) l:=rfl
theorem qdN (l:List Nat) (h:Heap):qdF l h=l.map fun i=>qgg (fun i=>qa5 i l 0) ((h[i]?).getD .gone):=rfl
def pb (l nl:List Nat) (n:Nat) (h2:Heap):Heap→Nat→Heap
 | [],_=>[]
 | o::os,i=>(match qa5 i l 0 with | some j=>qgg (qdA l nl n) ((h2[j]?).getD .gone) | none=>o)::pb l nl n h2 os (i+1)
theorem qjq (l nl:List Nat) (n:Nat) (h2:Heap) (i:Nat):pb l nl n h2 [] i=[]:=rfl
theorem qe1 (l nl:List Nat) (n:Nat) (h2:Heap) (o:AObj) (os:Heap) (i:Nat):pb l nl n h2 (o::os) i=(match qa5 i l 0 with | some j=>qgg (qdA l nl n) ((h2[j]?).getD .gone) | none=>o)::pb l nl n h2 os (i+1):=rfl
theorem qn4 (l nl:List Nat) (n:Nat) (h2:Heap):∀ (h:Heap) (k:Nat),(pb l nl n h2 h k).length=h.length
 | [],k=>rfl
 | o::os,k=>by rw[qe1,List.length_cons,List.length_cons,qn4 l nl n h2 os]
theorem quE (l nl:List Nat) (n:Nat) (h2:Heap):∀ (h:Heap) (k i:Nat) (o:AObj),h[i]? = some o→(pb l nl n h2 h k)[i]? = some (match qa5 (k+i) l 0 with | some j=>qgg (qdA l nl n) ((h2[j]?).getD .gone) | none=>o)
 | [],k,i,o,e=>by simp at e
 | x :: os,k,0,o,e => by
   simp at e
   subst e
   rw[qe1,List.getElem?_cons_zero,Nat.add_zero]
 | x :: os,k,i + 1,o,e => by
   rw[qe1,List.getElem?_cons_succ,quE l nl n h2 os (k+1) i o (by simpa using e)]
   rw[show k+1+i=k+(i+1) by omega]
theorem qdL (l nl:List Nat) (h h2:Heap):qfY l nl h h2=pb l nl h.length h2 h 0++nl.map fun j=>qgg (qdA l nl h.length) ((h2[j]?).getD .gone):=by
 unfold qfY
 congr 1
 refine List.ext_getElem? fun i=>?_
 by_cases hi:i<h.length
 ·rw[quE l nl _ h2 h 0 i h[i] (List.getElem?_eq_getElem hi),Nat.zero_add]
  rw[List.getElem?_map,List.getElem?_range hi]
  simp only[Option.map_some,List.getElem?_eq_getElem hi,Option.getD_some]
  cases qa5 i l 0<;>rfl
 ·rw[List.getElem?_eq_none (by simp;omega),List.getElem?_eq_none (by rw[qn4];omega)]
theorem qdh (l nl:List Nat) (n:Nat) (v:AVal):qoS l nl n (.val v)=.val (ren (qdA l nl n) v):=rfl
theorem qau (cs:List AVal):acells (.agg cs)=cs:=rfl
theorem qaJ (k:IntKind) (n:Int):acells (.int k n)=[.int k n]:=rfl
theorem qbn (xs:List AVal) (o:Option (Option Nat)):acells (.list xs o)=[.list xs o]:=rfl
theorem qaY (a:Option (Nat × Nat)):acells (.ptr a)=[.ptr a]:=rfl
theorem qbg (cs:List AVal) (n:Nat):acells (.vptr cs n)=[.vptr cs n]:=rfl
theorem qoM (f:Nat) (a b:List AVal):acells (.func f a b)=[.func f a b]:=rfl
theorem qck:qgB=1073741824:=rfl
theorem qbP (l:List Step) (tm:Tmps) (hs:List Heap) (c:Nat × Nat × Nat) (cs:List (Nat × Nat × Nat)):qgm l tm hs (c::cs)=(qnj l tm hs c.1 c.2.1 c.2.2∧qgm l tm hs cs):=rfl
theorem qaC (l:List Step) (tm:Tmps) (hs:List Heap):qgm l tm hs []=True:=rfl
theorem qcr (l:List Step) (tm:Tmps) (hs:List Heap) (i lo hi:Nat):qnj l tm hs i lo hi=match l[i]? with
 | some ⟨some d,g,o⟩=>qax g tm=some true→∀ h∈(hs.drop lo).take (hi+1-lo),aOp (fun _=>false) qjo o tm h=some (.val (tm d),h)
 | _=>True:=rfl
theorem qde:(true==false)=false:=rfl
theorem qbN:(false==true)=false:=rfl
theorem qcf (cs:List AVal):wipe (.agg cs)=.agg (cs.map wipeCell):=rfl
theorem qbx (xs:List AVal) (o:Option (Option Nat)):wipe (.list xs o)=.list xs none:=rfl
theorem qs1 (b:Bool):wipe (.bool b)=.bool b:=rfl
theorem qbw (k:IntKind) (n:Int):wipe (.int k n)=.int k n:=rfl
theorem qc1 (cs:List AVal):wipeR (.tuple cs)=.tuple (cs.map wipe):=rfl
theorem qs0 (cs:List AVal):wipeR (.agg cs)=.agg (cs.map wipeCell):=rfl
theorem qct (xs:List AVal) (o:Option (Option Nat)):wipeR (.list xs o)=.list xs none:=rfl
theorem qa7 (b:Bool):wipeR (.bool b)=.bool b:=rfl
theorem qbf (k:IntKind) (n:Int):wipeR (.int k n)=.int k n:=rfl
theorem qdd (a:Option (Nat × Nat)):wipe (.ptr a)=.ptr a:=rfl
theorem qbv (cs:List AVal) (n:Nat):wipe (.vptr cs n)=.vptr cs n:=rfl
theorem qqn (a:Option Nat):wipe (.map a)=.map a:=rfl
theorem qcT (f:Nat) (a b:List AVal):wipe (.func f a b)=.func f a b:=rfl
theorem qbk (xs:List AVal) (o:Option (Option Nat)):wipeCell (.list xs o)=.list xs none:=rfl
theorem qbz (k:IntKind) (n:Int):wipeCell (.int k n)=.int k n:=rfl
theorem qaa (xs:List AVal):qbd (.list xs none)=qaZ xs:=by simp[qbd]
theorem qbV (xs:List AVal):qbd (.list xs (some none))=qaZ xs:=by simp[qbd]
theorem qbI (xs:List AVal) (i:Nat):qbd (.list xs (some (some i)))=false:=by simp[qbd]
theorem qbR (b:Bool):qbd (.bool b)=true:=rfl
theorem qaq (k:IntKind) (n:Int):qbd (.int k n)=true:=rfl
theorem qcc (cs:List AVal):qbd (.agg cs)=qaZ cs:=rfl
theorem qgv (cs:List AVal):qbd (.tuple cs)=qaZ cs:=rfl
theorem qb5 (f:Nat) (a b:List AVal):qbd (.func f a b)=(qaZ a && qaZ b):=rfl
theorem qaQ (cs:List AVal) (n:Nat):qbd (.vptr cs n)=qaZ cs:=rfl
theorem qbe (a:Nat × Nat):qbd (.ptr (some a))=false:=rfl
theorem qcd (a:Nat):qbd (.map (some a))=false:=rfl
theorem qbS:qbd .junk=true:=rfl
theorem qav:qaZ []=true:=rfl
theorem qat (v:AVal) (vs:List AVal):qaZ (v::vs)=(qbd v && qaZ vs):=rfl
theorem qcB (a b:List AVal):qaZ (a++b)=(qaZ a && qaZ b):=by
 induction a with
 | nil=>rfl
 | cons x xs ih=>rw[List.cons_append,qaZ,qaZ,ih,Bool.and_assoc]
theorem qcW {α:Type} (f:α→AVal) (h:∀ a,qbd (f a)=true) (l:List α):qaZ (l.map f)=true:=by
 induction l with
 | nil=>rfl
 | cons x xs ih=>rw[List.map_cons,qaZ,h,ih];rfl
theorem qmj {α:Type} (f:α→AVal) (n:Nat) (h:∀ a,(acells (f a)).length=n) (l:List α):((l.map f).all fun v=>decide ((acells v).length=n))=true:=by
 rw[List.all_eq_true]
 intro x hx
 obtain⟨a,_,rfl⟩:=List.mem_map.1 hx
 simp[h a]
theorem qas (n:Nat) (acc:List Nat):qeq n [] acc=acc:=rfl
theorem qaH (n i:Nat) (is acc:List Nat):qeq n (i::is) acc=qeq n is (if n≤i∧i∉acc then acc++[i] else acc):=rfl
theorem qaG (n:Nat) (l:List Nat) (i:Nat):qih n l i=if i<n then some i else qa5 i l n:=rfl
noncomputable def qb8 (pure:Nat→Bool) (call:CallT) (b:Nat) (keep fk:List Nat) (body:ACode) (s:St):Option (AExit × St) :=
 match qbQ pure call body s with
 | some (.normal,s')=>some (.normal,gc b keep s')
 | some (e,s')=>some (gcE b fk (e,s'))
 | none=>none
theorem qaz (pure:Nat→Bool) (call:CallT) (b:Nat) (keep fk:List Nat) (body:ACode) (s:St):qb8 pure call b keep fk body s=match qbQ pure call body s with
 | some (.normal,s')=>some (.normal,gc b keep s')
 | some (e,s')=>some (gcE b fk (e,s'))
 | none=>none:=rfl
noncomputable def qb7 (pure:Nat→Bool) (call:CallT) (b:Nat) (keep fk:List Nat) (id:Nat) (body:ACode) (s:St):Option (AExit × St) :=
 (match (match qbQ pure call body s with
   | some (.normal,s')=>qkI (fun s1=>qbQ pure call body (gc b keep s1)) s'
   | r=>r) with
  | some (.exit id',s')=>if id'=id then some (AExit.normal,s') else some (AExit.exit id',s')
  | r=>r).map (gcE b fk)
theorem qaU (pure:Nat→Bool) (call:CallT) (keep fk:List Nat) (id:Nat) (body:ACode) (tm:Tmps) (h:Heap) :
  qbQ pure call (.frame fk (.block id (.gloop keep body))) ⟨tm,h⟩=qb7 pure call h.length keep fk id body (gc h.length keep ⟨tm,h⟩):=by
 unfold qb7
 simp only[qbQ]
 rw[qp7]
 rfl
section
variable {pure:Nat→Bool} {call:CallT} {b:Nat} {keep fk:List Nat} {id:Nat} {body:ACode}
theorem qfv {s s1:St} (h:qb8 pure call b keep fk body s=some (.normal,s1)):qb7 pure call b keep fk id body s=qb7 pure call b keep fk id body s1:=by
 unfold qb8 at h
 unfold qb7
 cases hx:qbQ pure call body s with
 | none=>rw[hx] at h;cases h
 | some x =>
   obtain⟨e,s'⟩:=x
   rw[hx] at h
   cases e with
   | normal =>
     simp only[Option.some.injEq,Prod.mk.injEq,true_and] at h
     dsimp only
     rw[qp7,h]
     rfl
   | panic v=>simp[gcE] at h
   | exit i=>simp[gcE] at h
   | ret=>simp[gcE] at h
theorem qfu {s s1:St} (h:qb8 pure call b keep fk body s=some (.exit id,s1)):qb7 pure call b keep fk id body s=some (.normal,s1):=by
 unfold qb8 at h
 unfold qb7
 cases hx:qbQ pure call body s with
 | none=>rw[hx] at h;cases h
 | some x =>
   obtain⟨e,s'⟩:=x
   rw[hx] at h
   cases e with
   | normal=>simp at h
   | panic v=>simp[gcE] at h
   | exit i =>
     simp only[gcE,Option.some.injEq,Prod.mk.injEq,AExit.exit.injEq] at h
     obtain⟨rfl,rfl⟩:=h
     simp[gcE]
   | ret=>simp[gcE] at h
theorem qkJ {s s1:St} (h:qb8 pure call b keep fk body s=some (.ret,s1)):qb7 pure call b keep fk id body s=some (.ret,s1):=by
 unfold qb8 at h
 unfold qb7
 cases hx:qbQ pure call body s with
 | none=>rw[hx] at h;cases h
 | some x =>
   obtain⟨e,s'⟩:=x
   rw[hx] at h
   cases e with
   | normal=>simp at h
   | panic v=>simp[gcE] at h
   | exit i=>simp[gcE] at h
   | ret =>
     simp only[gcE,Option.some.injEq,Prod.mk.injEq,true_and] at h
     subst h
     rfl
def qcG:List Int→Int
 | []=>0
 | e::es=>if e=0 then qcG es else e
def qbC {α β:Type} (g:Nat→α→Option β):List α→Nat→Option β
 | [],_=>none
 | x::xs,i=>match g i x with | some r=>some r | none=>qbC g xs (i+1)
theorem qeb (C:Nat→St) (n:Nat) {T:St} (hstep:∀ i,i<n→qb8 pure call b keep fk body (C i)=some (.normal,C (i+1)))
  (hend:qb8 pure call b keep fk body (C n)=some (.exit id,T)):qb7 pure call b keep fk id body (C 0)=some (.normal,T):=by
 have key:∀ k i,i+k=n→qb7 pure call b keep fk id body (C i)=some (.normal,T):=by
  intro k
  induction k with
  | zero=>intro i hi;rw[Nat.add_zero] at hi;subst hi;exact qfu hend
  | succ k ih=>intro i hi;rw[qfv (hstep i (by omega))];exact ih (i+1) (by omega)
 exact key n 0 (by omega)
def qcw {β:Type} (R:β→St) (T:St):Option β→AExit × St
 | some r=>(.ret,R r)
 | none=>(.normal,T)
theorem qgA (C:Nat→St) (n:Nat) (Q:Nat→Option (AExit × St)) {T:St}
  (hstep:∀ i,i<n→(qb8 pure call b keep fk body (C i)=some (.normal,C (i+1))∧Q i=Q (i+1))∨∃ s',qb8 pure call b keep fk body (C i)=some (.ret,s')∧Q i=some (.ret,s'))
  (hend:qb8 pure call b keep fk body (C n)=some (.exit id,T)) (hQ:Q n=some (.normal,T)):qb7 pure call b keep fk id body (C 0)=Q 0:=by
 have key:∀ k i,i+k=n→qb7 pure call b keep fk id body (C i)=Q i:=by
  intro k
  induction k with
  | zero=>intro i hi;rw[Nat.add_zero] at hi;subst hi;rw[qfu hend,hQ]
  | succ k ih =>
    intro i hi
    rcases hstep i (by omega) with ⟨h1,h2⟩ | ⟨s',h1,h2⟩
    ·rw[qfv h1,h2];exact ih (i+1) (by omega)
    ·rw[qkJ h1,h2]
 exact key n 0 (by omega)
theorem qr6 {α:Type} (xs:List α) (g:α→Int) (C:Nat→St) (T:St) (R:Int→St)
  (h0:∀ (i:Nat) (hi:i<xs.length),g xs[i]=0→qb8 pure call b keep fk body (C i)=some (.normal,C (i+1)))
  (h1:∀ (i:Nat) (hi:i<xs.length),g xs[i]≠0→qb8 pure call b keep fk body (C i)=some (.ret,R (g xs[i])))
  (hend:qb8 pure call b keep fk body (C xs.length)=some (.exit id,T)) :
  qb7 pure call b keep fk id body (C 0)=some (if qcG (xs.map g)=0 then (.normal,T) else (.ret,R (qcG (xs.map g)))):=by
 refine qgA C xs.length (fun i=>some (if qcG ((xs.drop i).map g)=0 then (.normal,T) else (.ret,R (qcG ((xs.drop i).map g))))) ?_ hend (by simp[qcG])
 intro i hi
 have hdrop:xs.drop i=xs[i]::xs.drop (i+1):=List.drop_eq_getElem_cons hi
 rw[hdrop]
 simp only[List.map_cons,qcG]
 by_cases he:g xs[i]=0
 ·left
  rw[if_pos he]
  exact⟨h0 i hi he,rfl⟩
 ·right
  rw[if_neg he,if_neg he]
  exact⟨_,h1 i hi he,rfl⟩
theorem qft {α:Type} (xs:List α) (p:α→Bool) (C:Nat→St) (T R:St)
  (h0:∀ (i:Nat) (hi:i<xs.length),p xs[i]=false→qb8 pure call b keep fk body (C i)=some (.normal,C (i+1)))
  (h1:∀ (i:Nat) (hi:i<xs.length),p xs[i]=true→qb8 pure call b keep fk body (C i)=some (.ret,R))
  (hend:qb8 pure call b keep fk body (C xs.length)=some (.exit id,T)) :
  qb7 pure call b keep fk id body (C 0)=some (if xs.any p=true then (.ret,R) else (.normal,T)):=by
 refine qgA C xs.length (fun i=>some (if (xs.drop i).any p=true then (.ret,R) else (.normal,T))) ?_ hend (by simp)
 intro i hi
 have hdrop:xs.drop i=xs[i]::xs.drop (i+1):=List.drop_eq_getElem_cons hi
 rw[hdrop]
 simp only[List.any_cons]
 by_cases he:p xs[i]=true
 ·right
  simp only[he,Bool.true_or,if_true]
  exact⟨_,h1 i hi he,rfl⟩
 ·left
  have he':p xs[i]=false:=by simpa using he
  simp only[he',Bool.false_or,and_true]
  exact h0 i hi he'
theorem qdK {α β:Type} (xs:List α) (g:Nat→α→Option β) (C:Nat→St) (T:St) (R:β→St)
  (h0:∀ (i:Nat) (hi:i<xs.length),g i xs[i]=none→qb8 pure call b keep fk body (C i)=some (.normal,C (i+1)))
  (h1:∀ (i:Nat) (hi:i<xs.length) (r:β),g i xs[i]=some r→qb8 pure call b keep fk body (C i)=some (.ret,R r))
  (hend:qb8 pure call b keep fk body (C xs.length)=some (.exit id,T)) :
  qb7 pure call b keep fk id body (C 0)=some (qcw R T (qbC g xs 0)):=by
 refine qgA C xs.length (fun i=>some (qcw R T (qbC g (xs.drop i) i))) ?_ hend (by simp[qbC,qcw])
 intro i hi
 have hdrop:xs.drop i=xs[i]::xs.drop (i+1):=List.drop_eq_getElem_cons hi
 rw[hdrop]
 simp only[qbC]
 cases he:g i xs[i] with
 | none =>
   left
   simp only[and_true]
   exact h0 i hi he
 | some r =>
   right
   exact⟨_,h1 i hi r he,rfl⟩
end
theorem qc5 {n:Int} (h1 : -2 ^ 63≤n) (h2:n<2 ^ 63):IntKind.i64.wrap n=n:=by
 have h:IntKind.i64.wrap n=(if (true && decide (n % 2 ^ 64≥2 ^ (64-1)))=true then n % 2 ^ 64-2 ^ 64 else n % 2 ^ 64):=rfl
 rw[h]
 by_cases hc:n % 2 ^ 64≥2 ^ (64-1)
 ·rw[if_pos (by simp only[Bool.true_and,decide_eq_true_eq];exact hc)]
  omega
 ·rw[if_neg (by simp only[Bool.true_and,decide_eq_true_eq];exact hc)]
  omega
end Go.Abs
