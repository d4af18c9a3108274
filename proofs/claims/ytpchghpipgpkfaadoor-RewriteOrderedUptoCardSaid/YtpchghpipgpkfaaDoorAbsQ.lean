/-
  Evaluating the abstract machine: the laws by which a simp set steps through code. Conditions: none.
-/
import Derived.Test.YtpchghpipgpkfaaDoorAbsB
set_option linter.unusedVariables false
namespace Go.Abs
theorem qB1 (tm:Tmps) (d t:Nat) (v:AVal):upd tm (some d) v t=if t=d then v else tm t:=rfl
theorem qym (tm:Tmps) (v:AVal):upd tm none v=tm:=rfl
theorem quP (args:List AVal) (i:Nat):qew args i=(args[i]?).getD (.tuple []):=rfl
theorem qAP (pure:Nat→Bool) (call:CallT) (s:St):qcq pure call [] s=some (.normal,s):=rfl
theorem qxW (pure:Nat→Bool) (call:CallT) (d:Option Nat) (o:AOp) (r:List Step) (tm:Tmps) (h:Heap) :
  qcq pure call (⟨d,none,o⟩::r) ⟨tm,h⟩=match aOp pure call o tm h with | some (.val v,h')=>qcq pure call r ⟨upd tm d v,h'⟩ | some (.panic v,h')=>some (.panic v,⟨tm,h'⟩) | none=>none:=rfl
theorem qta (pure:Nat→Bool) (call:CallT) (d:Option Nat) (g:Option Nat × Bool) (o:AOp) (r:List Step) (tm:Tmps) (h:Heap) :
  qcq pure call (⟨d,some g,o⟩::r) ⟨tm,h⟩=match qaf (some g) tm with
   | some true=>(match aOp pure call o tm h with | some (.val v,h')=>qcq pure call r ⟨upd tm d v,h'⟩ | some (.panic v,h')=>some (.panic v,⟨tm,h'⟩) | none=>none)
   | some false=>qcq pure call r ⟨upd tm d (.tuple []),h⟩
   | none=>none:=rfl
theorem qxV (pure:Nat→Bool) (call:CallT) (s:St):qeE pure call [] s=some (.normal,s):=rfl
theorem qvr (pure:Nat→Bool) (call:CallT) (d:Option Nat) (o:AOp) (r:List Step) (tm:Tmps) (h:Heap) :
  qeE pure call (⟨d,none,o⟩::r) ⟨tm,h⟩=match qjV pure call o tm h with | some (.val v,h')=>qeE pure call r ⟨upd tm d v,h'⟩ | some (.panic v,h')=>some (.panic v,⟨tm,h'⟩) | none=>none:=rfl
theorem qxT (pure:Nat→Bool) (call:CallT) (x:Opd) (tm:Tmps) (h:Heap):qjV pure call (.move x) tm h=some (.val (opd tm x),h):=rfl
theorem qvm (pure:Nat→Bool) (call:CallT) (n:Nat) (a:Opd) (tm:Tmps) (h:Heap):qjV pure call (.field n a) tm h=aOp pure call (.field n a) tm h:=rfl
def qoz (l:List Step) (tm:Tmps) (hs:List Heap) (i lo hi:Nat):Prop :=
 match l[i]? with
 | some ⟨some d,g,o⟩=>qaf g tm=some true→∀ h∈(hs.drop lo).take (hi+1-lo),aOp (fun _=>false) qfd o tm h=some (.val (tm d),h)
 | _=>True
def qgj (l:List Step) (tm:Tmps) (hs:List Heap):List (Nat × Nat × Nat)→Prop
 | []=>True
 | c::cs=>qoz l tm hs c.1 c.2.1 c.2.2∧qgj l tm hs cs
theorem qt7 {l:List Step} {tm:Tmps} {hs:List Heap} {c:Nat × Nat × Nat} (h:qoz l tm hs c.1 c.2.1 c.2.2):qkI l tm hs c:=by
 intro s d h1 h2 h3 k hp hk1 hk2 hk
 unfold qoz at h
 obtain⟨d',g,o⟩:=s
 dsimp only at h2
 subst h2
 rw[h1] at h
 refine h h3 hp ?_
 refine List.mem_of_getElem? (i:=k-c.2.1) ?_
 rw[List.getElem?_take,if_pos (by omega),List.getElem?_drop,show c.2.1+(k-c.2.1)=k by omega]
 exact hk
theorem qmv {l:List Step} {tm:Tmps} {hs:List Heap}:∀ {cs:List (Nat × Nat × Nat)},qgj l tm hs cs→∀ c∈cs,qkI l tm hs c
 | [],_=>by simp
 | c :: cs,h => by
   intro c' hc
   rcases List.mem_cons.1 hc with rfl | hc
   ·exact qt7 h.1
   ·exact qmv h.2 c' hc
theorem qy9 {pure:Nat→Bool} {call:CallT} {l:List Step} {cs:List (Nat × Nat × Nat)} {s:St} {tm:Tmps} {hs:List Heap} {h:Heap}
  (hr:qds pure call l s.tm [] s.h=some (tm,hs,h)) (hc:qgj l tm hs cs):qhw pure call l cs s=some (.normal,⟨tm,h⟩):=by
 unfold qhw
 rw[hr]
 exact if_pos (qmv hc)
noncomputable def qra (pure:Nat→Bool) (call:CallT) (l:List Step) (cs:List (Nat × Nat × Nat)) (s:St):Option (AExit × St):=qhw pure call l cs s
open Classical in
noncomputable def qun (pure:Nat→Bool) (call:CallT) (l:List Step) (cs:List (Nat × Nat × Nat)) (s:St) (r:Option (Tmps × List Heap × Heap)):Option (AExit × St) :=
 match r with
 | some (tm,hs,h)=>if qgj l tm hs cs then some (.normal,⟨tm,h⟩) else qra pure call l cs s
 | none=>qra pure call l cs s
theorem qy8 (pure:Nat→Bool) (call:CallT) (l:List Step) (cs:List (Nat × Nat × Nat)) (s:St):qhw pure call l cs s=qun pure call l cs s (qds pure call l s.tm [] s.h):=by
 unfold qun
 split
 ·rename_i tm hs h hr
  split
  ·rename_i hc
   exact qy9 hr hc
  ·rfl
 ·rfl
open Classical in
theorem qup (pure:Nat→Bool) (call:CallT) (l:List Step) (cs:List (Nat × Nat × Nat)) (s:St) (tm:Tmps) (hs:List Heap) (h:Heap) :
  qun pure call l cs s (some (tm,hs,h))=if qgj l tm hs cs then some (.normal,⟨tm,h⟩) else qra pure call l cs s:=rfl
theorem qxU (pure:Nat→Bool) (call:CallT) (tm:Tmps) (hs:List Heap) (h:Heap):qds pure call [] tm hs h=some (tm,hs++[h],h):=rfl
theorem qvq (pure:Nat→Bool) (call:CallT) (d:Option Nat) (g:Option (Option Nat × Bool)) (o:AOp) (r:List Step) (tm:Tmps) (hs:List Heap) (h:Heap) :
  qds pure call (⟨d,g,o⟩::r) tm hs h=match qaf g tm with
   | some true=>(match aOp pure call o tm h with | some (.val v,h')=>qds pure call r (upd tm d v) (if qaz o=true then hs++[h] else hs) h' | _=>none)
   | some false=>qds pure call r (upd tm d (.tuple [])) (if qaz o=true then hs++[h] else hs) h
   | none=>none:=rfl
theorem qrw {h:Heap} {v:AVal} (hv:qaH (wipeR v)=true):qf5 h v=wipeR v:=if_pos hv
noncomputable def pcall (L:Lib) (f:Nat) (args:List AVal) (h:Heap):Option (ARes × Heap) :=
 match call L f args [] with
 | some (.val v,h2)=>if qaH (qf5 h2 v)=true then some (.val (qf5 h2 v),h) else none
 | some (.panic v,h2)=>if qaH (qf5 h2 v)=true then some (.panic (qf5 h2 v),h) else none
 | none=>none
theorem qal (L:Lib) (hp:∀ f,L.pure f=true) (f:Nat) (args:List AVal) (h:Heap) :
  qc8 L.pure (call L) f args h=if qax (args.map wipe)=true then pcall L f (args.map wipe) h else qmd (call L) f args h:=by
 unfold qc8 pcall
 by_cases hd:qax (args.map wipe)=true
 ·rw[if_pos ⟨hp f,hd⟩,if_pos hd]
  cases call L f (args.map wipe) [] with
  | none=>rfl
  | some x=>obtain⟨v,h'⟩:=x;cases v<;>rfl
 ·rw[if_neg (fun hx=>hd hx.2),if_neg hd]
theorem qxX {L:Lib} {f:Nat} {fn:AFn} {args:List AVal} {v:AVal} (h':Heap) (hs:L.summ f=none) (hf:L.fns f=some fn)
  (hr:qan fn.results (qa0 L.pure (call L) fn.body ⟨qew args,[]⟩)=some (.val v,h')) (hv:qaH (wipeR v)=true) (h:Heap):pcall L f args h=some (.val (wipeR v),h):=by
 unfold pcall
 rw[qaL hs hf hr]
 dsimp only
 rw[qrw hv,if_pos hv]
theorem qcM {L:Lib} {f:Nat} {args:List AVal} {v u:AVal} {h':Heap} (hr:call L f args []=some (.val v,h')) (hu:qf5 h' v=u) (hd:qaH u=true) (h:Heap):pcall L f args h=some (.val u,h):=by
 unfold pcall
 rw[hr]
 dsimp only
 rw[hu,if_pos hd]
theorem qlt {h:Heap} {v u:AVal} (hp:qgt u=true) (hd:qf5 h v=u):v=u:=by
 unfold qf5 at hd
 split at hd
 ·cases v<;>simp only[wipeR,wipe,wipeCell] at hd<;>subst hd<;>first | rfl | (simp[qgt] at hp)
 ·rename_i hn
  exfalso
  unfold viewV at hd
  rw[qaV] at hd
  split at hd
  ·rename_i hdd
   exact hn (by cases v<;>simp only[wipeR,wipe,wipeCell] at hd ⊢ <;> first | (subst hd;first | rfl | (simp[qgt] at hp;done)) | (exfalso;revert hp;rw[← hd];simp[qgt]))
  ·unfold qcx at hd
   cases v<;>(try dsimp only at hd)<;>(repeat' (first | (simp only[wipeR,wipe,wipeCell] at hd;subst hd;simp[qgt] at hp;done) | split at hd))
theorem qdE {L:Lib} {f:Nat} {args args':List AVal} {h:Heap} {u:AVal} (ha:args.map (lookV h)=args') (hd:qax args'=true) (hp:qgt u=true) (hc:pcall L f args' h=some (.val u,h)):qgI (call L) f args h=some (.val u,h):=by
 unfold pcall at hc
 unfold qgI
 rw[ha,if_pos hd]
 split at hc
 ·rename_i v h2 he
  rw[he]
  dsimp only
  split at hc
  ·simp only[Option.some.injEq,Prod.mk.injEq,ARes.val.injEq,and_true] at hc
   rw[qlt hp hc,if_pos hp]
  ·cases hc
 ·split at hc
  ·simp at hc
  ·cases hc
 ·cases hc
def kt:List Nat→List AVal→Tmps
 | k::ks,v::vs,t=>if t=k then v else kt ks vs t
 | _,_,_=>.junk
theorem qu1 (k:Nat) (ks:List Nat) (v:AVal) (vs:List AVal) (t:Nat):kt (k::ks) (v::vs) t=if t=k then v else kt ks vs t:=rfl
theorem qBF (ks:List Nat) (t:Nat):kt ks [] t=.junk:=by cases ks<;>rfl
theorem qu2 (g:Nat→AVal):∀ (keep:List Nat),kt keep (keep.map g)=fun t=>if t∈keep then g t else .junk
 | []=>by funext t;simp[kt]
 | k :: ks => by
   funext t
   rw[List.map_cons,qu1,qu2 g ks]
   by_cases h:t=k<;>simp[h]
theorem qsW:qmH []=false:=rfl
theorem qqK (k:Nat) (ks:List Nat):qmH (k::ks)=decide (k=1000000):=rfl
theorem qCr (b:Nat) (keep:List Nat) (tm:Tmps) (h:Heap):gc b keep ⟨tm,h⟩ =
  if qmH keep=true then ⟨kt (keep.drop 1) ((keep.drop 1).map tm),h⟩
  else if b≤h.length then ⟨kt keep (keep.map fun t=>ren (qe6 b (qhf b keep ⟨tm,h⟩)) (tm t)),
   (h.take b).map (qfp (qe6 b (qhf b keep ⟨tm,h⟩)))++(qhf b keep ⟨tm,h⟩).map fun id=>qfp (qe6 b (qhf b keep ⟨tm,h⟩)) ((h[id]?).getD .gone)⟩ else ⟨tm,h⟩:=by
 unfold gc gc1 qCE
 rw[qu2,qu2]
theorem qxl (b:Nat) (keep:List Nat) (tm:Tmps) (h:Heap):qhf b keep ⟨tm,h⟩=qdR b (keep.flatMap (fun t=>qa9 (tm t))++(h.take b).flatMap qp9) []:=rfl
section
variable (pure:Nat→Bool) (call:CallT)
theorem que (s:St):qa0 pure call .skip s=some (.normal,s):=rfl
theorem qw0 (l:List Step) (s:St):qa0 pure call (.ops l) s=qcq pure call l s:=rfl
theorem qud (l:List Step) (s:St):qa0 pure call (.kops l) s=qeE pure call l s:=rfl
theorem qub (l:List Step) (cs:List (Nat × Nat × Nat)) (s:St):qa0 pure call (.draw l cs) s=qhw pure call l cs s:=rfl
theorem qw2 (a b:ACode) (s:St):qa0 pure call (.seq a b) s=match qa0 pure call a s with | some (.normal,s')=>qa0 pure call b s' | r=>r:=rfl
theorem qua (c:Opd) (a b:ACode) (s:St):qa0 pure call (.cond c a b) s=match opd s.tm c with | .bool t=>if t then qa0 pure call a s else qa0 pure call b s | _=>none:=rfl
theorem qsH (id:Nat) (c:ACode) (s:St):qa0 pure call (.block id c) s=match qa0 pure call c s with | some (.exit id',s')=>if id'=id then some (.normal,s') else some (.exit id',s') | r=>r:=rfl
theorem ql5 (k:List Nat) (a b:ACode) (s:St):qa0 pure call (.frame k (.seq a b)) s=(qa0 pure call (.seq a b) s).map (gcE s.h.length k):=rfl
theorem qqx (t:Nat) (c:ACode) (s:St):qa0 pure call (.freeze t c) s=qa0 pure call c (qfI t s):=rfl
theorem quf (c:ACode) (s:St):qa0 pure call (.view c) s=qa0 pure call c (qp1 s):=rfl
theorem quc (id:Nat) (s:St):qa0 pure call (.exit id) s=some (.exit id,s):=rfl
theorem qw1 (s:St):qa0 pure call .ret s=some (.ret,s):=rfl
end
def qf8 (b:Nat):Nat→Option (Option Nat)
 | 0=>some none
 | _+1=>some (some b)
def qdd (sz:Nat):Nat→Heap
 | 0=>[]
 | n+1=>[.tail (n+1) sz]
theorem qel (b:Nat):qf8 b 0=some none:=rfl
theorem qjb (b n:Nat):qf8 b (n+1)=some (some b):=rfl
theorem qeD (sz:Nat):qdd sz 0=[]:=rfl
theorem qhR (sz n:Nat):qdd sz (n+1)=[.tail (n+1) sz]:=rfl
theorem qff {b n:Nat} (h:0<n):qf8 b n=some (some b):=by cases n with | zero=>omega | succ n=>rfl
theorem qeo {sz n:Nat} (h:0<n):qdd sz n=[.tail n sz]:=by cases n with | zero=>omega | succ n=>rfl
theorem qpo (b sz n:Nat):(qf8 b n=some none∧qdd sz n=[])∨(qf8 b n=some (some b)∧qdd sz n=[.tail n sz]):=by
 cases n with
 | zero=>exact .inl ⟨rfl,rfl⟩
 | succ n=>exact .inr ⟨rfl,rfl⟩
def qCI (id sz:Nat) (cs:List AVal) (tm:Tmps):Tmps:=fun i=>frz id sz cs (tm i)
theorem qzl (id sz:Nat) (cs:List AVal) (tm:Tmps) (i:Nat):qCI id sz cs tm i=frz id sz cs (tm i):=rfl
theorem qxj (id sz:Nat) (cs:List AVal) (tm:Tmps) (h:Heap):qjR id sz cs ⟨tm,h⟩=if qax cs=true∧cs.all leaf=true then ⟨qCI id sz cs tm,(h.set id .gone).map (qlY id sz cs)⟩ else ⟨tm,h⟩:=rfl
theorem qsP (t:Nat) (tm:Tmps) (h:Heap):qfI t ⟨tm,h⟩=match tm t with
 | .ptr (some (id,0))=>(match h[id]? with | some (.box cs)=>qjR id 0 (cs.map wipeCell) ⟨tm,h⟩ | _=>⟨tm,h⟩)
 | .vec id _=>(match h[id]? with | some (.vec cs sz)=>qjR id sz (cs.map wipeCell) ⟨tm,h⟩ | _=>⟨tm,h⟩)
 | _=>⟨tm,h⟩:=rfl
theorem quM:qp9 .gone=[]:=rfl
theorem qxp (cs:List AVal):qp9 (.box cs)=cs.flatMap qa9:=rfl
theorem quO (n sz:Nat):qp9 (.tail n sz)=[]:=rfl
theorem quN:qp9 (.map [])=[]:=rfl
theorem qvL (ρ:Nat→Option Nat):qfp ρ .gone=.gone:=rfl
theorem qx4 (ρ:Nat→Option Nat) (cs:List AVal):qfp ρ (.box cs)=.box (cs.map (ren ρ)):=rfl
theorem qvN (ρ:Nat→Option Nat) (n sz:Nat):qfp ρ (.tail n sz)=.tail n sz:=rfl
theorem qvM (ρ:Nat→Option Nat):qfp ρ (.map [])=.map []:=rfl
theorem qx1 (call:CallT) (f:Nat) (args:List AVal) (h:Heap):qmd call f args h=if (qbP args h).all (fun i=>decide (i<h.length))=true then
  match call f (args.map (ren fun i=>qaC i (qbP args h) 0)) (qc5 (qbP args h) h) with
  | some (r,h2)=>some (qqm (qbP args h) (qpi (qbP args h).length r h2) h.length r,qfQ (qbP args h) (qpi (qbP args h).length r h2) h h2)
  | none=>none
 else none:=rfl
theorem qvh (k:Nat) (v:AVal) (h2:Heap):qpi k (.val v) h2=qdR k (qa9 v++(h2.take k).flatMap qp9) []:=rfl
theorem qsx (l nl:List Nat) (n j:Nat):qc1 l nl n j=if j<l.length then l[j]? else (qaC j nl 0).map (n+·):=rfl
theorem qtm (args:List AVal) (h:Heap):qbP args h=grow h (grow h (grow h (qdR 0 (args.flatMap qa9) []))):=rfl
theorem qzo (h:Heap) (l:List Nat):grow h l=qdR 0 (l.flatMap fun i=>qp9 ((h[i]?).getD .gone)) l:=rfl
theorem qtt (l:List Nat) (h:Heap):qc5 l h=l.map fun i=>qfp (fun i=>qaC i l 0) ((h[i]?).getD .gone):=rfl
def pb (l nl:List Nat) (n:Nat) (h2:Heap):Heap→Nat→Heap
 | [],_=>[]
 | o::os,i=>(match qaC i l 0 with | some j=>qfp (qc1 l nl n) ((h2[j]?).getD .gone) | none=>o)::pb l nl n h2 os (i+1)
theorem qBN (l nl:List Nat) (n:Nat) (h2:Heap) (i:Nat):pb l nl n h2 [] i=[]:=rfl
theorem qnV (l nl:List Nat) (n:Nat) (h2:Heap) (o:AObj) (os:Heap) (i:Nat):pb l nl n h2 (o::os) i=(match qaC i l 0 with | some j=>qfp (qc1 l nl n) ((h2[j]?).getD .gone) | none=>o)::pb l nl n h2 os (i+1):=rfl
theorem qpq (l nl:List Nat) (n:Nat) (h2:Heap):∀ (h:Heap) (k:Nat),(pb l nl n h2 h k).length=h.length
 | [],k=>rfl
 | o::os,k=>by rw[qnV,List.length_cons,List.length_cons,qpq l nl n h2 os]
theorem qyI (l nl:List Nat) (n:Nat) (h2:Heap):∀ (h:Heap) (k i:Nat) (o:AObj),h[i]? = some o→(pb l nl n h2 h k)[i]? = some (match qaC (k+i) l 0 with | some j=>qfp (qc1 l nl n) ((h2[j]?).getD .gone) | none=>o)
 | [],k,i,o,e=>by simp at e
 | x :: os,k,0,o,e => by
   simp at e
   subst e
   rw[qnV,List.getElem?_cons_zero,Nat.add_zero]
 | x :: os,k,i + 1,o,e => by
   rw[qnV,List.getElem?_cons_succ,qyI l nl n h2 os (k+1) i o (by simpa using e)]
   rw[show k+1+i=k+(i+1) by omega]
theorem qtb (l nl:List Nat) (h h2:Heap):qfQ l nl h h2=pb l nl h.length h2 h 0++nl.map fun j=>qfp (qc1 l nl h.length) ((h2[j]?).getD .gone):=by
 unfold qfQ
 congr 1
 refine List.ext_getElem? fun i=>?_
 by_cases hi:i<h.length
 ·rw[qyI l nl _ h2 h 0 i h[i] (List.getElem?_eq_getElem hi),Nat.zero_add]
  rw[List.getElem?_map,List.getElem?_range hi]
  simp only[Option.map_some,List.getElem?_eq_getElem hi,Option.getD_some]
  cases qaC i l 0<;>rfl
 ·rw[List.getElem?_eq_none (by simp;omega),List.getElem?_eq_none (by rw[qpq];omega)]
theorem qqn (l nl:List Nat) (n:Nat) (v:AVal):qqm l nl n (.val v)=.val (ren (qc1 l nl n) v):=rfl
theorem qsj (cs:List AVal):acells (.agg cs)=cs:=rfl
theorem qsk (k:IntKind) (n:Int):acells (.int k n)=[.int k n]:=rfl
theorem qqd (xs:List AVal) (o:Option (Option Nat)):acells (.list xs o)=[.list xs o]:=rfl
theorem qsm (a:Option (Nat × Nat)):acells (.ptr a)=[.ptr a]:=rfl
theorem qqe (cs:List AVal) (n:Nat):acells (.vptr cs n)=[.vptr cs n]:=rfl
theorem qsl (a:Option Nat):acells (.map a)=[.map a]:=rfl
theorem qqc (f:Nat) (a b:List AVal):acells (.func f a b)=[.func f a b]:=rfl
theorem qve:qfN=1073741824:=rfl
theorem qoA (l:List Step) (tm:Tmps) (hs:List Heap) (c:Nat × Nat × Nat) (cs:List (Nat × Nat × Nat)):qgj l tm hs (c::cs)=(qoz l tm hs c.1 c.2.1 c.2.2∧qgj l tm hs cs):=rfl
theorem qqv (l:List Step) (tm:Tmps) (hs:List Heap):qgj l tm hs []=True:=rfl
theorem qt6 (l:List Step) (tm:Tmps) (hs:List Heap) (i lo hi:Nat):qoz l tm hs i lo hi=match l[i]? with
 | some ⟨some d,g,o⟩=>qaf g tm=some true→∀ h∈(hs.drop lo).take (hi+1-lo),aOp (fun _=>false) qfd o tm h=some (.val (tm d),h)
 | _=>True:=rfl
theorem qCi:(true==false)=false:=rfl
theorem qCh:(false==true)=false:=rfl
theorem qyp (cs:List AVal):wipe (.agg cs)=.agg (cs.map wipeCell):=rfl
theorem qwy (xs:List AVal) (o:Option (Option Nat)):wipe (.list xs o)=.list xs none:=rfl
theorem qww (b:Bool):wipe (.bool b)=.bool b:=rfl
theorem qyq (k:IntKind) (n:Int):wipe (.int k n)=.int k n:=rfl
theorem qrd (cs:List AVal):wipeR (.tuple cs)=.tuple (cs.map wipe):=rfl
theorem qwt (cs:List AVal):wipeR (.agg cs)=.agg (cs.map wipeCell):=rfl
theorem qjn (xs:List AVal) (o:Option (Option Nat)):wipeR (.list xs o)=.list xs none:=rfl
theorem qty (b:Bool):wipeR (.bool b)=.bool b:=rfl
theorem qwu (k:IntKind) (n:Int):wipeR (.int k n)=.int k n:=rfl
theorem qys (a:Option (Nat × Nat)):wipe (.ptr a)=.ptr a:=rfl
theorem qcV (cs:List AVal) (n:Nat):wipe (.vptr cs n)=.vptr cs n:=rfl
theorem qyr (a:Option Nat):wipe (.map a)=.map a:=rfl
theorem qwx (f:Nat) (a b:List AVal):wipe (.func f a b)=.func f a b:=rfl
theorem qtx (xs:List AVal) (o:Option (Option Nat)):wipeCell (.list xs o)=.list xs none:=rfl
theorem qws (k:IntKind) (n:Int):wipeCell (.int k n)=.int k n:=rfl
theorem qa3 (xs:List AVal):qaH (.list xs none)=qax xs:=by simp[qaH]
theorem qjS (xs:List AVal):qaH (.list xs (some none))=qax xs:=by simp[qaH]
theorem qjT (xs:List AVal) (i:Nat):qaH (.list xs (some (some i)))=false:=by simp[qaH]
theorem qqG (b:Bool):qaH (.bool b)=true:=rfl
theorem qsT (k:IntKind) (n:Int):qaH (.int k n)=true:=rfl
theorem qsS (cs:List AVal):qaH (.agg cs)=qax cs:=rfl
theorem qoU (cs:List AVal):qaH (.tuple cs)=qax cs:=rfl
theorem qqH (f:Nat) (a b:List AVal):qaH (.func f a b)=(qax a && qax b):=rfl
theorem qqJ (cs:List AVal) (n:Nat):qaH (.vptr cs n)=qax cs:=rfl
theorem qsV (a:Nat × Nat):qaH (.ptr (some a))=false:=rfl
theorem qsU (a:Nat):qaH (.map (some a))=false:=rfl
theorem qqI:qaH .junk=true:=rfl
theorem qqF:qax []=true:=rfl
theorem qoT (v:AVal) (vs:List AVal):qax (v::vs)=(qaH v && qax vs):=rfl
theorem qhq (a b:List AVal):qax (a++b)=(qax a && qax b):=by
 induction a with
 | nil=>rfl
 | cons x xs ih=>rw[List.cons_append,qax,qax,ih,Bool.and_assoc]
theorem qfL {α:Type} (f:α→AVal) (h:∀ a,qaH (f a)=true) (l:List α):qax (l.map f)=true:=by
 induction l with
 | nil=>rfl
 | cons x xs ih=>rw[List.map_cons,qax,h,ih];rfl
theorem all_map {α:Type} (f:α→AVal) (n:Nat) (h:∀ a,(acells (f a)).length=n) (l:List α):((l.map f).all fun v=>decide ((acells v).length=n))=true:=by
 rw[List.all_eq_true]
 intro x hx
 obtain⟨a,_,rfl⟩:=List.mem_map.1 hx
 simp[h a]
theorem qs9 (n:Nat) (acc:List Nat):qdR n [] acc=acc:=rfl
theorem qqQ (n i:Nat) (is acc:List Nat):qdR n (i::is) acc=qdR n is (if n≤i∧i∉acc then acc++[i] else acc):=rfl
theorem qxm (n:Nat) (l:List Nat) (i:Nat):qe6 n l i=if i<n then some i else qaC i l n:=rfl
noncomputable def qbc (pure:Nat→Bool) (call:CallT) (b:Nat) (keep fk:List Nat) (body:ACode) (s:St):Option (AExit × St) :=
 match qa0 pure call body s with
 | some (.normal,s')=>some (.normal,gc b keep s')
 | some (e,s')=>some (gcE b fk (e,s'))
 | none=>none
theorem qv1 (pure:Nat→Bool) (call:CallT) (b:Nat) (keep fk:List Nat) (body:ACode) (s:St):qbc pure call b keep fk body s=match qa0 pure call body s with
 | some (.normal,s')=>some (.normal,gc b keep s')
 | some (e,s')=>some (gcE b fk (e,s'))
 | none=>none:=rfl
noncomputable def qba (pure:Nat→Bool) (call:CallT) (b:Nat) (keep fk:List Nat) (id:Nat) (body:ACode) (s:St):Option (AExit × St) :=
 (match (match qa0 pure call body s with
   | some (.normal,s')=>qlc (fun s1=>qa0 pure call body (gc b keep s1)) s'
   | r=>r) with
  | some (.exit id',s')=>if id'=id then some (AExit.normal,s') else some (AExit.exit id',s')
  | r=>r).map (gcE b fk)
theorem qsI (pure:Nat→Bool) (call:CallT) (keep fk:List Nat) (id:Nat) (body:ACode) (tm:Tmps) (h:Heap) :
  qa0 pure call (.frame fk (.block id (.gloop keep body))) ⟨tm,h⟩=qba pure call h.length keep fk id body (gc h.length keep ⟨tm,h⟩):=by
 unfold qba
 simp only[qa0]
 rw[qrY]
 rfl
section
variable {pure:Nat→Bool} {call:CallT} {b:Nat} {keep fk:List Nat} {id:Nat} {body:ACode}
theorem qfa {s s1:St} (h:qbc pure call b keep fk body s=some (.normal,s1)):qba pure call b keep fk id body s=qba pure call b keep fk id body s1:=by
 unfold qbc at h
 unfold qba
 cases hx:qa0 pure call body s with
 | none=>rw[hx] at h;cases h
 | some x =>
   obtain⟨e,s'⟩:=x
   rw[hx] at h
   cases e with
   | normal =>
     simp only[Option.some.injEq,Prod.mk.injEq,true_and] at h
     dsimp only
     rw[qrY,h]
     rfl
   | panic v=>simp[gcE] at h
   | exit i=>simp[gcE] at h
   | ret=>simp[gcE] at h
theorem qej {s s1:St} (h:qbc pure call b keep fk body s=some (.exit id,s1)):qba pure call b keep fk id body s=some (.normal,s1):=by
 unfold qbc at h
 unfold qba
 cases hx:qa0 pure call body s with
 | none=>rw[hx] at h;cases h
 | some x =>
   obtain⟨e,s'⟩:=x
   rw[hx] at h
   cases e with
   | normal=>simp at h
   | panic v=>simp[gcE] at h
   | exit i =>
     simp only[gcE,Option.some.injEq,Prod.mk.injEq,AExit.exit.injEq] at h
     obtain⟨rfl,rfl⟩:=h
     simp[gcE]
   | ret=>simp[gcE] at h
theorem qld {s s1:St} (h:qbc pure call b keep fk body s=some (.ret,s1)):qba pure call b keep fk id body s=some (.ret,s1):=by
 unfold qbc at h
 unfold qba
 cases hx:qa0 pure call body s with
 | none=>rw[hx] at h;cases h
 | some x =>
   obtain⟨e,s'⟩:=x
   rw[hx] at h
   cases e with
   | normal=>simp at h
   | panic v=>simp[gcE] at h
   | exit i=>simp[gcE] at h
   | ret =>
     simp only[gcE,Option.some.injEq,Prod.mk.injEq,true_and] at h
     subst h
     rfl
def qb1:List Int→Int
 | []=>0
 | e::es=>if e=0 then qb1 es else e
def qaE {α β:Type} (g:Nat→α→Option β):List α→Nat→Option β
 | [],_=>none
 | x::xs,i=>match g i x with | some r=>some r | none=>qaE g xs (i+1)
theorem qhN (C:Nat→St) (n:Nat) {T:St} (hstep:∀ i,i<n→qbc pure call b keep fk body (C i)=some (.normal,C (i+1)))
  (hend:qbc pure call b keep fk body (C n)=some (.exit id,T)):qba pure call b keep fk id body (C 0)=some (.normal,T):=by
 have key:∀ k i,i+k=n→qba pure call b keep fk id body (C i)=some (.normal,T):=by
  intro k
  induction k with
  | zero=>intro i hi;rw[Nat.add_zero] at hi;subst hi;exact qej hend
  | succ k ih=>intro i hi;rw[qfa (hstep i (by omega))];exact ih (i+1) (by omega)
 exact key n 0 (by omega)
def qbh {β:Type} (R:β→St) (T:St):Option β→AExit × St
 | some r=>(.ret,R r)
 | none=>(.normal,T)
theorem qgu (C:Nat→St) (n:Nat) (Q:Nat→Option (AExit × St)) {T:St}
  (hstep:∀ i,i<n→(qbc pure call b keep fk body (C i)=some (.normal,C (i+1))∧Q i=Q (i+1))∨∃ s',qbc pure call b keep fk body (C i)=some (.ret,s')∧Q i=some (.ret,s'))
  (hend:qbc pure call b keep fk body (C n)=some (.exit id,T)) (hQ:Q n=some (.normal,T)):qba pure call b keep fk id body (C 0)=Q 0:=by
 have key:∀ k i,i+k=n→qba pure call b keep fk id body (C i)=Q i:=by
  intro k
  induction k with
  | zero=>intro i hi;rw[Nat.add_zero] at hi;subst hi;rw[qej hend,hQ]
  | succ k ih =>
    intro i hi
    rcases hstep i (by omega) with ⟨h1,h2⟩ | ⟨s',h1,h2⟩
    ·rw[qfa h1,h2];exact ih (i+1) (by omega)
    ·rw[qld h1,h2]
 exact key n 0 (by omega)
theorem qu9 {α:Type} (xs:List α) (g:α→Int) (C:Nat→St) (T:St) (R:Int→St)
  (h0:∀ (i:Nat) (hi:i<xs.length),g xs[i]=0→qbc pure call b keep fk body (C i)=some (.normal,C (i+1)))
  (h1:∀ (i:Nat) (hi:i<xs.length),g xs[i]≠0→qbc pure call b keep fk body (C i)=some (.ret,R (g xs[i])))
  (hend:qbc pure call b keep fk body (C xs.length)=some (.exit id,T)) :
  qba pure call b keep fk id body (C 0)=some (if qb1 (xs.map g)=0 then (.normal,T) else (.ret,R (qb1 (xs.map g)))):=by
 refine qgu C xs.length (fun i=>some (if qb1 ((xs.drop i).map g)=0 then (.normal,T) else (.ret,R (qb1 ((xs.drop i).map g))))) ?_ hend (by simp[qb1])
 intro i hi
 have hdrop:xs.drop i=xs[i]::xs.drop (i+1):=List.drop_eq_getElem_cons hi
 rw[hdrop]
 simp only[List.map_cons,qb1]
 by_cases he:g xs[i]=0
 ·left
  rw[if_pos he]
  exact⟨h0 i hi he,rfl⟩
 ·right
  rw[if_neg he,if_neg he]
  exact⟨_,h1 i hi he,rfl⟩
theorem qe9 {α:Type} (xs:List α) (p:α→Bool) (C:Nat→St) (T R:St)
  (h0:∀ (i:Nat) (hi:i<xs.length),p xs[i]=false→qbc pure call b keep fk body (C i)=some (.normal,C (i+1)))
  (h1:∀ (i:Nat) (hi:i<xs.length),p xs[i]=true→qbc pure call b keep fk body (C i)=some (.ret,R))
  (hend:qbc pure call b keep fk body (C xs.length)=some (.exit id,T)) :
  qba pure call b keep fk id body (C 0)=some (if xs.any p=true then (.ret,R) else (.normal,T)):=by
 refine qgu C xs.length (fun i=>some (if (xs.drop i).any p=true then (.ret,R) else (.normal,T))) ?_ hend (by simp)
 intro i hi
 have hdrop:xs.drop i=xs[i]::xs.drop (i+1):=List.drop_eq_getElem_cons hi
 rw[hdrop]
 simp only[List.any_cons]
 by_cases he:p xs[i]=true
 ·right
  simp only[he,Bool.true_or,if_true]
  exact⟨_,h1 i hi he,rfl⟩
 ·left
  have he':p xs[i]=false:=by simpa using he
  simp only[he',Bool.false_or,and_true]
  exact h0 i hi he'
theorem qb6 {α β:Type} (xs:List α) (g:Nat→α→Option β) (C:Nat→St) (T:St) (R:β→St)
  (h0:∀ (i:Nat) (hi:i<xs.length),g i xs[i]=none→qbc pure call b keep fk body (C i)=some (.normal,C (i+1)))
  (h1:∀ (i:Nat) (hi:i<xs.length) (r:β),g i xs[i]=some r→qbc pure call b keep fk body (C i)=some (.ret,R r))
  (hend:qbc pure call b keep fk body (C xs.length)=some (.exit id,T)) :
  qba pure call b keep fk id body (C 0)=some (qbh R T (qaE g xs 0)):=by
 refine qgu C xs.length (fun i=>some (qbh R T (qaE g (xs.drop i) i))) ?_ hend (by simp[qaE,qbh])
 intro i hi
 have hdrop:xs.drop i=xs[i]::xs.drop (i+1):=List.drop_eq_getElem_cons hi
 rw[hdrop]
 simp only[qaE]
 cases he:g i xs[i] with
 | none =>
   left
   simp only[and_true]
   exact h0 i hi he
 | some r =>
   right
   exact⟨_,h1 i hi r he,rfl⟩
end
theorem qcy {n:Int} (h1 : -2 ^ 63≤n) (h2:n<2 ^ 63):IntKind.i64.wrap n=n:=by
 have h:IntKind.i64.wrap n=(if (true && decide (n % 2 ^ 64≥2 ^ (64-1)))=true then n % 2 ^ 64-2 ^ 64 else n % 2 ^ 64):=rfl
 rw[h]
 by_cases hc:n % 2 ^ 64≥2 ^ (64-1)
 ·rw[if_pos (by simp only[Bool.true_and,decide_eq_true_eq];exact hc)]
  omega
 ·rw[if_neg (by simp only[Bool.true_and,decide_eq_true_eq];exact hc)]
  omega
set_option linter.defProp false in
def ev_:=And.intro @que <| And.intro @qw0 <| And.intro @qud <| And.intro @qxV <| And.intro @qvr <| And.intro @qxT <| And.intro @qvm <| And.intro @qub <| And.intro @qw2 <| And.intro @qua <| And.intro @qsH <| And.intro @quc <| And.intro @qw1 <| And.intro @qxW <| And.intro @qta <| And.intro @qAP <| And.intro @qB1 <| And.intro @qym <| And.intro @quP <| And.intro @qu1 <| And.intro @qsj <| And.intro @qsk <| And.intro @qqd <| And.intro @qsm <| And.intro @qqe <| And.intro @qsl <| And.intro @qqc <| And.intro @qsI <| And.intro @qCr <| And.intro @qsW <| And.intro @qqK <| And.intro @qxl <| And.intro @qs9 <| And.intro @qqQ <| And.intro @qxm <| And.intro @qvL <| And.intro @qx4 <| And.intro @qvN <| And.intro @qvM <| And.intro @quM <| And.intro @qxp <| And.intro @quO <| And.intro @quN <| And.intro @qy8 <| And.intro @qxU <| And.intro @qvq <| And.intro @qyp <| And.intro @qwy <| And.intro @qww <| And.intro @qyq <| And.intro @qrd <| And.intro @qwt <| And.intro @qjn <| And.intro @qty <| And.intro @qwu <| And.intro @qys <| And.intro @qcV <| And.intro @qyr <| And.intro @qwx <| And.intro @qtx <| And.intro @qws <| And.intro @qa3 <| And.intro @qjS <| And.intro @qjT <| And.intro @qqG <| And.intro @qsT <| And.intro @qsS <| And.intro @qoU <| And.intro @qqH <| And.intro @qqJ <| And.intro @qsV <| And.intro @qsU <| And.intro @qqI <| And.intro @qqF <| And.intro @qoT <| And.intro @qhq <| And.intro @qCi <| And.intro @qCh <| And.intro @beq_self_eq_true.{0} <| And.intro @Option.map_some.{0,0} <| And.intro @Option.map_none.{0,0} <| And.intro @Option.getD_some.{0} <| And.intro @Option.getD_none.{0} <| And.intro @List.map_cons.{0,0} <| And.intro @List.map_nil.{0,0} <| And.intro @List.flatMap_cons.{0,0} <| And.intro @List.flatMap_nil.{0,0} <| And.intro @List.length_cons.{0} <| And.intro @List.length_nil.{0} <| And.intro @List.length_append.{0} <| And.intro @List.length_map.{0,0} <| And.intro @List.cons_append.{0} <| And.intro @List.nil_append.{0} <| And.intro @List.append_nil.{0} <| And.intro @List.append_assoc.{0} <| And.intro @List.getElem?_nil.{0} <| And.intro @List.getElem?_cons_zero.{0} <| And.intro @List.getElem?_cons_succ.{0} <| And.intro @List.set_cons_zero.{0} <| And.intro @List.set_cons_succ.{0} <| And.intro @List.take_succ_cons.{0} <| And.intro @List.take_zero.{0} <| And.intro @List.drop_succ_cons.{0} <| And.intro @List.drop_zero.{0} <| And.intro @List.take_nil.{0} <| And.intro @List.drop_nil.{0} <| And.intro @List.all_cons.{0} <| And.intro @List.all_nil.{0} <| And.intro @List.mem_cons.{0} <| And.intro @List.not_mem_nil.{0} <| And.intro @Bool.and_true <| And.intro @Bool.true_and <| And.intro @Bool.and_false <| And.intro @Bool.false_and <| And.intro @Bool.or_true <| And.intro @Bool.true_or <| And.intro @Bool.or_false <| And.intro @Bool.false_or <| And.intro @Bool.not_true <| And.intro @Bool.not_false <| And.intro @Bool.false_eq_true <| And.intro @Bool.true_eq_false <| And.intro @and_true <| And.intro @true_and <| And.intro @and_false <| And.intro @false_and <| And.intro @or_true <| And.intro @or_false <| And.intro @not_true_eq_false <| And.intro @not_false_eq_true <| And.intro @decide_true <| And.intro @decide_false <| And.intro @and_self <| And.intro @Nat.le_refl <| And.intro @Nat.zero_le <| And.intro @Nat.add_zero <| And.intro @Nat.zero_add <| And.intro @Int.toNat_natCast <| And.intro @Int.natCast_nonneg <| And.intro @List.cons_ne_nil.{0} <| And.intro @qv1 <| And.intro @qve <| And.intro @qoA <| And.intro @qqv <| And.intro @qt6 <| And.intro @qup <| And.intro @List.map_append.{0,0} <| And.intro @qBF <| And.intro @Int.cast_ofNat_Int <| And.intro @qqx <| And.intro @quf <| And.intro @qsP <| And.intro @qxj <| And.intro @qzl <| And.intro @Option.isSome_some.{0} <| And.intro @Option.isSome_none.{0} <| And.intro @ql5 <| And.intro @qx1 <| And.intro @qtm <| And.intro @qzo <| And.intro @qtt <| And.intro @qvh <| And.intro @qsx <| And.intro @qtb <| And.intro @qBN <| And.intro @qnV <| @qqn
end Go.Abs
