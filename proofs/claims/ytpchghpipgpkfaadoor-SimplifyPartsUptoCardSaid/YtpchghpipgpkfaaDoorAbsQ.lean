/-
  Evaluating the abstract machine: the laws by which a simp set steps through code. Conditions: none.
-/
import Derived.Test.YtpchghpipgpkfaaDoorAbsB
set_option linter.unusedVariables false
namespace Go.Abs
theorem qyB (tm:Tmps) (d t:Nat) (v:AVal):upd tm (some d) v t=if t=d then v else tm t:=rfl
theorem qu7 (tm:Tmps) (v:AVal):upd tm none v=tm:=rfl
theorem qrR (args:List AVal) (i:Nat):qdA args i=(args[i]?).getD (.tuple []):=rfl
theorem qxx (pure:Nat→Bool) (call:CallT) (s:St):qb0 pure call [] s=some (.normal,s):=rfl
theorem quI (pure:Nat→Bool) (call:CallT) (d:Option Nat) (o:AOp) (r:List Step) (tm:Tmps) (h:Heap) :
  qb0 pure call (⟨d,none,o⟩::r) ⟨tm,h⟩=match aOp pure call o tm h with | some (.val v,h')=>qb0 pure call r ⟨upd tm d v,h'⟩ | some (.panic v,h')=>some (.panic v,⟨tm,h'⟩) | none=>none:=rfl
theorem qqv (pure:Nat→Bool) (call:CallT) (d:Option Nat) (g:Option Nat × Bool) (o:AOp) (r:List Step) (tm:Tmps) (h:Heap) :
  qb0 pure call (⟨d,some g,o⟩::r) ⟨tm,h⟩=match qaf (some g) tm with
   | some true=>(match aOp pure call o tm h with | some (.val v,h')=>qb0 pure call r ⟨upd tm d v,h'⟩ | some (.panic v,h')=>some (.panic v,⟨tm,h'⟩) | none=>none)
   | some false=>qb0 pure call r ⟨upd tm d (.tuple []),h⟩
   | none=>none:=rfl
theorem quH (pure:Nat→Bool) (call:CallT) (s:St):qdH pure call [] s=some (.normal,s):=rfl
theorem qsq (pure:Nat→Bool) (call:CallT) (d:Option Nat) (o:AOp) (r:List Step) (tm:Tmps) (h:Heap) :
  qdH pure call (⟨d,none,o⟩::r) ⟨tm,h⟩=match qih pure call o tm h with | some (.val v,h')=>qdH pure call r ⟨upd tm d v,h'⟩ | some (.panic v,h')=>some (.panic v,⟨tm,h'⟩) | none=>none:=rfl
theorem quF (pure:Nat→Bool) (call:CallT) (x:Opd) (tm:Tmps) (h:Heap):qih pure call (.move x) tm h=some (.val (opd tm x),h):=rfl
theorem qsk (pure:Nat→Bool) (call:CallT) (n:Nat) (a:Opd) (tm:Tmps) (h:Heap):qih pure call (.field n a) tm h=aOp pure call (.field n a) tm h:=rfl
def qmo (l:List Step) (tm:Tmps) (hs:List Heap) (i lo hi:Nat):Prop :=
 match l[i]? with
 | some ⟨some d,g,o⟩=>qaf g tm=some true→∀ h∈(hs.drop lo).take (hi+1-lo),aOp (fun _=>false) qd6 o tm h=some (.val (tm d),h)
 | _=>True
def qeZ (l:List Step) (tm:Tmps) (hs:List Heap):List (Nat × Nat × Nat)→Prop
 | []=>True
 | c::cs=>qmo l tm hs c.1 c.2.1 c.2.2∧qeZ l tm hs cs
theorem qrg {l:List Step} {tm:Tmps} {hs:List Heap} {c:Nat × Nat × Nat} (h:qmo l tm hs c.1 c.2.1 c.2.2):qiZ l tm hs c:=by
 intro s d h1 h2 h3 k hp hk1 hk2 hk
 unfold qmo at h
 obtain⟨d',g,o⟩:=s
 dsimp only at h2
 subst h2
 rw[h1] at h
 refine h h3 hp ?_
 refine List.mem_of_getElem? (i:=k-c.2.1) ?_
 rw[List.getElem?_take,if_pos (by omega),List.getElem?_drop,show c.2.1+(k-c.2.1)=k by omega]
 exact hk
theorem qkx {l:List Step} {tm:Tmps} {hs:List Heap}:∀ {cs:List (Nat × Nat × Nat)},qeZ l tm hs cs→∀ c∈cs,qiZ l tm hs c
 | [],_=>by simp
 | c :: cs,h => by
   intro c' hc
   rcases List.mem_cons.1 hc with rfl | hc
   ·exact qrg h.1
   ·exact qkx h.2 c' hc
theorem qvR {pure:Nat→Bool} {call:CallT} {l:List Step} {cs:List (Nat × Nat × Nat)} {s:St} {tm:Tmps} {hs:List Heap} {h:Heap}
  (hr:qcO pure call l s.tm [] s.h=some (tm,hs,h)) (hc:qeZ l tm hs cs):qga pure call l cs s=some (.normal,⟨tm,h⟩):=by
 unfold qga
 rw[hr]
 exact if_pos (qkx hc)
noncomputable def qoH (pure:Nat→Bool) (call:CallT) (l:List Step) (cs:List (Nat × Nat × Nat)) (s:St):Option (AExit × St):=qga pure call l cs s
open Classical in
noncomputable def qrv (pure:Nat→Bool) (call:CallT) (l:List Step) (cs:List (Nat × Nat × Nat)) (s:St) (r:Option (Tmps × List Heap × Heap)):Option (AExit × St) :=
 match r with
 | some (tm,hs,h)=>if qeZ l tm hs cs then some (.normal,⟨tm,h⟩) else qoH pure call l cs s
 | none=>qoH pure call l cs s
theorem qvQ (pure:Nat→Bool) (call:CallT) (l:List Step) (cs:List (Nat × Nat × Nat)) (s:St):qga pure call l cs s=qrv pure call l cs s (qcO pure call l s.tm [] s.h):=by
 unfold qrv
 split
 ·rename_i tm hs h hr
  split
  ·rename_i hc
   exact qvR hr hc
  ·rfl
 ·rfl
open Classical in
theorem qrw (pure:Nat→Bool) (call:CallT) (l:List Step) (cs:List (Nat × Nat × Nat)) (s:St) (tm:Tmps) (hs:List Heap) (h:Heap) :
  qrv pure call l cs s (some (tm,hs,h))=if qeZ l tm hs cs then some (.normal,⟨tm,h⟩) else qoH pure call l cs s:=rfl
theorem quG (pure:Nat→Bool) (call:CallT) (tm:Tmps) (hs:List Heap) (h:Heap):qcO pure call [] tm hs h=some (tm,hs++[h],h):=rfl
theorem qsp (pure:Nat→Bool) (call:CallT) (d:Option Nat) (g:Option (Option Nat × Bool)) (o:AOp) (r:List Step) (tm:Tmps) (hs:List Heap) (h:Heap) :
  qcO pure call (⟨d,g,o⟩::r) tm hs h=match qaf g tm with
   | some true=>(match aOp pure call o tm h with | some (.val v,h')=>qcO pure call r (upd tm d v) (if qaC o=true then hs++[h] else hs) h' | _=>none)
   | some false=>qcO pure call r (upd tm d (.tuple [])) (if qaC o=true then hs++[h] else hs) h
   | none=>none:=rfl
theorem qo5 {h:Heap} {v:AVal} (hv:qay (wipeR v)=true):qeP h v=wipeR v:=if_pos hv
noncomputable def pcall (L:Lib) (f:Nat) (args:List AVal) (h:Heap):Option (ARes × Heap) :=
 match call L f args [] with
 | some (.val v,h2)=>if qay (qeP h2 v)=true then some (.val (qeP h2 v),h) else none
 | some (.panic v,h2)=>if qay (qeP h2 v)=true then some (.panic (qeP h2 v),h) else none
 | none=>none
theorem qam (L:Lib) (hp:∀ f,L.pure f=true) (f:Nat) (args:List AVal) (h:Heap) :
  qcw L.pure (call L) f args h=if qas (args.map wipe)=true then pcall L f (args.map wipe) h else qki (call L) f args h:=by
 unfold qcw pcall
 by_cases hd:qas (args.map wipe)=true
 ·rw[if_pos ⟨hp f,hd⟩,if_pos hd]
  cases call L f (args.map wipe) [] with
  | none=>rfl
  | some x=>obtain⟨v,h'⟩:=x;cases v<;>rfl
 ·rw[if_neg (fun hx=>hd hx.2),if_neg hd]
theorem quK {L:Lib} {f:Nat} {fn:AFn} {args:List AVal} {v:AVal} (h':Heap) (hs:L.summ f=none) (hf:L.fns f=some fn)
  (hr:qan fn.results (qaT L.pure (call L) fn.body ⟨qdA args,[]⟩)=some (.val v,h')) (hv:qay (wipeR v)=true) (h:Heap):pcall L f args h=some (.val (wipeR v),h):=by
 unfold pcall
 rw[qaA hs hf hr]
 dsimp only
 rw[qo5 hv,if_pos hv]
theorem qcf {L:Lib} {f:Nat} {args:List AVal} {v u:AVal} {h':Heap} (hr:call L f args []=some (.val v,h')) (hu:qeP h' v=u) (hd:qay u=true) (h:Heap):pcall L f args h=some (.val u,h):=by
 unfold pcall
 rw[hr]
 dsimp only
 rw[hu,if_pos hd]
theorem qjF {h:Heap} {v u:AVal} (hp:qe7 u=true) (hd:qeP h v=u):v=u:=by
 unfold qeP at hd
 split at hd
 ·cases v<;>simp only[wipeR,wipe,wipeCell] at hd<;>subst hd<;>first | rfl | (simp[qe7] at hp)
 ·rename_i hn
  exfalso
  unfold viewV at hd
  rw[qaW] at hd
  split at hd
  ·rename_i hdd
   exact hn (by cases v<;>simp only[wipeR,wipe,wipeCell] at hd ⊢ <;> first | (subst hd;first | rfl | (simp[qe7] at hp;done)) | (exfalso;revert hp;rw[← hd];simp[qe7]))
  ·unfold qc1 at hd
   cases v<;>(try dsimp only at hd)<;>(repeat' (first | (simp only[wipeR,wipe,wipeCell] at hd;subst hd;simp[qe7] at hp;done) | split at hd))
theorem qeK {L:Lib} {f:Nat} {args args':List AVal} {h:Heap} {u:AVal} (ha:args.map (lookV h)=args') (hd:qas args'=true) (hp:qe7 u=true) (hc:pcall L f args' h=some (.val u,h)):qhG (call L) f args h=some (.val u,h):=by
 unfold pcall at hc
 unfold qhG
 rw[ha,if_pos hd]
 split at hc
 ·rename_i v h2 he
  rw[he]
  dsimp only
  split at hc
  ·simp only[Option.some.injEq,Prod.mk.injEq,ARes.val.injEq,and_true] at hc
   rw[qjF hp hc,if_pos hp]
  ·cases hc
 ·split at hc
  ·simp at hc
  ·cases hc
 ·cases hc
def kt:List Nat→List AVal→Tmps
 | k::ks,v::vs,t=>if t=k then v else kt ks vs t
 | _,_,_=>.junk
theorem qr1 (k:Nat) (ks:List Nat) (v:AVal) (vs:List AVal) (t:Nat):kt (k::ks) (v::vs) t=if t=k then v else kt ks vs t:=rfl
theorem qyf (ks:List Nat) (t:Nat):kt ks [] t=.junk:=by cases ks<;>rfl
theorem qr2 (g:Nat→AVal):∀ (keep:List Nat),kt keep (keep.map g)=fun t=>if t∈keep then g t else .junk
 | []=>by funext t;simp[kt]
 | k :: ks => by
   funext t
   rw[List.map_cons,qr1,qr2 g ks]
   by_cases h:t=k<;>simp[h]
theorem qqi:qkK []=false:=rfl
theorem qom (k:Nat) (ks:List Nat):qkK (k::ks)=decide (k=1000000):=rfl
theorem qyY (b:Nat) (keep:List Nat) (tm:Tmps) (h:Heap):gc b keep ⟨tm,h⟩ =
  if qkK keep=true then ⟨kt (keep.drop 1) ((keep.drop 1).map tm),h⟩
  else if b≤h.length then ⟨kt keep (keep.map fun t=>ren (qd1 b (qfX b keep ⟨tm,h⟩)) (tm t)),
   (h.take b).map (qeh (qd1 b (qfX b keep ⟨tm,h⟩)))++(qfX b keep ⟨tm,h⟩).map fun id=>qeh (qd1 b (qfX b keep ⟨tm,h⟩)) ((h[id]?).getD .gone)⟩ else ⟨tm,h⟩:=by
 unfold gc gc1 qy9
 rw[qr2,qr2]
theorem qua (b:Nat) (keep:List Nat) (tm:Tmps) (h:Heap):qfX b keep ⟨tm,h⟩=qc7 b (keep.flatMap (fun t=>qa3 (tm t))++(h.take b).flatMap qnL) []:=rfl
section
variable (pure:Nat→Bool) (call:CallT)
theorem qrm (s:St):qaT pure call .skip s=some (.normal,s):=rfl
theorem qtH (l:List Step) (s:St):qaT pure call (.ops l) s=qb0 pure call l s:=rfl
theorem qrl (l:List Step) (s:St):qaT pure call (.kops l) s=qdH pure call l s:=rfl
theorem qrj (l:List Step) (cs:List (Nat × Nat × Nat)) (s:St):qaT pure call (.draw l cs) s=qga pure call l cs s:=rfl
theorem qtJ (a b:ACode) (s:St):qaT pure call (.seq a b) s=match qaT pure call a s with | some (.normal,s')=>qaT pure call b s' | r=>r:=rfl
theorem qri (c:Opd) (a b:ACode) (s:St):qaT pure call (.cond c a b) s=match opd s.tm c with | .bool t=>if t then qaT pure call a s else qaT pure call b s | _=>none:=rfl
theorem qp4 (id:Nat) (c:ACode) (s:St):qaT pure call (.block id c) s=match qaT pure call c s with | some (.exit id',s')=>if id'=id then some (.normal,s') else some (.exit id',s') | r=>r:=rfl
theorem qka (k:List Nat) (a b:ACode) (s:St):qaT pure call (.frame k (.seq a b)) s=(qaT pure call (.seq a b) s).map (gcE s.h.length k):=rfl
theorem qn9 (t:Nat) (c:ACode) (s:St):qaT pure call (.freeze t c) s=qaT pure call c (qev t s):=rfl
theorem qrn (c:ACode) (s:St):qaT pure call (.view c) s=qaT pure call c (qnE s):=rfl
theorem qrk (id:Nat) (s:St):qaT pure call (.exit id) s=some (.exit id,s):=rfl
theorem qtI (s:St):qaT pure call .ret s=some (.ret,s):=rfl
end
def qcy (b:Nat):Nat→Option (Option Nat)
 | 0=>some none
 | _+1=>some (some b)
def qbw (sz:Nat):Nat→Heap
 | 0=>[]
 | n+1=>[.tail (n+1) sz]
theorem qds (b:Nat):qcy b 0=some none:=rfl
theorem qhx (b n:Nat):qcy b (n+1)=some (some b):=rfl
theorem qdG (sz:Nat):qbw sz 0=[]:=rfl
theorem qgt (sz n:Nat):qbw sz (n+1)=[.tail (n+1) sz]:=rfl
theorem qd8 {b n:Nat} (h:0<n):qcy b n=some (some b):=by cases n with | zero=>omega | succ n=>rfl
theorem qdu {sz n:Nat} (h:0<n):qbw sz n=[.tail n sz]:=by cases n with | zero=>omega | succ n=>rfl
theorem qm5 (b sz n:Nat):(qcy b n=some none∧qbw sz n=[])∨(qcy b n=some (some b)∧qbw sz n=[.tail n sz]):=by
 cases n with
 | zero=>exact .inl ⟨rfl,rfl⟩
 | succ n=>exact .inr ⟨rfl,rfl⟩
def qzf (id sz:Nat) (cs:List AVal) (tm:Tmps):Tmps:=fun i=>frz id sz cs (tm i)
theorem qv2 (id sz:Nat) (cs:List AVal) (tm:Tmps) (i:Nat):qzf id sz cs tm i=frz id sz cs (tm i):=rfl
theorem qt8 (id sz:Nat) (cs:List AVal) (tm:Tmps) (h:Heap):qib id sz cs ⟨tm,h⟩=if qas cs=true∧cs.all leaf=true then ⟨qzf id sz cs tm,(h.set id .gone).map (qj5 id sz cs)⟩ else ⟨tm,h⟩:=rfl
theorem qqd (t:Nat) (tm:Tmps) (h:Heap):qev t ⟨tm,h⟩=match tm t with
 | .ptr (some (id,0))=>(match h[id]? with | some (.box cs)=>qib id 0 (cs.map wipeCell) ⟨tm,h⟩ | _=>⟨tm,h⟩)
 | .vec id _=>(match h[id]? with | some (.vec cs sz)=>qib id sz (cs.map wipeCell) ⟨tm,h⟩ | _=>⟨tm,h⟩)
 | _=>⟨tm,h⟩:=rfl
theorem qrO:qnL .gone=[]:=rfl
theorem quf (cs:List AVal):qnL (.box cs)=cs.flatMap qa3:=rfl
theorem qrQ (n sz:Nat):qnL (.tail n sz)=[]:=rfl
theorem qrP:qnL (.map [])=[]:=rfl
theorem qsK (ρ:Nat→Option Nat):qeh ρ .gone=.gone:=rfl
theorem quQ (ρ:Nat→Option Nat) (cs:List AVal):qeh ρ (.box cs)=.box (cs.map (ren ρ)):=rfl
theorem qsM (ρ:Nat→Option Nat) (n sz:Nat):qeh ρ (.tail n sz)=.tail n sz:=rfl
theorem qsL (ρ:Nat→Option Nat):qeh ρ (.map [])=.map []:=rfl
theorem quO (call:CallT) (f:Nat) (args:List AVal) (h:Heap):qki call f args h=if (qbs args h).all (fun i=>decide (i<h.length))=true then
  match call f (args.map (ren fun i=>qav i (qbs args h) 0)) (qct (qbs args h) h) with
  | some (r,h2)=>some (qnX (qbs args h) (qm0 (qbs args h).length r h2) h.length r,qeB (qbs args h) (qm0 (qbs args h).length r h2) h h2)
  | none=>none
 else none:=rfl
theorem qse (k:Nat) (v:AVal) (h2:Heap):qm0 k (.val v) h2=qc7 k (qa3 v++(h2.take k).flatMap qnL) []:=rfl
theorem qpT (l nl:List Nat) (n j:Nat):qcn l nl n j=if j<l.length then l[j]? else (qav j nl 0).map (n+·):=rfl
theorem qqD (args:List AVal) (h:Heap):qbs args h=grow h (grow h (grow h (qc7 0 (args.flatMap qa3) []))):=rfl
theorem qv5 (h:Heap) (l:List Nat):grow h l=qc7 0 (l.flatMap fun i=>qnL ((h[i]?).getD .gone)) l:=rfl
theorem qqJ (l:List Nat) (h:Heap):qct l h=l.map fun i=>qeh (fun i=>qav i l 0) ((h[i]?).getD .gone):=rfl
def pb (l nl:List Nat) (n:Nat) (h2:Heap):Heap→Nat→Heap
 | [],_=>[]
 | o::os,i=>(match qav i l 0 with | some j=>qeh (qcn l nl n) ((h2[j]?).getD .gone) | none=>o)::pb l nl n h2 os (i+1)
theorem qyn (l nl:List Nat) (n:Nat) (h2:Heap) (i:Nat):pb l nl n h2 [] i=[]:=rfl
theorem qlO (l nl:List Nat) (n:Nat) (h2:Heap) (o:AObj) (os:Heap) (i:Nat):pb l nl n h2 (o::os) i=(match qav i l 0 with | some j=>qeh (qcn l nl n) ((h2[j]?).getD .gone) | none=>o)::pb l nl n h2 os (i+1):=rfl
theorem qm7 (l nl:List Nat) (n:Nat) (h2:Heap):∀ (h:Heap) (k:Nat),(pb l nl n h2 h k).length=h.length
 | [],k=>rfl
 | o::os,k=>by rw[qlO,List.length_cons,List.length_cons,qm7 l nl n h2 os]
theorem qvr (l nl:List Nat) (n:Nat) (h2:Heap):∀ (h:Heap) (k i:Nat) (o:AObj),h[i]? = some o→(pb l nl n h2 h k)[i]? = some (match qav (k+i) l 0 with | some j=>qeh (qcn l nl n) ((h2[j]?).getD .gone) | none=>o)
 | [],k,i,o,e=>by simp at e
 | x :: os,k,0,o,e => by
   simp at e
   subst e
   rw[qlO,List.getElem?_cons_zero,Nat.add_zero]
 | x :: os,k,i + 1,o,e => by
   rw[qlO,List.getElem?_cons_succ,qvr l nl n h2 os (k+1) i o (by simpa using e)]
   rw[show k+1+i=k+(i+1) by omega]
theorem qqw (l nl:List Nat) (h h2:Heap):qeB l nl h h2=pb l nl h.length h2 h 0++nl.map fun j=>qeh (qcn l nl h.length) ((h2[j]?).getD .gone):=by
 unfold qeB
 congr 1
 refine List.ext_getElem? fun i=>?_
 by_cases hi:i<h.length
 ·rw[qvr l nl _ h2 h 0 i h[i] (List.getElem?_eq_getElem hi),Nat.zero_add]
  rw[List.getElem?_map,List.getElem?_range hi]
  simp only[Option.map_some,List.getElem?_eq_getElem hi,Option.getD_some]
  cases qav i l 0<;>rfl
 ·rw[List.getElem?_eq_none (by simp;omega),List.getElem?_eq_none (by rw[qm7];omega)]
theorem qnY (l nl:List Nat) (n:Nat) (v:AVal):qnX l nl n (.val v)=.val (ren (qcn l nl n) v):=rfl
theorem qpK (cs:List AVal):acells (.agg cs)=cs:=rfl
theorem qpL (k:IntKind) (n:Int):acells (.int k n)=[.int k n]:=rfl
theorem qnR (xs:List AVal) (o:Option (Option Nat)):acells (.list xs o)=[.list xs o]:=rfl
theorem qpN (a:Option (Nat × Nat)):acells (.ptr a)=[.ptr a]:=rfl
theorem qnS (cs:List AVal) (n:Nat):acells (.vptr cs n)=[.vptr cs n]:=rfl
theorem qpM (a:Option Nat):acells (.map a)=[.map a]:=rfl
theorem qnQ (f:Nat) (a b:List AVal):acells (.func f a b)=[.func f a b]:=rfl
theorem qsd:qfa=1073741824:=rfl
theorem qmp (l:List Step) (tm:Tmps) (hs:List Heap) (c:Nat × Nat × Nat) (cs:List (Nat × Nat × Nat)):qeZ l tm hs (c::cs)=(qmo l tm hs c.1 c.2.1 c.2.2∧qeZ l tm hs cs):=rfl
theorem qn7 (l:List Step) (tm:Tmps) (hs:List Heap):qeZ l tm hs []=True:=rfl
theorem qrf (l:List Step) (tm:Tmps) (hs:List Heap) (i lo hi:Nat):qmo l tm hs i lo hi=match l[i]? with
 | some ⟨some d,g,o⟩=>qaf g tm=some true→∀ h∈(hs.drop lo).take (hi+1-lo),aOp (fun _=>false) qd6 o tm h=some (.val (tm d),h)
 | _=>True:=rfl
theorem qyP:(true==false)=false:=rfl
theorem qyO:(false==true)=false:=rfl
theorem qu9 (cs:List AVal):wipe (.agg cs)=.agg (cs.map wipeCell):=rfl
theorem qth (xs:List AVal) (o:Option (Option Nat)):wipe (.list xs o)=.list xs none:=rfl
theorem qtf (b:Bool):wipe (.bool b)=.bool b:=rfl
theorem qva (k:IntKind) (n:Int):wipe (.int k n)=.int k n:=rfl
theorem qoJ (cs:List AVal):wipeR (.tuple cs)=.tuple (cs.map wipe):=rfl
theorem qtd (cs:List AVal):wipeR (.agg cs)=.agg (cs.map wipeCell):=rfl
theorem qhH (xs:List AVal) (o:Option (Option Nat)):wipeR (.list xs o)=.list xs none:=rfl
theorem qqO (b:Bool):wipeR (.bool b)=.bool b:=rfl
theorem qte (k:IntKind) (n:Int):wipeR (.int k n)=.int k n:=rfl
theorem qvc (a:Option (Nat × Nat)):wipe (.ptr a)=.ptr a:=rfl
theorem qfm (cs:List AVal) (n:Nat):wipe (.vptr cs n)=.vptr cs n:=rfl
theorem qvb (a:Option Nat):wipe (.map a)=.map a:=rfl
theorem qtg (f:Nat) (a b:List AVal):wipe (.func f a b)=.func f a b:=rfl
theorem qqN (xs:List AVal) (o:Option (Option Nat)):wipeCell (.list xs o)=.list xs none:=rfl
theorem qtc (k:IntKind) (n:Int):wipeCell (.int k n)=.int k n:=rfl
theorem qaY (xs:List AVal):qay (.list xs none)=qas xs:=by simp[qay]
theorem qic (xs:List AVal):qay (.list xs (some none))=qas xs:=by simp[qay]
theorem qid (xs:List AVal) (i:Nat):qay (.list xs (some (some i)))=false:=by simp[qay]
theorem qoi (b:Bool):qay (.bool b)=true:=rfl
theorem qkJ (k:IntKind) (n:Int):qay (.int k n)=true:=rfl
theorem qqf (cs:List AVal):qay (.agg cs)=qas cs:=rfl
theorem qhZ (cs:List AVal):qay (.tuple cs)=qas cs:=rfl
theorem qoj (f:Nat) (a b:List AVal):qay (.func f a b)=(qas a && qas b):=rfl
theorem qol (cs:List AVal) (n:Nat):qay (.vptr cs n)=qas cs:=rfl
theorem qqh (a:Nat × Nat):qay (.ptr (some a))=false:=rfl
theorem qqg (a:Nat):qay (.map (some a))=false:=rfl
theorem qok:qay .junk=true:=rfl
theorem qjr:qas []=true:=rfl
theorem qhX (v:AVal) (vs:List AVal):qas (v::vs)=(qay v && qas vs):=rfl
theorem qf7 (a b:List AVal):qas (a++b)=(qas a && qas b):=by
 induction a with
 | nil=>rfl
 | cons x xs ih=>rw[List.cons_append,qas,qas,ih,Bool.and_assoc]
theorem qdB {α:Type} (f:α→AVal) (h:∀ a,qay (f a)=true) (l:List α):qas (l.map f)=true:=by
 induction l with
 | nil=>rfl
 | cons x xs ih=>rw[List.map_cons,qas,h,ih];rfl
theorem all_map {α:Type} (f:α→AVal) (n:Nat) (h:∀ a,(acells (f a)).length=n) (l:List α):((l.map f).all fun v=>decide ((acells v).length=n))=true:=by
 rw[List.all_eq_true]
 intro x hx
 obtain⟨a,_,rfl⟩:=List.mem_map.1 hx
 simp[h a]
theorem qqu (n:Nat) (acc:List Nat):qc7 n [] acc=acc:=rfl
theorem qop (n i:Nat) (is acc:List Nat):qc7 n (i::is) acc=qc7 n is (if n≤i∧i∉acc then acc++[i] else acc):=rfl
theorem qub (n:Nat) (l:List Nat) (i:Nat):qd1 n l i=if i<n then some i else qav i l n:=rfl
noncomputable def qa4 (pure:Nat→Bool) (call:CallT) (b:Nat) (keep fk:List Nat) (body:ACode) (s:St):Option (AExit × St) :=
 match qaT pure call body s with
 | some (.normal,s')=>some (.normal,gc b keep s')
 | some (e,s')=>some (gcE b fk (e,s'))
 | none=>none
theorem qsQ (pure:Nat→Bool) (call:CallT) (b:Nat) (keep fk:List Nat) (body:ACode) (s:St):qa4 pure call b keep fk body s=match qaT pure call body s with
 | some (.normal,s')=>some (.normal,gc b keep s')
 | some (e,s')=>some (gcE b fk (e,s'))
 | none=>none:=rfl
noncomputable def qa5 (pure:Nat→Bool) (call:CallT) (b:Nat) (keep fk:List Nat) (id:Nat) (body:ACode) (s:St):Option (AExit × St) :=
 (match (match qaT pure call body s with
   | some (.normal,s')=>qjw (fun s1=>qaT pure call body (gc b keep s1)) s'
   | r=>r) with
  | some (.exit id',s')=>if id'=id then some (AExit.normal,s') else some (AExit.exit id',s')
  | r=>r).map (gcE b fk)
theorem qp5 (pure:Nat→Bool) (call:CallT) (keep fk:List Nat) (id:Nat) (body:ACode) (tm:Tmps) (h:Heap) :
  qaT pure call (.frame fk (.block id (.gloop keep body))) ⟨tm,h⟩=qa5 pure call h.length keep fk id body (gc h.length keep ⟨tm,h⟩):=by
 unfold qa5
 simp only[qaT]
 rw[qpu]
 rfl
section
variable {pure:Nat→Bool} {call:CallT} {b:Nat} {keep fk:List Nat} {id:Nat} {body:ACode}
theorem qbW {s s1:St} (h:qa4 pure call b keep fk body s=some (.normal,s1)):qa5 pure call b keep fk id body s=qa5 pure call b keep fk id body s1:=by
 unfold qa4 at h
 unfold qa5
 cases hx:qaT pure call body s with
 | none=>rw[hx] at h;cases h
 | some x =>
   obtain⟨e,s'⟩:=x
   rw[hx] at h
   cases e with
   | normal =>
     simp only[Option.some.injEq,Prod.mk.injEq,true_and] at h
     dsimp only
     rw[qpu,h]
     rfl
   | panic v=>simp[gcE] at h
   | exit i=>simp[gcE] at h
   | ret=>simp[gcE] at h
theorem qbV {s s1:St} (h:qa4 pure call b keep fk body s=some (.exit id,s1)):qa5 pure call b keep fk id body s=some (.normal,s1):=by
 unfold qa4 at h
 unfold qa5
 cases hx:qaT pure call body s with
 | none=>rw[hx] at h;cases h
 | some x =>
   obtain⟨e,s'⟩:=x
   rw[hx] at h
   cases e with
   | normal=>simp at h
   | panic v=>simp[gcE] at h
   | exit i =>
     simp only[gcE,Option.some.injEq,Prod.mk.injEq,AExit.exit.injEq] at h
     obtain⟨rfl,rfl⟩:=h
     simp[gcE]
   | ret=>simp[gcE] at h
theorem qjx {s s1:St} (h:qa4 pure call b keep fk body s=some (.ret,s1)):qa5 pure call b keep fk id body s=some (.ret,s1):=by
 unfold qa4 at h
 unfold qa5
 cases hx:qaT pure call body s with
 | none=>rw[hx] at h;cases h
 | some x =>
   obtain⟨e,s'⟩:=x
   rw[hx] at h
   cases e with
   | normal=>simp at h
   | panic v=>simp[gcE] at h
   | exit i=>simp[gcE] at h
   | ret =>
     simp only[gcE,Option.some.injEq,Prod.mk.injEq,true_and] at h
     subst h
     rfl
def qbE:List Int→Int
 | []=>0
 | e::es=>if e=0 then qbE es else e
def qaI {α β:Type} (g:Nat→α→Option β):List α→Nat→Option β
 | [],_=>none
 | x::xs,i=>match g i x with | some r=>some r | none=>qaI g xs (i+1)
theorem qez (C:Nat→St) (n:Nat) {T:St} (hstep:∀ i,i<n→qa4 pure call b keep fk body (C i)=some (.normal,C (i+1)))
  (hend:qa4 pure call b keep fk body (C n)=some (.exit id,T)):qa5 pure call b keep fk id body (C 0)=some (.normal,T):=by
 have key:∀ k i,i+k=n→qa5 pure call b keep fk id body (C i)=some (.normal,T):=by
  intro k
  induction k with
  | zero=>intro i hi;rw[Nat.add_zero] at hi;subst hi;exact qbV hend
  | succ k ih=>intro i hi;rw[qbW (hstep i (by omega))];exact ih (i+1) (by omega)
 exact key n 0 (by omega)
def qbp {β:Type} (R:β→St) (T:St):Option β→AExit × St
 | some r=>(.ret,R r)
 | none=>(.normal,T)
theorem qe9 (C:Nat→St) (n:Nat) (Q:Nat→Option (AExit × St)) {T:St}
  (hstep:∀ i,i<n→(qa4 pure call b keep fk body (C i)=some (.normal,C (i+1))∧Q i=Q (i+1))∨∃ s',qa4 pure call b keep fk body (C i)=some (.ret,s')∧Q i=some (.ret,s'))
  (hend:qa4 pure call b keep fk body (C n)=some (.exit id,T)) (hQ:Q n=some (.normal,T)):qa5 pure call b keep fk id body (C 0)=Q 0:=by
 have key:∀ k i,i+k=n→qa5 pure call b keep fk id body (C i)=Q i:=by
  intro k
  induction k with
  | zero=>intro i hi;rw[Nat.add_zero] at hi;subst hi;rw[qbV hend,hQ]
  | succ k ih =>
    intro i hi
    rcases hstep i (by omega) with ⟨h1,h2⟩ | ⟨s',h1,h2⟩
    ·rw[qbW h1,h2];exact ih (i+1) (by omega)
    ·rw[qjx h1,h2]
 exact key n 0 (by omega)
theorem qsb {α:Type} (xs:List α) (g:α→Int) (C:Nat→St) (T:St) (R:Int→St)
  (h0:∀ (i:Nat) (hi:i<xs.length),g xs[i]=0→qa4 pure call b keep fk body (C i)=some (.normal,C (i+1)))
  (h1:∀ (i:Nat) (hi:i<xs.length),g xs[i]≠0→qa4 pure call b keep fk body (C i)=some (.ret,R (g xs[i])))
  (hend:qa4 pure call b keep fk body (C xs.length)=some (.exit id,T)) :
  qa5 pure call b keep fk id body (C 0)=some (if qbE (xs.map g)=0 then (.normal,T) else (.ret,R (qbE (xs.map g)))):=by
 refine qe9 C xs.length (fun i=>some (if qbE ((xs.drop i).map g)=0 then (.normal,T) else (.ret,R (qbE ((xs.drop i).map g))))) ?_ hend (by simp[qbE])
 intro i hi
 have hdrop:xs.drop i=xs[i]::xs.drop (i+1):=List.drop_eq_getElem_cons hi
 rw[hdrop]
 simp only[List.map_cons,qbE]
 by_cases he:g xs[i]=0
 ·left
  rw[if_pos he]
  exact⟨h0 i hi he,rfl⟩
 ·right
  rw[if_neg he,if_neg he]
  exact⟨_,h1 i hi he,rfl⟩
theorem qe8 {α:Type} (xs:List α) (p:α→Bool) (C:Nat→St) (T R:St)
  (h0:∀ (i:Nat) (hi:i<xs.length),p xs[i]=false→qa4 pure call b keep fk body (C i)=some (.normal,C (i+1)))
  (h1:∀ (i:Nat) (hi:i<xs.length),p xs[i]=true→qa4 pure call b keep fk body (C i)=some (.ret,R))
  (hend:qa4 pure call b keep fk body (C xs.length)=some (.exit id,T)) :
  qa5 pure call b keep fk id body (C 0)=some (if xs.any p=true then (.ret,R) else (.normal,T)):=by
 refine qe9 C xs.length (fun i=>some (if (xs.drop i).any p=true then (.ret,R) else (.normal,T))) ?_ hend (by simp)
 intro i hi
 have hdrop:xs.drop i=xs[i]::xs.drop (i+1):=List.drop_eq_getElem_cons hi
 rw[hdrop]
 simp only[List.any_cons]
 by_cases he:p xs[i]=true
 ·right
  simp only[he,Bool.true_or,if_true]
  exact⟨_,h1 i hi he,rfl⟩
 ·left
  have he':p xs[i]=false:=by simpa using he
  simp only[he',Bool.false_or,and_true]
  exact h0 i hi he'
theorem qcx {α β:Type} (xs:List α) (g:Nat→α→Option β) (C:Nat→St) (T:St) (R:β→St)
  (h0:∀ (i:Nat) (hi:i<xs.length),g i xs[i]=none→qa4 pure call b keep fk body (C i)=some (.normal,C (i+1)))
  (h1:∀ (i:Nat) (hi:i<xs.length) (r:β),g i xs[i]=some r→qa4 pure call b keep fk body (C i)=some (.ret,R r))
  (hend:qa4 pure call b keep fk body (C xs.length)=some (.exit id,T)) :
  qa5 pure call b keep fk id body (C 0)=some (qbp R T (qaI g xs 0)):=by
 refine qe9 C xs.length (fun i=>some (qbp R T (qaI g (xs.drop i) i))) ?_ hend (by simp[qaI,qbp])
 intro i hi
 have hdrop:xs.drop i=xs[i]::xs.drop (i+1):=List.drop_eq_getElem_cons hi
 rw[hdrop]
 simp only[qaI]
 cases he:g i xs[i] with
 | none =>
   left
   simp only[and_true]
   exact h0 i hi he
 | some r =>
   right
   exact⟨_,h1 i hi r he,rfl⟩
end
theorem qbN {n:Int} (h1 : -2 ^ 63≤n) (h2:n<2 ^ 63):IntKind.i64.wrap n=n:=by
 have h:IntKind.i64.wrap n=(if (true && decide (n % 2 ^ 64≥2 ^ (64-1)))=true then n % 2 ^ 64-2 ^ 64 else n % 2 ^ 64):=rfl
 rw[h]
 by_cases hc:n % 2 ^ 64≥2 ^ (64-1)
 ·rw[if_pos (by simp only[Bool.true_and,decide_eq_true_eq];exact hc)]
  omega
 ·rw[if_neg (by simp only[Bool.true_and,decide_eq_true_eq];exact hc)]
  omega
set_option linter.defProp false in
def ev_:=And.intro @qrm <| And.intro @qtH <| And.intro @qrl <| And.intro @quH <| And.intro @qsq <| And.intro @quF <| And.intro @qsk <| And.intro @qrj <| And.intro @qtJ <| And.intro @qri <| And.intro @qp4 <| And.intro @qrk <| And.intro @qtI <| And.intro @quI <| And.intro @qqv <| And.intro @qxx <| And.intro @qyB <| And.intro @qu7 <| And.intro @qrR <| And.intro @qr1 <| And.intro @qpK <| And.intro @qpL <| And.intro @qnR <| And.intro @qpN <| And.intro @qnS <| And.intro @qpM <| And.intro @qnQ <| And.intro @qp5 <| And.intro @qyY <| And.intro @qqi <| And.intro @qom <| And.intro @qua <| And.intro @qqu <| And.intro @qop <| And.intro @qub <| And.intro @qsK <| And.intro @quQ <| And.intro @qsM <| And.intro @qsL <| And.intro @qrO <| And.intro @quf <| And.intro @qrQ <| And.intro @qrP <| And.intro @qvQ <| And.intro @quG <| And.intro @qsp <| And.intro @qu9 <| And.intro @qth <| And.intro @qtf <| And.intro @qva <| And.intro @qoJ <| And.intro @qtd <| And.intro @qhH <| And.intro @qqO <| And.intro @qte <| And.intro @qvc <| And.intro @qfm <| And.intro @qvb <| And.intro @qtg <| And.intro @qqN <| And.intro @qtc <| And.intro @qaY <| And.intro @qic <| And.intro @qid <| And.intro @qoi <| And.intro @qkJ <| And.intro @qqf <| And.intro @qhZ <| And.intro @qoj <| And.intro @qol <| And.intro @qqh <| And.intro @qqg <| And.intro @qok <| And.intro @qjr <| And.intro @qhX <| And.intro @qf7 <| And.intro @qyP <| And.intro @qyO <| And.intro @beq_self_eq_true.{0} <| And.intro @Option.map_some.{0,0} <| And.intro @Option.map_none.{0,0} <| And.intro @Option.getD_some.{0} <| And.intro @Option.getD_none.{0} <| And.intro @List.map_cons.{0,0} <| And.intro @List.map_nil.{0,0} <| And.intro @List.flatMap_cons.{0,0} <| And.intro @List.flatMap_nil.{0,0} <| And.intro @List.length_cons.{0} <| And.intro @List.length_nil.{0} <| And.intro @List.length_append.{0} <| And.intro @List.length_map.{0,0} <| And.intro @List.cons_append.{0} <| And.intro @List.nil_append.{0} <| And.intro @List.append_nil.{0} <| And.intro @List.append_assoc.{0} <| And.intro @List.getElem?_nil.{0} <| And.intro @List.getElem?_cons_zero.{0} <| And.intro @List.getElem?_cons_succ.{0} <| And.intro @List.set_cons_zero.{0} <| And.intro @List.set_cons_succ.{0} <| And.intro @List.take_succ_cons.{0} <| And.intro @List.take_zero.{0} <| And.intro @List.drop_succ_cons.{0} <| And.intro @List.drop_zero.{0} <| And.intro @List.take_nil.{0} <| And.intro @List.drop_nil.{0} <| And.intro @List.all_cons.{0} <| And.intro @List.all_nil.{0} <| And.intro @List.mem_cons.{0} <| And.intro @List.not_mem_nil.{0} <| And.intro @Bool.and_true <| And.intro @Bool.true_and <| And.intro @Bool.and_false <| And.intro @Bool.false_and <| And.intro @Bool.or_true <| And.intro @Bool.true_or <| And.intro @Bool.or_false <| And.intro @Bool.false_or <| And.intro @Bool.not_true <| And.intro @Bool.not_false <| And.intro @Bool.false_eq_true <| And.intro @Bool.true_eq_false <| And.intro @and_true <| And.intro @true_and <| And.intro @and_false <| And.intro @false_and <| And.intro @or_true <| And.intro @or_false <| And.intro @not_true_eq_false <| And.intro @not_false_eq_true <| And.intro @decide_true <| And.intro @decide_false <| And.intro @and_self <| And.intro @Nat.le_refl <| And.intro @Nat.zero_le <| And.intro @Nat.add_zero <| And.intro @Nat.zero_add <| And.intro @Int.toNat_natCast <| And.intro @Int.natCast_nonneg <| And.intro @List.cons_ne_nil.{0} <| And.intro @qsQ <| And.intro @qsd <| And.intro @qmp <| And.intro @qn7 <| And.intro @qrf <| And.intro @qrw <| And.intro @List.map_append.{0,0} <| And.intro @qyf <| And.intro @Int.cast_ofNat_Int <| And.intro @qn9 <| And.intro @qrn <| And.intro @qqd <| And.intro @qt8 <| And.intro @qv2 <| And.intro @Option.isSome_some.{0} <| And.intro @Option.isSome_none.{0} <| And.intro @qka <| And.intro @quO <| And.intro @qqD <| And.intro @qv5 <| And.intro @qqJ <| And.intro @qse <| And.intro @qpT <| And.intro @qqw <| And.intro @qyn <| And.intro @qlO <| @qnY
end Go.Abs
