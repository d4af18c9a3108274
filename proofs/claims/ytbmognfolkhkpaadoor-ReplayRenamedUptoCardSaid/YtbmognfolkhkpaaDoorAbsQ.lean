/-
  Evaluating the abstract machine: the laws by which a simp set steps through code. Conditions: none.
-/
import Derived.Test.YtbmognfolkhkpaaDoorAbsB
set_option linter.unusedVariables false
namespace Go.Abs
theorem qai (tm:Tmps) (d t:Nat) (v:AVal):upd tm (some d) v t=if t=d then v else tm t:=rfl
theorem qa1 (tm:Tmps) (v:AVal):upd tm none v=tm:=rfl
theorem qan (args:List AVal) (i:Nat):qgz args i=(args[i]?).getD (.tuple []):=rfl
theorem qah (pure:Nat→Bool) (call:CallT) (s:St):qdc pure call [] s=some (.normal,s):=rfl
theorem qab (pure:Nat→Bool) (call:CallT) (d:Option Nat) (o:AOp) (r:List Step) (tm:Tmps) (h:Heap) :
  qdc pure call (⟨d,none,o⟩::r) ⟨tm,h⟩=match aOp pure call o tm h with | some (.val v,h')=>qdc pure call r ⟨upd tm d v,h'⟩ | some (.panic v,h')=>some (.panic v,⟨tm,h'⟩) | none=>none:=rfl
theorem qaC (pure:Nat→Bool) (call:CallT) (d:Option Nat) (g:Option Nat × Bool) (o:AOp) (r:List Step) (tm:Tmps) (h:Heap) :
  qdc pure call (⟨d,some g,o⟩::r) ⟨tm,h⟩=match qaA (some g) tm with
   | some true=>(match aOp pure call o tm h with | some (.val v,h')=>qdc pure call r ⟨upd tm d v,h'⟩ | some (.panic v,h')=>some (.panic v,⟨tm,h'⟩) | none=>none)
   | some false=>qdc pure call r ⟨upd tm d (.tuple []),h⟩
   | none=>none:=rfl
theorem qp5 (pure:Nat→Bool) (call:CallT) (s:St):qfl pure call [] s=some (.normal,s):=rfl
theorem qnR (pure:Nat→Bool) (call:CallT) (d:Option Nat) (o:AOp) (r:List Step) (tm:Tmps) (h:Heap) :
  qfl pure call (⟨d,none,o⟩::r) ⟨tm,h⟩=match qj7 pure call o tm h with | some (.val v,h')=>qfl pure call r ⟨upd tm d v,h'⟩ | some (.panic v,h')=>some (.panic v,⟨tm,h'⟩) | none=>none:=rfl
theorem qp4 (pure:Nat→Bool) (call:CallT) (x:Opd) (tm:Tmps) (h:Heap):qj7 pure call (.move x) tm h=some (.val (opd tm x),h):=rfl
def qnc (l:List Step) (tm:Tmps) (hs:List Heap) (i lo hi:Nat):Prop :=
 match l[i]? with
 | some ⟨some d,g,o⟩=>qaA g tm=some true→∀ h∈(hs.drop lo).take (hi+1-lo),aOp (fun _=>false) qfN o tm h=some (.val (tm d),h)
 | _=>True
def qgK (l:List Step) (tm:Tmps) (hs:List Heap):List (Nat × Nat × Nat)→Prop
 | []=>True
 | c::cs=>qnc l tm hs c.1 c.2.1 c.2.2∧qgK l tm hs cs
theorem qru {l:List Step} {tm:Tmps} {hs:List Heap} {c:Nat × Nat × Nat} (h:qnc l tm hs c.1 c.2.1 c.2.2):qkm l tm hs c:=by
 intro s d h1 h2 h3 k hp hk1 hk2 hk
 unfold qnc at h
 obtain⟨d',g,o⟩:=s
 dsimp only at h2
 subst h2
 rw[h1] at h
 refine h h3 hp ?_
 refine List.mem_of_getElem? (i:=k-c.2.1) ?_
 rw[List.getElem?_take,if_pos (by omega),List.getElem?_drop,show c.2.1+(k-c.2.1)=k by omega]
 exact hk
theorem qly {l:List Step} {tm:Tmps} {hs:List Heap}:∀ {cs:List (Nat × Nat × Nat)},qgK l tm hs cs→∀ c∈cs,qkm l tm hs c
 | [],_=>by simp
 | c :: cs,h => by
   intro c' hc
   rcases List.mem_cons.1 hc with rfl | hc
   ·exact qru h.1
   ·exact qly h.2 c' hc
theorem qvA {pure:Nat→Bool} {call:CallT} {l:List Step} {cs:List (Nat × Nat × Nat)} {s:St} {tm:Tmps} {hs:List Heap} {h:Heap}
  (hr:qeh pure call l s.tm [] s.h=some (tm,hs,h)) (hc:qgK l tm hs cs):qhK pure call l cs s=some (.normal,⟨tm,h⟩):=by
 unfold qhK
 rw[hr]
 exact if_pos (qly hc)
noncomputable def qph (pure:Nat→Bool) (call:CallT) (l:List Step) (cs:List (Nat × Nat × Nat)) (s:St):Option (AExit × St):=qhK pure call l cs s
open Classical in
noncomputable def qrC (pure:Nat→Bool) (call:CallT) (l:List Step) (cs:List (Nat × Nat × Nat)) (s:St) (r:Option (Tmps × List Heap × Heap)):Option (AExit × St) :=
 match r with
 | some (tm,hs,h)=>if qgK l tm hs cs then some (.normal,⟨tm,h⟩) else qph pure call l cs s
 | none=>qph pure call l cs s
theorem qbz (pure:Nat→Bool) (call:CallT) (l:List Step) (cs:List (Nat × Nat × Nat)) (s:St):qhK pure call l cs s=qrC pure call l cs s (qeh pure call l s.tm [] s.h):=by
 unfold qrC
 split
 ·rename_i tm hs h hr
  split
  ·rename_i hc
   exact qvA hr hc
  ·rfl
 ·rfl
open Classical in
theorem qa6 (pure:Nat→Bool) (call:CallT) (l:List Step) (cs:List (Nat × Nat × Nat)) (s:St) (tm:Tmps) (hs:List Heap) (h:Heap) :
  qrC pure call l cs s (some (tm,hs,h))=if qgK l tm hs cs then some (.normal,⟨tm,h⟩) else qph pure call l cs s:=rfl
theorem qbo (pure:Nat→Bool) (call:CallT) (tm:Tmps) (hs:List Heap) (h:Heap):qeh pure call [] tm hs h=some (tm,hs++[h],h):=rfl
theorem qa7 (pure:Nat→Bool) (call:CallT) (d:Option Nat) (g:Option (Option Nat × Bool)) (o:AOp) (r:List Step) (tm:Tmps) (hs:List Heap) (h:Heap) :
  qeh pure call (⟨d,g,o⟩::r) tm hs h=match qaA g tm with
   | some true=>(match aOp pure call o tm h with | some (.val v,h')=>qeh pure call r (upd tm d v) (if qbx o=true then hs++[h] else hs) h' | _=>none)
   | some false=>qeh pure call r (upd tm d (.tuple [])) (if qbx o=true then hs++[h] else hs) h
   | none=>none:=rfl
theorem qpC {h:Heap} {v:AVal} (hv:qa2 (wipeR v)=true):qgB h v=wipeR v:=if_pos hv
noncomputable def pcall (L:Lib) (f:Nat) (args:List AVal) (h:Heap):Option (ARes × Heap) :=
 match call L f args [] with
 | some (.val v,h2)=>if qa2 (qgB h2 v)=true then some (.val (qgB h2 v),h) else none
 | some (.panic v,h2)=>if qa2 (qgB h2 v)=true then some (.panic (qgB h2 v),h) else none
 | none=>none
theorem qaJ (L:Lib) (hp:∀ f,L.pure f=true) (f:Nat) (args:List AVal) (h:Heap) :
  qdZ L.pure (call L) f args h=if qaZ (args.map wipe)=true then pcall L f (args.map wipe) h else qln (call L) f args h:=by
 unfold qdZ pcall
 by_cases hd:qaZ (args.map wipe)=true
 ·rw[if_pos ⟨hp f,hd⟩,if_pos hd]
  cases call L f (args.map wipe) [] with
  | none=>rfl
  | some x=>obtain⟨v,h'⟩:=x;cases v<;>rfl
 ·rw[if_neg (fun hx=>hd hx.2),if_neg hd]
theorem quD {L:Lib} {f:Nat} {fn:AFn} {args:List AVal} {v:AVal} (h':Heap) (hs:L.summ f=none) (hf:L.fns f=some fn)
  (hr:qaR fn.results (qbJ L.pure (call L) fn.body ⟨qgz args,[]⟩)=some (.val v,h')) (hv:qa2 (wipeR v)=true) (h:Heap):pcall L f args h=some (.val (wipeR v),h):=by
 unfold pcall
 rw[qd6 hs hf hr]
 dsimp only
 rw[qpC hv,if_pos hv]
theorem qdz {L:Lib} {f:Nat} {args:List AVal} {v u:AVal} {h':Heap} (hr:call L f args []=some (.val v,h')) (hu:qgB h' v=u) (hd:qa2 u=true) (h:Heap):pcall L f args h=some (.val u,h):=by
 unfold pcall
 rw[hr]
 dsimp only
 rw[hu,if_pos hd]
theorem qo6 {h:Heap} {v u:AVal} (hp:qh0 u=true) (hd:qgB h v=u):v=u:=by
 unfold qgB at hd
 split at hd
 ·cases v<;>simp only[wipeR,wipe,wipeCell] at hd<;>subst hd<;>first | rfl | (simp[qh0] at hp)
 ·rename_i hn
  exfalso
  unfold viewV at hd
  rw[qbV] at hd
  split at hd
  ·rename_i hdd
   exact hn (by cases v<;>simp only[wipeR,wipe,wipeCell] at hd ⊢ <;> first | (subst hd;first | rfl | (simp[qh0] at hp;done)) | (exfalso;revert hp;rw[← hd];simp[qh0]))
  ·unfold qeW at hd
   cases v<;>(try dsimp only at hd)<;>(repeat' (first | (simp only[wipeR,wipe,wipeCell] at hd;subst hd;simp[qh0] at hp;done) | split at hd))
def kt:List Nat→List AVal→Tmps
 | k::ks,v::vs,t=>if t=k then v else kt ks vs t
 | _,_,_=>.junk
theorem qav (k:Nat) (ks:List Nat) (v:AVal) (vs:List AVal) (t:Nat):kt (k::ks) (v::vs) t=if t=k then v else kt ks vs t:=rfl
theorem qaQ (ks:List Nat) (t:Nat):kt ks [] t=.junk:=by cases ks<;>rfl
theorem qr5 (g:Nat→AVal):∀ (keep:List Nat),kt keep (keep.map g)=fun t=>if t∈keep then g t else .junk
 | []=>by funext t;simp[kt]
 | k :: ks => by
   funext t
   rw[List.map_cons,qav,qr5 g ks]
   by_cases h:t=k<;>simp[h]
theorem qqB:qlI []=false:=rfl
theorem qac (k:Nat) (ks:List Nat):qlI (k::ks)=decide (k=1000000):=rfl
theorem qaS (b:Nat) (keep:List Nat) (tm:Tmps) (h:Heap):gc b keep ⟨tm,h⟩ =
  if qlI keep=true then ⟨kt (keep.drop 1) ((keep.drop 1).map tm),h⟩
  else if b≤h.length then ⟨kt keep (keep.map fun t=>ren (qfH b (qhx b keep ⟨tm,h⟩)) (tm t)),
   (h.take b).map (qf2 (qfH b (qhx b keep ⟨tm,h⟩)))++(qhx b keep ⟨tm,h⟩).map fun id=>qf2 (qfH b (qhx b keep ⟨tm,h⟩)) ((h[id]?).getD .gone)⟩ else ⟨tm,h⟩:=by
 unfold gc gc1 qyB
 rw[qr5,qr5]
theorem qay (b:Nat) (keep:List Nat) (tm:Tmps) (h:Heap):qhx b keep ⟨tm,h⟩=qeC b (keep.flatMap (fun t=>qbW (tm t))++(h.take b).flatMap qox) []:=rfl
section
variable (pure:Nat→Bool) (call:CallT)
theorem qaq (s:St):qbJ pure call .skip s=some (.normal,s):=rfl
theorem qad (l:List Step) (s:St):qbJ pure call (.ops l) s=qdc pure call l s:=rfl
theorem qne (l:List Step) (s:St):qbJ pure call (.kops l) s=qfl pure call l s:=rfl
theorem qa5 (l:List Step) (cs:List (Nat × Nat × Nat)) (s:St):qbJ pure call (.draw l cs) s=qhK pure call l cs s:=rfl
theorem qae (a b:ACode) (s:St):qbJ pure call (.seq a b) s=match qbJ pure call a s with | some (.normal,s')=>qbJ pure call b s' | r=>r:=rfl
theorem qaf (c:Opd) (a b:ACode) (s:St):qbJ pure call (.cond c a b) s=match opd s.tm c with | .bool t=>if t then qbJ pure call a s else qbJ pure call b s | _=>none:=rfl
theorem qao (id:Nat) (c:ACode) (s:St):qbJ pure call (.block id c) s=match qbJ pure call c s with | some (.exit id',s')=>if id'=id then some (.normal,s') else some (.exit id',s') | r=>r:=rfl
theorem qfx (k:List Nat) (a b:ACode) (s:St):qbJ pure call (.frame k (.seq a b)) s=(qbJ pure call (.seq a b) s).map (gcE s.h.length k):=rfl
theorem qb6 (t:Nat) (c:ACode) (s:St):qbJ pure call (.freeze t c) s=qbJ pure call c (qgk t s):=rfl
theorem qrw (c:ACode) (s:St):qbJ pure call (.view c) s=qbJ pure call c (qop s):=rfl
theorem qbl (id:Nat) (s:St):qbJ pure call (.exit id) s=some (.exit id,s):=rfl
theorem qax (s:St):qbJ pure call .ret s=some (.ret,s):=rfl
end
def qfP (b:Nat):Nat→Option (Option Nat)
 | 0=>some none
 | _+1=>some (some b)
def qdG (sz:Nat):Nat→Heap
 | 0=>[]
 | n+1=>[.tail (n+1) sz]
theorem qem (b:Nat):qfP b 0=some none:=rfl
theorem qfQ (b n:Nat):qfP b (n+1)=some (some b):=rfl
theorem qeq (sz:Nat):qdG sz 0=[]:=rfl
theorem qfk (sz n:Nat):qdG sz (n+1)=[.tail (n+1) sz]:=rfl
theorem qeD {b n:Nat} (h:0<n):qfP b n=some (some b):=by cases n with | zero=>omega | succ n=>rfl
theorem qd2 {sz n:Nat} (h:0<n):qdG sz n=[.tail n sz]:=by cases n with | zero=>omega | succ n=>rfl
theorem qiL (b sz n:Nat):(qfP b n=some none∧qdG sz n=[])∨(qfP b n=some (some b)∧qdG sz n=[.tail n sz]):=by
 cases n with
 | zero=>exact .inl ⟨rfl,rfl⟩
 | succ n=>exact .inr ⟨rfl,rfl⟩
def qyG (id sz:Nat) (cs:List AVal) (tm:Tmps):Tmps:=fun i=>frz id sz cs (tm i)
theorem qdp (id sz:Nat) (cs:List AVal) (tm:Tmps) (i:Nat):qyG id sz cs tm i=frz id sz cs (tm i):=rfl
theorem qcJ (id sz:Nat) (cs:List AVal) (tm:Tmps) (h:Heap):qjG id sz cs ⟨tm,h⟩=if qaZ cs=true∧cs.all leaf=true then ⟨qyG id sz cs tm,(h.set id .gone).map (qjV id sz cs)⟩ else ⟨tm,h⟩:=rfl
theorem qck (t:Nat) (tm:Tmps) (h:Heap):qgk t ⟨tm,h⟩=match tm t with
 | .ptr (some (id,0))=>(match h[id]? with | some (.box cs)=>qjG id 0 (cs.map wipeCell) ⟨tm,h⟩ | _=>⟨tm,h⟩)
 | .vec id _=>(match h[id]? with | some (.vec cs sz)=>qjG id sz (cs.map wipeCell) ⟨tm,h⟩ | _=>⟨tm,h⟩)
 | _=>⟨tm,h⟩:=rfl
theorem qcf:qox .gone=[]:=rfl
theorem qa8 (cs:List AVal):qox (.box cs)=cs.flatMap qbW:=rfl
theorem qec (n sz:Nat):qox (.tail n sz)=[]:=rfl
theorem qgR:qox (.map [])=[]:=rfl
theorem qbp (ρ:Nat→Option Nat):qf2 ρ .gone=.gone:=rfl
theorem qa9 (ρ:Nat→Option Nat) (cs:List AVal):qf2 ρ (.box cs)=.box (cs.map (ren ρ)):=rfl
theorem qcD (ρ:Nat→Option Nat) (n sz:Nat):qf2 ρ (.tail n sz)=.tail n sz:=rfl
theorem qg1 (ρ:Nat→Option Nat):qf2 ρ (.map [])=.map []:=rfl
theorem qee (call:CallT) (f:Nat) (args:List AVal) (h:Heap):qln call f args h=if (qct args h).all (fun i=>decide (i<h.length))=true then
  match call f (args.map (ren fun i=>qaU i (qct args h) 0)) (qdV (qct args h) h) with
  | some (r,h2)=>some (qoF (qct args h) (qnO (qct args h).length r h2) h.length r,qgq (qct args h) (qnO (qct args h).length r h2) h h2)
  | none=>none
 else none:=rfl
theorem qdt (k:Nat) (v:AVal) (h2:Heap):qnO k (.val v) h2=qeC k (qbW v++(h2.take k).flatMap qox) []:=rfl
theorem qfD (l nl:List Nat) (n j:Nat):qdQ l nl n j=if j<l.length then l[j]? else (qaU j nl 0).map (n+·):=rfl
theorem qcX (args:List AVal) (h:Heap):qct args h=grow h (grow h (grow h (qeC 0 (args.flatMap qbW) []))):=rfl
theorem qe9 (h:Heap) (l:List Nat):grow h l=qeC 0 (l.flatMap fun i=>qox ((h[i]?).getD .gone)) l:=rfl
theorem qcY (l:List Nat) (h:Heap):qdV l h=l.map fun i=>qf2 (fun i=>qaU i l 0) ((h[i]?).getD .gone):=rfl
def pb (l nl:List Nat) (n:Nat) (h2:Heap):Heap→Nat→Heap
 | [],_=>[]
 | o::os,i=>(match qaU i l 0 with | some j=>qf2 (qdQ l nl n) ((h2[j]?).getD .gone) | none=>o)::pb l nl n h2 os (i+1)
theorem qgV (l nl:List Nat) (n:Nat) (h2:Heap) (i:Nat):pb l nl n h2 [] i=[]:=rfl
theorem qed (l nl:List Nat) (n:Nat) (h2:Heap) (o:AObj) (os:Heap) (i:Nat):pb l nl n h2 (o::os) i=(match qaU i l 0 with | some j=>qf2 (qdQ l nl n) ((h2[j]?).getD .gone) | none=>o)::pb l nl n h2 os (i+1):=rfl
theorem qnT (l nl:List Nat) (n:Nat) (h2:Heap):∀ (h:Heap) (k:Nat),(pb l nl n h2 h k).length=h.length
 | [],k=>rfl
 | o::os,k=>by rw[qed,List.length_cons,List.length_cons,qnT l nl n h2 os]
theorem qve (l nl:List Nat) (n:Nat) (h2:Heap):∀ (h:Heap) (k i:Nat) (o:AObj),h[i]? = some o→(pb l nl n h2 h k)[i]? = some (match qaU (k+i) l 0 with | some j=>qf2 (qdQ l nl n) ((h2[j]?).getD .gone) | none=>o)
 | [],k,i,o,e=>by simp at e
 | x :: os,k,0,o,e => by
   simp at e
   subst e
   rw[qed,List.getElem?_cons_zero,Nat.add_zero]
 | x :: os,k,i + 1,o,e => by
   rw[qed,List.getElem?_cons_succ,qve l nl n h2 os (k+1) i o (by simpa using e)]
   rw[show k+1+i=k+(i+1) by omega]
theorem qcW (l nl:List Nat) (h h2:Heap):qgq l nl h h2=pb l nl h.length h2 h 0++nl.map fun j=>qf2 (qdQ l nl h.length) ((h2[j]?).getD .gone):=by
 unfold qgq
 congr 1
 refine List.ext_getElem? fun i=>?_
 by_cases hi:i<h.length
 ·rw[qve l nl _ h2 h 0 i h[i] (List.getElem?_eq_getElem hi),Nat.zero_add]
  rw[List.getElem?_map,List.getElem?_range hi]
  simp only[Option.map_some,List.getElem?_eq_getElem hi,Option.getD_some]
  cases qaU i l 0<;>rfl
 ·rw[List.getElem?_eq_none (by simp;omega),List.getElem?_eq_none (by rw[qnT];omega)]
theorem qcC (l nl:List Nat) (n:Nat) (v:AVal):qoF l nl n (.val v)=.val (ren (qdQ l nl n) v):=rfl
theorem qaw (cs:List AVal):acells (.agg cs)=cs:=rfl
theorem qaW (k:IntKind) (n:Int):acells (.int k n)=[.int k n]:=rfl
theorem qbu (xs:List AVal) (o:Option (Option Nat)):acells (.list xs o)=[.list xs o]:=rfl
theorem qdW (a:Option (Nat × Nat)):acells (.ptr a)=[.ptr a]:=rfl
theorem qdm (cs:List AVal) (n:Nat):acells (.vptr cs n)=[.vptr cs n]:=rfl
theorem qqe (a:Option Nat):acells (.map a)=[.map a]:=rfl
theorem qj9 (f:Nat) (a b:List AVal):acells (.func f a b)=[.func f a b]:=rfl
theorem qb3:qgU=1073741824:=rfl
theorem qcm (l:List Step) (tm:Tmps) (hs:List Heap) (c:Nat × Nat × Nat) (cs:List (Nat × Nat × Nat)):qgK l tm hs (c::cs)=(qnc l tm hs c.1 c.2.1 c.2.2∧qgK l tm hs cs):=rfl
theorem qaO (l:List Step) (tm:Tmps) (hs:List Heap):qgK l tm hs []=True:=rfl
theorem qcU (l:List Step) (tm:Tmps) (hs:List Heap) (i lo hi:Nat):qnc l tm hs i lo hi=match l[i]? with
 | some ⟨some d,g,o⟩=>qaA g tm=some true→∀ h∈(hs.drop lo).take (hi+1-lo),aOp (fun _=>false) qfN o tm h=some (.val (tm d),h)
 | _=>True:=rfl
theorem qdj:(true==false)=false:=rfl
theorem qcI:(false==true)=false:=rfl
theorem qcj (cs:List AVal):wipe (.agg cs)=.agg (cs.map wipeCell):=rfl
theorem qbc (xs:List AVal) (o:Option (Option Nat)):wipe (.list xs o)=.list xs none:=rfl
theorem qg6 (b:Bool):wipe (.bool b)=.bool b:=rfl
theorem qby (k:IntKind) (n:Int):wipe (.int k n)=.int k n:=rfl
theorem qc4 (cs:List AVal):wipeR (.tuple cs)=.tuple (cs.map wipe):=rfl
theorem qs5 (cs:List AVal):wipeR (.agg cs)=.agg (cs.map wipeCell):=rfl
theorem qbZ (xs:List AVal) (o:Option (Option Nat)):wipeR (.list xs o)=.list xs none:=rfl
theorem qbf (b:Bool):wipeR (.bool b)=.bool b:=rfl
theorem qbA (k:IntKind) (n:Int):wipeR (.int k n)=.int k n:=rfl
theorem qeX (a:Option (Nat × Nat)):wipe (.ptr a)=.ptr a:=rfl
theorem qbS (cs:List AVal) (n:Nat):wipe (.vptr cs n)=.vptr cs n:=rfl
theorem qiQ (a:Option Nat):wipe (.map a)=.map a:=rfl
theorem qcy (f:Nat) (a b:List AVal):wipe (.func f a b)=.func f a b:=rfl
theorem qba (xs:List AVal) (o:Option (Option Nat)):wipeCell (.list xs o)=.list xs none:=rfl
theorem qbs (k:IntKind) (n:Int):wipeCell (.int k n)=.int k n:=rfl
theorem qaa (xs:List AVal):qa2 (.list xs none)=qaZ xs:=by simp[qa2]
theorem qbP (xs:List AVal):qa2 (.list xs (some none))=qaZ xs:=by simp[qa2]
theorem qbw (xs:List AVal) (i:Nat):qa2 (.list xs (some (some i)))=false:=by simp[qa2]
theorem qbI (b:Bool):qa2 (.bool b)=true:=rfl
theorem qal (k:IntKind) (n:Int):qa2 (.int k n)=true:=rfl
theorem qcd (cs:List AVal):qa2 (.agg cs)=qaZ cs:=rfl
theorem qfs (cs:List AVal):qa2 (.tuple cs)=qaZ cs:=rfl
theorem qbK (f:Nat) (a b:List AVal):qa2 (.func f a b)=(qaZ a && qaZ b):=rfl
theorem qaN (cs:List AVal) (n:Nat):qa2 (.vptr cs n)=qaZ cs:=rfl
theorem qa0 (a:Nat × Nat):qa2 (.ptr (some a))=false:=rfl
theorem qbv (a:Nat):qa2 (.map (some a))=false:=rfl
theorem qb1:qa2 .junk=true:=rfl
theorem qap:qaZ []=true:=rfl
theorem qak (v:AVal) (vs:List AVal):qaZ (v::vs)=(qa2 v && qaZ vs):=rfl
theorem qdK (a b:List AVal):qaZ (a++b)=(qaZ a && qaZ b):=by
 induction a with
 | nil=>rfl
 | cons x xs ih=>rw[List.cons_append,qaZ,qaZ,ih,Bool.and_assoc]
theorem qfa {α:Type} (f:α→AVal) (h:∀ a,qa2 (f a)=true) (l:List α):qaZ (l.map f)=true:=by
 induction l with
 | nil=>rfl
 | cons x xs ih=>rw[List.map_cons,qaZ,h,ih];rfl
theorem qmd {α:Type} (f:α→AVal) (n:Nat) (h:∀ a,(acells (f a)).length=n) (l:List α):((l.map f).all fun v=>decide ((acells v).length=n))=true:=by
 rw[List.all_eq_true]
 intro x hx
 obtain⟨a,_,rfl⟩:=List.mem_map.1 hx
 simp[h a]
theorem qam (n:Nat) (acc:List Nat):qeC n [] acc=acc:=rfl
theorem qat (n i:Nat) (is acc:List Nat):qeC n (i::is) acc=qeC n is (if n≤i∧i∉acc then acc++[i] else acc):=rfl
theorem qaz (n:Nat) (l:List Nat) (i:Nat):qfH n l i=if i<n then some i else qaU i l n:=rfl
noncomputable def qch (pure:Nat→Bool) (call:CallT) (b:Nat) (keep fk:List Nat) (body:ACode) (s:St):Option (AExit × St) :=
 match qbJ pure call body s with
 | some (.normal,s')=>some (.normal,gc b keep s')
 | some (e,s')=>some (gcE b fk (e,s'))
 | none=>none
theorem qau (pure:Nat→Bool) (call:CallT) (b:Nat) (keep fk:List Nat) (body:ACode) (s:St):qch pure call b keep fk body s=match qbJ pure call body s with
 | some (.normal,s')=>some (.normal,gc b keep s')
 | some (e,s')=>some (gcE b fk (e,s'))
 | none=>none:=rfl
noncomputable def qcg (pure:Nat→Bool) (call:CallT) (b:Nat) (keep fk:List Nat) (id:Nat) (body:ACode) (s:St):Option (AExit × St) :=
 (match (match qbJ pure call body s with
   | some (.normal,s')=>qkI (fun s1=>qbJ pure call body (gc b keep s1)) s'
   | r=>r) with
  | some (.exit id',s')=>if id'=id then some (AExit.normal,s') else some (AExit.exit id',s')
  | r=>r).map (gcE b fk)
theorem qaL (pure:Nat→Bool) (call:CallT) (keep fk:List Nat) (id:Nat) (body:ACode) (tm:Tmps) (h:Heap) :
  qbJ pure call (.frame fk (.block id (.gloop keep body))) ⟨tm,h⟩=qcg pure call h.length keep fk id body (gc h.length keep ⟨tm,h⟩):=by
 unfold qcg
 simp only[qbJ]
 rw[qpX]
 rfl
section
variable {pure:Nat→Bool} {call:CallT} {b:Nat} {keep fk:List Nat} {id:Nat} {body:ACode}
theorem qhu {s s1:St} (h:qch pure call b keep fk body s=some (.normal,s1)):qcg pure call b keep fk id body s=qcg pure call b keep fk id body s1:=by
 unfold qch at h
 unfold qcg
 cases hx:qbJ pure call body s with
 | none=>rw[hx] at h;cases h
 | some x =>
   obtain⟨e,s'⟩:=x
   rw[hx] at h
   cases e with
   | normal =>
     simp only[Option.some.injEq,Prod.mk.injEq,true_and] at h
     dsimp only
     rw[qpX,h]
     rfl
   | panic v=>simp[gcE] at h
   | exit i=>simp[gcE] at h
   | ret=>simp[gcE] at h
theorem qfK {s s1:St} (h:qch pure call b keep fk body s=some (.exit id,s1)):qcg pure call b keep fk id body s=some (.normal,s1):=by
 unfold qch at h
 unfold qcg
 cases hx:qbJ pure call body s with
 | none=>rw[hx] at h;cases h
 | some x =>
   obtain⟨e,s'⟩:=x
   rw[hx] at h
   cases e with
   | normal=>simp at h
   | panic v=>simp[gcE] at h
   | exit i =>
     simp only[gcE,Option.some.injEq,Prod.mk.injEq,AExit.exit.injEq] at h
     obtain⟨rfl,rfl⟩:=h
     simp[gcE]
   | ret=>simp[gcE] at h
theorem qnJ {s s1:St} (h:qch pure call b keep fk body s=some (.ret,s1)):qcg pure call b keep fk id body s=some (.ret,s1):=by
 unfold qch at h
 unfold qcg
 cases hx:qbJ pure call body s with
 | none=>rw[hx] at h;cases h
 | some x =>
   obtain⟨e,s'⟩:=x
   rw[hx] at h
   cases e with
   | normal=>simp at h
   | panic v=>simp[gcE] at h
   | exit i=>simp[gcE] at h
   | ret =>
     simp only[gcE,Option.some.injEq,Prod.mk.injEq,true_and] at h
     subst h
     rfl
def qcE:List Int→Int
 | []=>0
 | e::es=>if e=0 then qcE es else e
def qbr {α β:Type} (g:Nat→α→Option β):List α→Nat→Option β
 | [],_=>none
 | x::xs,i=>match g i x with | some r=>some r | none=>qbr g xs (i+1)
theorem qgm (C:Nat→St) (n:Nat) {T:St} (hstep:∀ i,i<n→qch pure call b keep fk body (C i)=some (.normal,C (i+1)))
  (hend:qch pure call b keep fk body (C n)=some (.exit id,T)):qcg pure call b keep fk id body (C 0)=some (.normal,T):=by
 have key:∀ k i,i+k=n→qcg pure call b keep fk id body (C i)=some (.normal,T):=by
  intro k
  induction k with
  | zero=>intro i hi;rw[Nat.add_zero] at hi;subst hi;exact qfK hend
  | succ k ih=>intro i hi;rw[qhu (hstep i (by omega))];exact ih (i+1) (by omega)
 exact key n 0 (by omega)
def qcu {β:Type} (R:β→St) (T:St):Option β→AExit × St
 | some r=>(.ret,R r)
 | none=>(.normal,T)
theorem qgT (C:Nat→St) (n:Nat) (Q:Nat→Option (AExit × St)) {T:St}
  (hstep:∀ i,i<n→(qch pure call b keep fk body (C i)=some (.normal,C (i+1))∧Q i=Q (i+1))∨∃ s',qch pure call b keep fk body (C i)=some (.ret,s')∧Q i=some (.ret,s'))
  (hend:qch pure call b keep fk body (C n)=some (.exit id,T)) (hQ:Q n=some (.normal,T)):qcg pure call b keep fk id body (C 0)=Q 0:=by
 have key:∀ k i,i+k=n→qcg pure call b keep fk id body (C i)=Q i:=by
  intro k
  induction k with
  | zero=>intro i hi;rw[Nat.add_zero] at hi;subst hi;rw[qfK hend,hQ]
  | succ k ih =>
    intro i hi
    rcases hstep i (by omega) with ⟨h1,h2⟩ | ⟨s',h1,h2⟩
    ·rw[qhu h1,h2];exact ih (i+1) (by omega)
    ·rw[qnJ h1,h2]
 exact key n 0 (by omega)
theorem qr9 {α:Type} (xs:List α) (g:α→Int) (C:Nat→St) (T:St) (R:Int→St)
  (h0:∀ (i:Nat) (hi:i<xs.length),g xs[i]=0→qch pure call b keep fk body (C i)=some (.normal,C (i+1)))
  (h1:∀ (i:Nat) (hi:i<xs.length),g xs[i]≠0→qch pure call b keep fk body (C i)=some (.ret,R (g xs[i])))
  (hend:qch pure call b keep fk body (C xs.length)=some (.exit id,T)) :
  qcg pure call b keep fk id body (C 0)=some (if qcE (xs.map g)=0 then (.normal,T) else (.ret,R (qcE (xs.map g)))):=by
 refine qgT C xs.length (fun i=>some (if qcE ((xs.drop i).map g)=0 then (.normal,T) else (.ret,R (qcE ((xs.drop i).map g))))) ?_ hend (by simp[qcE])
 intro i hi
 have hdrop:xs.drop i=xs[i]::xs.drop (i+1):=List.drop_eq_getElem_cons hi
 rw[hdrop]
 simp only[List.map_cons,qcE]
 by_cases he:g xs[i]=0
 ·left
  rw[if_pos he]
  exact⟨h0 i hi he,rfl⟩
 ·right
  rw[if_neg he,if_neg he]
  exact⟨_,h1 i hi he,rfl⟩
theorem qkJ {α:Type} (xs:List α) (p:α→Bool) (C:Nat→St) (T R:St)
  (h0:∀ (i:Nat) (hi:i<xs.length),p xs[i]=false→qch pure call b keep fk body (C i)=some (.normal,C (i+1)))
  (h1:∀ (i:Nat) (hi:i<xs.length),p xs[i]=true→qch pure call b keep fk body (C i)=some (.ret,R))
  (hend:qch pure call b keep fk body (C xs.length)=some (.exit id,T)) :
  qcg pure call b keep fk id body (C 0)=some (if xs.any p=true then (.ret,R) else (.normal,T)):=by
 refine qgT C xs.length (fun i=>some (if (xs.drop i).any p=true then (.ret,R) else (.normal,T))) ?_ hend (by simp)
 intro i hi
 have hdrop:xs.drop i=xs[i]::xs.drop (i+1):=List.drop_eq_getElem_cons hi
 rw[hdrop]
 simp only[List.any_cons]
 by_cases he:p xs[i]=true
 ·right
  simp only[he,Bool.true_or,if_true]
  exact⟨_,h1 i hi he,rfl⟩
 ·left
  have he':p xs[i]=false:=by simpa using he
  simp only[he',Bool.false_or,and_true]
  exact h0 i hi he'
theorem qd1 {α β:Type} (xs:List α) (g:Nat→α→Option β) (C:Nat→St) (T:St) (R:β→St)
  (h0:∀ (i:Nat) (hi:i<xs.length),g i xs[i]=none→qch pure call b keep fk body (C i)=some (.normal,C (i+1)))
  (h1:∀ (i:Nat) (hi:i<xs.length) (r:β),g i xs[i]=some r→qch pure call b keep fk body (C i)=some (.ret,R r))
  (hend:qch pure call b keep fk body (C xs.length)=some (.exit id,T)) :
  qcg pure call b keep fk id body (C 0)=some (qcu R T (qbr g xs 0)):=by
 refine qgT C xs.length (fun i=>some (qcu R T (qbr g (xs.drop i) i))) ?_ hend (by simp[qbr,qcu])
 intro i hi
 have hdrop:xs.drop i=xs[i]::xs.drop (i+1):=List.drop_eq_getElem_cons hi
 rw[hdrop]
 simp only[qbr]
 cases he:g i xs[i] with
 | none =>
   left
   simp only[and_true]
   exact h0 i hi he
 | some r =>
   right
   exact⟨_,h1 i hi r he,rfl⟩
end
theorem qd3 {n:Int} (h1 : -2 ^ 63≤n) (h2:n<2 ^ 63):IntKind.i64.wrap n=n:=by
 have h:IntKind.i64.wrap n=(if (true && decide (n % 2 ^ 64≥2 ^ (64-1)))=true then n % 2 ^ 64-2 ^ 64 else n % 2 ^ 64):=rfl
 rw[h]
 by_cases hc:n % 2 ^ 64≥2 ^ (64-1)
 ·rw[if_pos (by simp only[Bool.true_and,decide_eq_true_eq];exact hc)]
  omega
 ·rw[if_neg (by simp only[Bool.true_and,decide_eq_true_eq];exact hc)]
  omega
end Go.Abs
