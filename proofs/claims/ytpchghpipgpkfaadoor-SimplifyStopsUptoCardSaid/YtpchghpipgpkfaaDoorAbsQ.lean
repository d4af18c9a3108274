/-
  Evaluating the abstract machine: the laws by which a simp set steps through code. Conditions: none.
-/
import Derived.Test.YtpchghpipgpkfaaDoorAbsB
set_option linter.unusedVariables false
namespace Go.Abs
theorem qyN (tm:Tmps) (d t:Nat) (v:AVal):upd tm (some d) v t=if t=d then v else tm t:=rfl
theorem qvg (tm:Tmps) (v:AVal):upd tm none v=tm:=rfl
theorem qrY (args:List AVal) (i:Nat):qdF args i=(args[i]?).getD (.tuple []):=rfl
theorem qxL (pure:Nat→Bool) (call:CallT) (s:St):qb0 pure call [] s=some (.normal,s):=rfl
theorem quT (pure:Nat→Bool) (call:CallT) (d:Option Nat) (o:AOp) (r:List Step) (tm:Tmps) (h:Heap) :
  qb0 pure call (⟨d,none,o⟩::r) ⟨tm,h⟩=match aOp pure call o tm h with | some (.val v,h')=>qb0 pure call r ⟨upd tm d v,h'⟩ | some (.panic v,h')=>some (.panic v,⟨tm,h'⟩) | none=>none:=rfl
theorem qqy (pure:Nat→Bool) (call:CallT) (d:Option Nat) (g:Option Nat × Bool) (o:AOp) (r:List Step) (tm:Tmps) (h:Heap) :
  qb0 pure call (⟨d,some g,o⟩::r) ⟨tm,h⟩=match qaf (some g) tm with
   | some true=>(match aOp pure call o tm h with | some (.val v,h')=>qb0 pure call r ⟨upd tm d v,h'⟩ | some (.panic v,h')=>some (.panic v,⟨tm,h'⟩) | none=>none)
   | some false=>qb0 pure call r ⟨upd tm d (.tuple []),h⟩
   | none=>none:=rfl
theorem quS (pure:Nat→Bool) (call:CallT) (s:St):qdN pure call [] s=some (.normal,s):=rfl
theorem qsy (pure:Nat→Bool) (call:CallT) (d:Option Nat) (o:AOp) (r:List Step) (tm:Tmps) (h:Heap) :
  qdN pure call (⟨d,none,o⟩::r) ⟨tm,h⟩=match qir pure call o tm h with | some (.val v,h')=>qdN pure call r ⟨upd tm d v,h'⟩ | some (.panic v,h')=>some (.panic v,⟨tm,h'⟩) | none=>none:=rfl
theorem quQ (pure:Nat→Bool) (call:CallT) (x:Opd) (tm:Tmps) (h:Heap):qir pure call (.move x) tm h=some (.val (opd tm x),h):=rfl
theorem qss (pure:Nat→Bool) (call:CallT) (n:Nat) (a:Opd) (tm:Tmps) (h:Heap):qir pure call (.field n a) tm h=aOp pure call (.field n a) tm h:=rfl
def qms (l:List Step) (tm:Tmps) (hs:List Heap) (i lo hi:Nat):Prop :=
 match l[i]? with
 | some ⟨some d,g,o⟩=>qaf g tm=some true→∀ h∈(hs.drop lo).take (hi+1-lo),aOp (fun _=>false) qeb o tm h=some (.val (tm d),h)
 | _=>True
def qe5 (l:List Step) (tm:Tmps) (hs:List Heap):List (Nat × Nat × Nat)→Prop
 | []=>True
 | c::cs=>qms l tm hs c.1 c.2.1 c.2.2∧qe5 l tm hs cs
theorem qrn {l:List Step} {tm:Tmps} {hs:List Heap} {c:Nat × Nat × Nat} (h:qms l tm hs c.1 c.2.1 c.2.2):qi8 l tm hs c:=by
 intro s d h1 h2 h3 k hp hk1 hk2 hk
 unfold qms at h
 obtain⟨d',g,o⟩:=s
 dsimp only at h2
 subst h2
 rw[h1] at h
 refine h h3 hp ?_
 refine List.mem_of_getElem? (i:=k-c.2.1) ?_
 rw[List.getElem?_take,if_pos (by omega),List.getElem?_drop,show c.2.1+(k-c.2.1)=k by omega]
 exact hk
theorem qkF {l:List Step} {tm:Tmps} {hs:List Heap}:∀ {cs:List (Nat × Nat × Nat)},qe5 l tm hs cs→∀ c∈cs,qi8 l tm hs c
 | [],_=>by simp
 | c :: cs,h => by
   intro c' hc
   rcases List.mem_cons.1 hc with rfl | hc
   ·exact qrn h.1
   ·exact qkF h.2 c' hc
theorem qv6 {pure:Nat→Bool} {call:CallT} {l:List Step} {cs:List (Nat × Nat × Nat)} {s:St} {tm:Tmps} {hs:List Heap} {h:Heap}
  (hr:qcQ pure call l s.tm [] s.h=some (tm,hs,h)) (hc:qe5 l tm hs cs):qge pure call l cs s=some (.normal,⟨tm,h⟩):=by
 unfold qge
 rw[hr]
 exact if_pos (qkF hc)
noncomputable def qoJ (pure:Nat→Bool) (call:CallT) (l:List Step) (cs:List (Nat × Nat × Nat)) (s:St):Option (AExit × St):=qge pure call l cs s
open Classical in
noncomputable def qrC (pure:Nat→Bool) (call:CallT) (l:List Step) (cs:List (Nat × Nat × Nat)) (s:St) (r:Option (Tmps × List Heap × Heap)):Option (AExit × St) :=
 match r with
 | some (tm,hs,h)=>if qe5 l tm hs cs then some (.normal,⟨tm,h⟩) else qoJ pure call l cs s
 | none=>qoJ pure call l cs s
theorem qv5 (pure:Nat→Bool) (call:CallT) (l:List Step) (cs:List (Nat × Nat × Nat)) (s:St):qge pure call l cs s=qrC pure call l cs s (qcQ pure call l s.tm [] s.h):=by
 unfold qrC
 split
 ·rename_i tm hs h hr
  split
  ·rename_i hc
   exact qv6 hr hc
  ·rfl
 ·rfl
open Classical in
theorem qrD (pure:Nat→Bool) (call:CallT) (l:List Step) (cs:List (Nat × Nat × Nat)) (s:St) (tm:Tmps) (hs:List Heap) (h:Heap) :
  qrC pure call l cs s (some (tm,hs,h))=if qe5 l tm hs cs then some (.normal,⟨tm,h⟩) else qoJ pure call l cs s:=rfl
theorem quR (pure:Nat→Bool) (call:CallT) (tm:Tmps) (hs:List Heap) (h:Heap):qcQ pure call [] tm hs h=some (tm,hs++[h],h):=rfl
theorem qsx (pure:Nat→Bool) (call:CallT) (d:Option Nat) (g:Option (Option Nat × Bool)) (o:AOp) (r:List Step) (tm:Tmps) (hs:List Heap) (h:Heap) :
  qcQ pure call (⟨d,g,o⟩::r) tm hs h=match qaf g tm with
   | some true=>(match aOp pure call o tm h with | some (.val v,h')=>qcQ pure call r (upd tm d v) (if qaE o=true then hs++[h] else hs) h' | _=>none)
   | some false=>qcQ pure call r (upd tm d (.tuple [])) (if qaE o=true then hs++[h] else hs) h
   | none=>none:=rfl
theorem qpa {h:Heap} {v:AVal} (hv:qay (wipeR v)=true):qeW h v=wipeR v:=if_pos hv
noncomputable def pcall (L:Lib) (f:Nat) (args:List AVal) (h:Heap):Option (ARes × Heap) :=
 match call L f args [] with
 | some (.val v,h2)=>if qay (qeW h2 v)=true then some (.val (qeW h2 v),h) else none
 | some (.panic v,h2)=>if qay (qeW h2 v)=true then some (.panic (qeW h2 v),h) else none
 | none=>none
theorem qal (L:Lib) (hp:∀ f,L.pure f=true) (f:Nat) (args:List AVal) (h:Heap) :
  qcz L.pure (call L) f args h=if qas (args.map wipe)=true then pcall L f (args.map wipe) h else qkp (call L) f args h:=by
 unfold qcz pcall
 by_cases hd:qas (args.map wipe)=true
 ·rw[if_pos ⟨hp f,hd⟩,if_pos hd]
  cases call L f (args.map wipe) [] with
  | none=>rfl
  | some x=>obtain⟨v,h'⟩:=x;cases v<;>rfl
 ·rw[if_neg (fun hx=>hd hx.2),if_neg hd]
theorem quV {L:Lib} {f:Nat} {fn:AFn} {args:List AVal} {v:AVal} (h':Heap) (hs:L.summ f=none) (hf:L.fns f=some fn)
  (hr:qan fn.results (qaP L.pure (call L) fn.body ⟨qdF args,[]⟩)=some (.val v,h')) (hv:qay (wipeR v)=true) (h:Heap):pcall L f args h=some (.val (wipeR v),h):=by
 unfold pcall
 rw[qaA hs hf hr]
 dsimp only
 rw[qpa hv,if_pos hv]
theorem qch {L:Lib} {f:Nat} {args:List AVal} {v u:AVal} {h':Heap} (hr:call L f args []=some (.val v,h')) (hu:qeW h' v=u) (hd:qay u=true) (h:Heap):pcall L f args h=some (.val u,h):=by
 unfold pcall
 rw[hr]
 dsimp only
 rw[hu,if_pos hd]
theorem qjL {h:Heap} {v u:AVal} (hp:qff u=true) (hd:qeW h v=u):v=u:=by
 unfold qeW at hd
 split at hd
 ·cases v<;>simp only[wipeR,wipe,wipeCell] at hd<;>subst hd<;>first | rfl | (simp[qff] at hp)
 ·rename_i hn
  exfalso
  unfold viewV at hd
  rw[qaU] at hd
  split at hd
  ·rename_i hdd
   exact hn (by cases v<;>simp only[wipeR,wipe,wipeCell] at hd ⊢ <;> first | (subst hd;first | rfl | (simp[qff] at hp;done)) | (exfalso;revert hp;rw[← hd];simp[qff]))
  ·unfold qc5 at hd
   cases v<;>(try dsimp only at hd)<;>(repeat' (first | (simp only[wipeR,wipe,wipeCell] at hd;subst hd;simp[qff] at hp;done) | split at hd))
theorem qeQ {L:Lib} {f:Nat} {args args':List AVal} {h:Heap} {u:AVal} (ha:args.map (lookV h)=args') (hd:qas args'=true) (hp:qff u=true) (hc:pcall L f args' h=some (.val u,h)):qhQ (call L) f args h=some (.val u,h):=by
 unfold pcall at hc
 unfold qhQ
 rw[ha,if_pos hd]
 split at hc
 ·rename_i v h2 he
  rw[he]
  dsimp only
  split at hc
  ·simp only[Option.some.injEq,Prod.mk.injEq,ARes.val.injEq,and_true] at hc
   rw[qjL hp hc,if_pos hp]
  ·cases hc
 ·split at hc
  ·simp at hc
  ·cases hc
 ·cases hc
def kt:List Nat→List AVal→Tmps
 | k::ks,v::vs,t=>if t=k then v else kt ks vs t
 | _,_,_=>.junk
theorem qr8 (k:Nat) (ks:List Nat) (v:AVal) (vs:List AVal) (t:Nat):kt (k::ks) (v::vs) t=if t=k then v else kt ks vs t:=rfl
theorem qyu (ks:List Nat) (t:Nat):kt ks [] t=.junk:=by cases ks<;>rfl
theorem qr9 (g:Nat→AVal):∀ (keep:List Nat),kt keep (keep.map g)=fun t=>if t∈keep then g t else .junk
 | []=>by funext t;simp[kt]
 | k :: ks => by
   funext t
   rw[List.map_cons,qr8,qr9 g ks]
   by_cases h:t=k<;>simp[h]
theorem qqm:qkS []=false:=rfl
theorem qop (k:Nat) (ks:List Nat):qkS (k::ks)=decide (k=1000000):=rfl
theorem qza (b:Nat) (keep:List Nat) (tm:Tmps) (h:Heap):gc b keep ⟨tm,h⟩ =
  if qkS keep=true then ⟨kt (keep.drop 1) ((keep.drop 1).map tm),h⟩
  else if b≤h.length then ⟨kt keep (keep.map fun t=>ren (qd7 b (qf3 b keep ⟨tm,h⟩)) (tm t)),
   (h.take b).map (qeo (qd7 b (qf3 b keep ⟨tm,h⟩)))++(qf3 b keep ⟨tm,h⟩).map fun id=>qeo (qd7 b (qf3 b keep ⟨tm,h⟩)) ((h[id]?).getD .gone)⟩ else ⟨tm,h⟩:=by
 unfold gc gc1 qzk
 rw[qr9,qr9]
theorem quk (b:Nat) (keep:List Nat) (tm:Tmps) (h:Heap):qf3 b keep ⟨tm,h⟩=qda b (keep.flatMap (fun t=>qa8 (tm t))++(h.take b).flatMap qnR) []:=rfl
section
variable (pure:Nat→Bool) (call:CallT)
theorem qru (s:St):qaP pure call .skip s=some (.normal,s):=rfl
theorem qtO (l:List Step) (s:St):qaP pure call (.ops l) s=qb0 pure call l s:=rfl
theorem qrt (l:List Step) (s:St):qaP pure call (.kops l) s=qdN pure call l s:=rfl
theorem qrr (l:List Step) (cs:List (Nat × Nat × Nat)) (s:St):qaP pure call (.draw l cs) s=qge pure call l cs s:=rfl
theorem qtQ (a b:ACode) (s:St):qaP pure call (.seq a b) s=match qaP pure call a s with | some (.normal,s')=>qaP pure call b s' | r=>r:=rfl
theorem qrq (c:Opd) (a b:ACode) (s:St):qaP pure call (.cond c a b) s=match opd s.tm c with | .bool t=>if t then qaP pure call a s else qaP pure call b s | _=>none:=rfl
theorem qp7 (id:Nat) (c:ACode) (s:St):qaP pure call (.block id c) s=match qaP pure call c s with | some (.exit id',s')=>if id'=id then some (.normal,s') else some (.exit id',s') | r=>r:=rfl
theorem qkg (k:List Nat) (a b:ACode) (s:St):qaP pure call (.frame k (.seq a b)) s=(qaP pure call (.seq a b) s).map (gcE s.h.length k):=rfl
theorem qoe (t:Nat) (c:ACode) (s:St):qaP pure call (.freeze t c) s=qaP pure call c (qeC t s):=rfl
theorem qrv (c:ACode) (s:St):qaP pure call (.view c) s=qaP pure call c (qnK s):=rfl
theorem qrs (id:Nat) (s:St):qaP pure call (.exit id) s=some (.exit id,s):=rfl
theorem qtP (s:St):qaP pure call .ret s=some (.ret,s):=rfl
end
def qcC (b:Nat):Nat→Option (Option Nat)
 | 0=>some none
 | _+1=>some (some b)
def qby (sz:Nat):Nat→Heap
 | 0=>[]
 | n+1=>[.tail (n+1) sz]
theorem qdx (b:Nat):qcC b 0=some none:=rfl
theorem qhH (b n:Nat):qcC b (n+1)=some (some b):=rfl
theorem qdL (sz:Nat):qby sz 0=[]:=rfl
theorem qgz (sz n:Nat):qby sz (n+1)=[.tail (n+1) sz]:=rfl
theorem qee {b n:Nat} (h:0<n):qcC b n=some (some b):=by cases n with | zero=>omega | succ n=>rfl
theorem qdz {sz n:Nat} (h:0<n):qby sz n=[.tail n sz]:=by cases n with | zero=>omega | succ n=>rfl
theorem qnb (b sz n:Nat):(qcC b n=some none∧qby sz n=[])∨(qcC b n=some (some b)∧qby sz n=[.tail n sz]):=by
 cases n with
 | zero=>exact .inl ⟨rfl,rfl⟩
 | succ n=>exact .inr ⟨rfl,rfl⟩
def qzq (id sz:Nat) (cs:List AVal) (tm:Tmps):Tmps:=fun i=>frz id sz cs (tm i)
theorem qwh (id sz:Nat) (cs:List AVal) (tm:Tmps) (i:Nat):qzq id sz cs tm i=frz id sz cs (tm i):=rfl
theorem qui (id sz:Nat) (cs:List AVal) (tm:Tmps) (h:Heap):qim id sz cs ⟨tm,h⟩=if qas cs=true∧cs.all leaf=true then ⟨qzq id sz cs tm,(h.set id .gone).map (qkb id sz cs)⟩ else ⟨tm,h⟩:=rfl
theorem qqh (t:Nat) (tm:Tmps) (h:Heap):qeC t ⟨tm,h⟩=match tm t with
 | .ptr (some (id,0))=>(match h[id]? with | some (.box cs)=>qim id 0 (cs.map wipeCell) ⟨tm,h⟩ | _=>⟨tm,h⟩)
 | .vec id _=>(match h[id]? with | some (.vec cs sz)=>qim id sz (cs.map wipeCell) ⟨tm,h⟩ | _=>⟨tm,h⟩)
 | _=>⟨tm,h⟩:=rfl
theorem qrV:qnR .gone=[]:=rfl
theorem qup (cs:List AVal):qnR (.box cs)=cs.flatMap qa8:=rfl
theorem qrX (n sz:Nat):qnR (.tail n sz)=[]:=rfl
theorem qrW:qnR (.map [])=[]:=rfl
theorem qsS (ρ:Nat→Option Nat):qeo ρ .gone=.gone:=rfl
theorem qu1 (ρ:Nat→Option Nat) (cs:List AVal):qeo ρ (.box cs)=.box (cs.map (ren ρ)):=rfl
theorem qsU (ρ:Nat→Option Nat) (n sz:Nat):qeo ρ (.tail n sz)=.tail n sz:=rfl
theorem qsT (ρ:Nat→Option Nat):qeo ρ (.map [])=.map []:=rfl
theorem quZ (call:CallT) (f:Nat) (args:List AVal) (h:Heap):qkp call f args h=if (qbr args h).all (fun i=>decide (i<h.length))=true then
  match call f (args.map (ren fun i=>qax i (qbr args h) 0)) (qcw (qbr args h) h) with
  | some (r,h2)=>some (qn2 (qbr args h) (qm5 (qbr args h).length r h2) h.length r,qeH (qbr args h) (qm5 (qbr args h).length r h2) h h2)
  | none=>none
 else none:=rfl
theorem qsl (k:Nat) (v:AVal) (h2:Heap):qm5 k (.val v) h2=qda k (qa8 v++(h2.take k).flatMap qnR) []:=rfl
theorem qpW (l nl:List Nat) (n j:Nat):qcr l nl n j=if j<l.length then l[j]? else (qax j nl 0).map (n+·):=rfl
theorem qqG (args:List AVal) (h:Heap):qbr args h=grow h (grow h (grow h (qda 0 (args.flatMap qa8) []))):=rfl
theorem qwk (h:Heap) (l:List Nat):grow h l=qda 0 (l.flatMap fun i=>qnR ((h[i]?).getD .gone)) l:=rfl
theorem qqN (l:List Nat) (h:Heap):qcw l h=l.map fun i=>qeo (fun i=>qax i l 0) ((h[i]?).getD .gone):=rfl
def pb (l nl:List Nat) (n:Nat) (h2:Heap):Heap→Nat→Heap
 | [],_=>[]
 | o::os,i=>(match qax i l 0 with | some j=>qeo (qcr l nl n) ((h2[j]?).getD .gone) | none=>o)::pb l nl n h2 os (i+1)
theorem qyB (l nl:List Nat) (n:Nat) (h2:Heap) (i:Nat):pb l nl n h2 [] i=[]:=rfl
theorem qlU (l nl:List Nat) (n:Nat) (h2:Heap) (o:AObj) (os:Heap) (i:Nat):pb l nl n h2 (o::os) i=(match qax i l 0 with | some j=>qeo (qcr l nl n) ((h2[j]?).getD .gone) | none=>o)::pb l nl n h2 os (i+1):=rfl
theorem qnd (l nl:List Nat) (n:Nat) (h2:Heap):∀ (h:Heap) (k:Nat),(pb l nl n h2 h k).length=h.length
 | [],k=>rfl
 | o::os,k=>by rw[qlU,List.length_cons,List.length_cons,qnd l nl n h2 os]
theorem qvC (l nl:List Nat) (n:Nat) (h2:Heap):∀ (h:Heap) (k i:Nat) (o:AObj),h[i]? = some o→(pb l nl n h2 h k)[i]? = some (match qax (k+i) l 0 with | some j=>qeo (qcr l nl n) ((h2[j]?).getD .gone) | none=>o)
 | [],k,i,o,e=>by simp at e
 | x :: os,k,0,o,e => by
   simp at e
   subst e
   rw[qlU,List.getElem?_cons_zero,Nat.add_zero]
 | x :: os,k,i + 1,o,e => by
   rw[qlU,List.getElem?_cons_succ,qvC l nl n h2 os (k+1) i o (by simpa using e)]
   rw[show k+1+i=k+(i+1) by omega]
theorem qqz (l nl:List Nat) (h h2:Heap):qeH l nl h h2=pb l nl h.length h2 h 0++nl.map fun j=>qeo (qcr l nl h.length) ((h2[j]?).getD .gone):=by
 unfold qeH
 congr 1
 refine List.ext_getElem? fun i=>?_
 by_cases hi:i<h.length
 ·rw[qvC l nl _ h2 h 0 i h[i] (List.getElem?_eq_getElem hi),Nat.zero_add]
  rw[List.getElem?_map,List.getElem?_range hi]
  simp only[Option.map_some,List.getElem?_eq_getElem hi,Option.getD_some]
  cases qax i l 0<;>rfl
 ·rw[List.getElem?_eq_none (by simp;omega),List.getElem?_eq_none (by rw[qnd];omega)]
theorem qn3 (l nl:List Nat) (n:Nat) (v:AVal):qn2 l nl n (.val v)=.val (ren (qcr l nl n) v):=rfl
theorem qpN (cs:List AVal):acells (.agg cs)=cs:=rfl
theorem qpO (k:IntKind) (n:Int):acells (.int k n)=[.int k n]:=rfl
theorem qnW (xs:List AVal) (o:Option (Option Nat)):acells (.list xs o)=[.list xs o]:=rfl
theorem qpQ (a:Option (Nat × Nat)):acells (.ptr a)=[.ptr a]:=rfl
theorem qnX (cs:List AVal) (n:Nat):acells (.vptr cs n)=[.vptr cs n]:=rfl
theorem qpP (a:Option Nat):acells (.map a)=[.map a]:=rfl
theorem qnV (f:Nat) (a b:List AVal):acells (.func f a b)=[.func f a b]:=rfl
theorem qsk:qfi=1073741824:=rfl
theorem qmt (l:List Step) (tm:Tmps) (hs:List Heap) (c:Nat × Nat × Nat) (cs:List (Nat × Nat × Nat)):qe5 l tm hs (c::cs)=(qms l tm hs c.1 c.2.1 c.2.2∧qe5 l tm hs cs):=rfl
theorem qoc (l:List Step) (tm:Tmps) (hs:List Heap):qe5 l tm hs []=True:=rfl
theorem qrm (l:List Step) (tm:Tmps) (hs:List Heap) (i lo hi:Nat):qms l tm hs i lo hi=match l[i]? with
 | some ⟨some d,g,o⟩=>qaf g tm=some true→∀ h∈(hs.drop lo).take (hi+1-lo),aOp (fun _=>false) qeb o tm h=some (.val (tm d),h)
 | _=>True:=rfl
theorem qy1:(true==false)=false:=rfl
theorem qy0:(false==true)=false:=rfl
theorem qvi (cs:List AVal):wipe (.agg cs)=.agg (cs.map wipeCell):=rfl
theorem qtq (xs:List AVal) (o:Option (Option Nat)):wipe (.list xs o)=.list xs none:=rfl
theorem qto (b:Bool):wipe (.bool b)=.bool b:=rfl
theorem qvj (k:IntKind) (n:Int):wipe (.int k n)=.int k n:=rfl
theorem qoL (cs:List AVal):wipeR (.tuple cs)=.tuple (cs.map wipe):=rfl
theorem qtm (cs:List AVal):wipeR (.agg cs)=.agg (cs.map wipeCell):=rfl
theorem qhR (xs:List AVal) (o:Option (Option Nat)):wipeR (.list xs o)=.list xs none:=rfl
theorem qqS (b:Bool):wipeR (.bool b)=.bool b:=rfl
theorem qtn (k:IntKind) (n:Int):wipeR (.int k n)=.int k n:=rfl
theorem qvl (a:Option (Nat × Nat)):wipe (.ptr a)=.ptr a:=rfl
theorem qft (cs:List AVal) (n:Nat):wipe (.vptr cs n)=.vptr cs n:=rfl
theorem qvk (a:Option Nat):wipe (.map a)=.map a:=rfl
theorem qtp (f:Nat) (a b:List AVal):wipe (.func f a b)=.func f a b:=rfl
theorem qqR (xs:List AVal) (o:Option (Option Nat)):wipeCell (.list xs o)=.list xs none:=rfl
theorem qtl (k:IntKind) (n:Int):wipeCell (.int k n)=.int k n:=rfl
theorem qa0 (xs:List AVal):qay (.list xs none)=qas xs:=by simp[qay]
theorem qin (xs:List AVal):qay (.list xs (some none))=qas xs:=by simp[qay]
theorem qio (xs:List AVal) (i:Nat):qay (.list xs (some (some i)))=false:=by simp[qay]
theorem qol (b:Bool):qay (.bool b)=true:=rfl
theorem qkR (k:IntKind) (n:Int):qay (.int k n)=true:=rfl
theorem qqj (cs:List AVal):qay (.agg cs)=qas cs:=rfl
theorem qh9 (cs:List AVal):qay (.tuple cs)=qas cs:=rfl
theorem qom (f:Nat) (a b:List AVal):qay (.func f a b)=(qas a && qas b):=rfl
theorem qoo (cs:List AVal) (n:Nat):qay (.vptr cs n)=qas cs:=rfl
theorem qql (a:Nat × Nat):qay (.ptr (some a))=false:=rfl
theorem qqk (a:Nat):qay (.map (some a))=false:=rfl
theorem qon:qay .junk=true:=rfl
theorem qjx:qas []=true:=rfl
theorem qh7 (v:AVal) (vs:List AVal):qas (v::vs)=(qay v && qas vs):=rfl
theorem qgb (a b:List AVal):qas (a++b)=(qas a && qas b):=by
 induction a with
 | nil=>rfl
 | cons x xs ih=>rw[List.cons_append,qas,qas,ih,Bool.and_assoc]
theorem qdG {α:Type} (f:α→AVal) (h:∀ a,qay (f a)=true) (l:List α):qas (l.map f)=true:=by
 induction l with
 | nil=>rfl
 | cons x xs ih=>rw[List.map_cons,qas,h,ih];rfl
theorem all_map {α:Type} (f:α→AVal) (n:Nat) (h:∀ a,(acells (f a)).length=n) (l:List α):((l.map f).all fun v=>decide ((acells v).length=n))=true:=by
 rw[List.all_eq_true]
 intro x hx
 obtain⟨a,_,rfl⟩:=List.mem_map.1 hx
 simp[h a]
theorem qqx (n:Nat) (acc:List Nat):qda n [] acc=acc:=rfl
theorem qot (n i:Nat) (is acc:List Nat):qda n (i::is) acc=qda n is (if n≤i∧i∉acc then acc++[i] else acc):=rfl
theorem qul (n:Nat) (l:List Nat) (i:Nat):qd7 n l i=if i<n then some i else qax i l n:=rfl
noncomputable def qa1 (pure:Nat→Bool) (call:CallT) (b:Nat) (keep fk:List Nat) (body:ACode) (s:St):Option (AExit × St) :=
 match qaP pure call body s with
 | some (.normal,s')=>some (.normal,gc b keep s')
 | some (e,s')=>some (gcE b fk (e,s'))
 | none=>none
theorem qsZ (pure:Nat→Bool) (call:CallT) (b:Nat) (keep fk:List Nat) (body:ACode) (s:St):qa1 pure call b keep fk body s=match qaP pure call body s with
 | some (.normal,s')=>some (.normal,gc b keep s')
 | some (e,s')=>some (gcE b fk (e,s'))
 | none=>none:=rfl
noncomputable def qa4 (pure:Nat→Bool) (call:CallT) (b:Nat) (keep fk:List Nat) (id:Nat) (body:ACode) (s:St):Option (AExit × St) :=
 (match (match qaP pure call body s with
   | some (.normal,s')=>qjB (fun s1=>qaP pure call body (gc b keep s1)) s'
   | r=>r) with
  | some (.exit id',s')=>if id'=id then some (AExit.normal,s') else some (AExit.exit id',s')
  | r=>r).map (gcE b fk)
theorem qp8 (pure:Nat→Bool) (call:CallT) (keep fk:List Nat) (id:Nat) (body:ACode) (tm:Tmps) (h:Heap) :
  qaP pure call (.frame fk (.block id (.gloop keep body))) ⟨tm,h⟩=qa4 pure call h.length keep fk id body (gc h.length keep ⟨tm,h⟩):=by
 unfold qa4
 simp only[qaP]
 rw[qpy]
 rfl
section
variable {pure:Nat→Bool} {call:CallT} {b:Nat} {keep fk:List Nat} {id:Nat} {body:ACode}
theorem qdw {s s1:St} (h:qa1 pure call b keep fk body s=some (.normal,s1)):qa4 pure call b keep fk id body s=qa4 pure call b keep fk id body s1:=by
 unfold qa1 at h
 unfold qa4
 cases hx:qaP pure call body s with
 | none=>rw[hx] at h;cases h
 | some x =>
   obtain⟨e,s'⟩:=x
   rw[hx] at h
   cases e with
   | normal =>
     simp only[Option.some.injEq,Prod.mk.injEq,true_and] at h
     dsimp only
     rw[qpy,h]
     rfl
   | panic v=>simp[gcE] at h
   | exit i=>simp[gcE] at h
   | ret=>simp[gcE] at h
theorem qcA {s s1:St} (h:qa1 pure call b keep fk body s=some (.exit id,s1)):qa4 pure call b keep fk id body s=some (.normal,s1):=by
 unfold qa1 at h
 unfold qa4
 cases hx:qaP pure call body s with
 | none=>rw[hx] at h;cases h
 | some x =>
   obtain⟨e,s'⟩:=x
   rw[hx] at h
   cases e with
   | normal=>simp at h
   | panic v=>simp[gcE] at h
   | exit i =>
     simp only[gcE,Option.some.injEq,Prod.mk.injEq,AExit.exit.injEq] at h
     obtain⟨rfl,rfl⟩:=h
     simp[gcE]
   | ret=>simp[gcE] at h
theorem qjC {s s1:St} (h:qa1 pure call b keep fk body s=some (.ret,s1)):qa4 pure call b keep fk id body s=some (.ret,s1):=by
 unfold qa1 at h
 unfold qa4
 cases hx:qaP pure call body s with
 | none=>rw[hx] at h;cases h
 | some x =>
   obtain⟨e,s'⟩:=x
   rw[hx] at h
   cases e with
   | normal=>simp at h
   | panic v=>simp[gcE] at h
   | exit i=>simp[gcE] at h
   | ret =>
     simp only[gcE,Option.some.injEq,Prod.mk.injEq,true_and] at h
     subst h
     rfl
def qbF:List Int→Int
 | []=>0
 | e::es=>if e=0 then qbF es else e
def qaJ {α β:Type} (g:Nat→α→Option β):List α→Nat→Option β
 | [],_=>none
 | x::xs,i=>match g i x with | some r=>some r | none=>qaJ g xs (i+1)
theorem qor (C:Nat→St) (n:Nat) {T:St} (hstep:∀ i,i<n→qa1 pure call b keep fk body (C i)=some (.normal,C (i+1)))
  (hend:qa1 pure call b keep fk body (C n)=some (.exit id,T)):qa4 pure call b keep fk id body (C 0)=some (.normal,T):=by
 have key:∀ k i,i+k=n→qa4 pure call b keep fk id body (C i)=some (.normal,T):=by
  intro k
  induction k with
  | zero=>intro i hi;rw[Nat.add_zero] at hi;subst hi;exact qcA hend
  | succ k ih=>intro i hi;rw[qdw (hstep i (by omega))];exact ih (i+1) (by omega)
 exact key n 0 (by omega)
def qbx {β:Type} (R:β→St) (T:St):Option β→AExit × St
 | some r=>(.ret,R r)
 | none=>(.normal,T)
theorem qfh (C:Nat→St) (n:Nat) (Q:Nat→Option (AExit × St)) {T:St}
  (hstep:∀ i,i<n→(qa1 pure call b keep fk body (C i)=some (.normal,C (i+1))∧Q i=Q (i+1))∨∃ s',qa1 pure call b keep fk body (C i)=some (.ret,s')∧Q i=some (.ret,s'))
  (hend:qa1 pure call b keep fk body (C n)=some (.exit id,T)) (hQ:Q n=some (.normal,T)):qa4 pure call b keep fk id body (C 0)=Q 0:=by
 have key:∀ k i,i+k=n→qa4 pure call b keep fk id body (C i)=Q i:=by
  intro k
  induction k with
  | zero=>intro i hi;rw[Nat.add_zero] at hi;subst hi;rw[qcA hend,hQ]
  | succ k ih =>
    intro i hi
    rcases hstep i (by omega) with ⟨h1,h2⟩ | ⟨s',h1,h2⟩
    ·rw[qdw h1,h2];exact ih (i+1) (by omega)
    ·rw[qjC h1,h2]
 exact key n 0 (by omega)
theorem qsi {α:Type} (xs:List α) (g:α→Int) (C:Nat→St) (T:St) (R:Int→St)
  (h0:∀ (i:Nat) (hi:i<xs.length),g xs[i]=0→qa1 pure call b keep fk body (C i)=some (.normal,C (i+1)))
  (h1:∀ (i:Nat) (hi:i<xs.length),g xs[i]≠0→qa1 pure call b keep fk body (C i)=some (.ret,R (g xs[i])))
  (hend:qa1 pure call b keep fk body (C xs.length)=some (.exit id,T)) :
  qa4 pure call b keep fk id body (C 0)=some (if qbF (xs.map g)=0 then (.normal,T) else (.ret,R (qbF (xs.map g)))):=by
 refine qfh C xs.length (fun i=>some (if qbF ((xs.drop i).map g)=0 then (.normal,T) else (.ret,R (qbF ((xs.drop i).map g))))) ?_ hend (by simp[qbF])
 intro i hi
 have hdrop:xs.drop i=xs[i]::xs.drop (i+1):=List.drop_eq_getElem_cons hi
 rw[hdrop]
 simp only[List.map_cons,qbF]
 by_cases he:g xs[i]=0
 ·left
  rw[if_pos he]
  exact⟨h0 i hi he,rfl⟩
 ·right
  rw[if_neg he,if_neg he]
  exact⟨_,h1 i hi he,rfl⟩
theorem qfg {α:Type} (xs:List α) (p:α→Bool) (C:Nat→St) (T R:St)
  (h0:∀ (i:Nat) (hi:i<xs.length),p xs[i]=false→qa1 pure call b keep fk body (C i)=some (.normal,C (i+1)))
  (h1:∀ (i:Nat) (hi:i<xs.length),p xs[i]=true→qa1 pure call b keep fk body (C i)=some (.ret,R))
  (hend:qa1 pure call b keep fk body (C xs.length)=some (.exit id,T)) :
  qa4 pure call b keep fk id body (C 0)=some (if xs.any p=true then (.ret,R) else (.normal,T)):=by
 refine qfh C xs.length (fun i=>some (if (xs.drop i).any p=true then (.ret,R) else (.normal,T))) ?_ hend (by simp)
 intro i hi
 have hdrop:xs.drop i=xs[i]::xs.drop (i+1):=List.drop_eq_getElem_cons hi
 rw[hdrop]
 simp only[List.any_cons]
 by_cases he:p xs[i]=true
 ·right
  simp only[he,Bool.true_or,if_true]
  exact⟨_,h1 i hi he,rfl⟩
 ·left
  have he':p xs[i]=false:=by simpa using he
  simp only[he',Bool.false_or,and_true]
  exact h0 i hi he'
theorem qcW {α β:Type} (xs:List α) (g:Nat→α→Option β) (C:Nat→St) (T:St) (R:β→St)
  (h0:∀ (i:Nat) (hi:i<xs.length),g i xs[i]=none→qa1 pure call b keep fk body (C i)=some (.normal,C (i+1)))
  (h1:∀ (i:Nat) (hi:i<xs.length) (r:β),g i xs[i]=some r→qa1 pure call b keep fk body (C i)=some (.ret,R r))
  (hend:qa1 pure call b keep fk body (C xs.length)=some (.exit id,T)) :
  qa4 pure call b keep fk id body (C 0)=some (qbx R T (qaJ g xs 0)):=by
 refine qfh C xs.length (fun i=>some (qbx R T (qaJ g (xs.drop i) i))) ?_ hend (by simp[qaJ,qbx])
 intro i hi
 have hdrop:xs.drop i=xs[i]::xs.drop (i+1):=List.drop_eq_getElem_cons hi
 rw[hdrop]
 simp only[qaJ]
 cases he:g i xs[i] with
 | none =>
   left
   simp only[and_true]
   exact h0 i hi he
 | some r =>
   right
   exact⟨_,h1 i hi r he,rfl⟩
end
theorem qb6 {n:Int} (h1 : -2 ^ 63≤n) (h2:n<2 ^ 63):IntKind.i64.wrap n=n:=by
 have h:IntKind.i64.wrap n=(if (true && decide (n % 2 ^ 64≥2 ^ (64-1)))=true then n % 2 ^ 64-2 ^ 64 else n % 2 ^ 64):=rfl
 rw[h]
 by_cases hc:n % 2 ^ 64≥2 ^ (64-1)
 ·rw[if_pos (by simp only[Bool.true_and,decide_eq_true_eq];exact hc)]
  omega
 ·rw[if_neg (by simp only[Bool.true_and,decide_eq_true_eq];exact hc)]
  omega
set_option linter.defProp false in
def ev_:=And.intro @qru <| And.intro @qtO <| And.intro @qrt <| And.intro @quS <| And.intro @qsy <| And.intro @quQ <| And.intro @qss <| And.intro @qrr <| And.intro @qtQ <| And.intro @qrq <| And.intro @qp7 <| And.intro @qrs <| And.intro @qtP <| And.intro @quT <| And.intro @qqy <| And.intro @qxL <| And.intro @qyN <| And.intro @qvg <| And.intro @qrY <| And.intro @qr8 <| And.intro @qpN <| And.intro @qpO <| And.intro @qnW <| And.intro @qpQ <| And.intro @qnX <| And.intro @qpP <| And.intro @qnV <| And.intro @qp8 <| And.intro @qza <| And.intro @qqm <| And.intro @qop <| And.intro @quk <| And.intro @qqx <| And.intro @qot <| And.intro @qul <| And.intro @qsS <| And.intro @qu1 <| And.intro @qsU <| And.intro @qsT <| And.intro @qrV <| And.intro @qup <| And.intro @qrX <| And.intro @qrW <| And.intro @qv5 <| And.intro @quR <| And.intro @qsx <| And.intro @qvi <| And.intro @qtq <| And.intro @qto <| And.intro @qvj <| And.intro @qoL <| And.intro @qtm <| And.intro @qhR <| And.intro @qqS <| And.intro @qtn <| And.intro @qvl <| And.intro @qft <| And.intro @qvk <| And.intro @qtp <| And.intro @qqR <| And.intro @qtl <| And.intro @qa0 <| And.intro @qin <| And.intro @qio <| And.intro @qol <| And.intro @qkR <| And.intro @qqj <| And.intro @qh9 <| And.intro @qom <| And.intro @qoo <| And.intro @qql <| And.intro @qqk <| And.intro @qon <| And.intro @qjx <| And.intro @qh7 <| And.intro @qgb <| And.intro @qy1 <| And.intro @qy0 <| And.intro @beq_self_eq_true.{0} <| And.intro @Option.map_some.{0,0} <| And.intro @Option.map_none.{0,0} <| And.intro @Option.getD_some.{0} <| And.intro @Option.getD_none.{0} <| And.intro @List.map_cons.{0,0} <| And.intro @List.map_nil.{0,0} <| And.intro @List.flatMap_cons.{0,0} <| And.intro @List.flatMap_nil.{0,0} <| And.intro @List.length_cons.{0} <| And.intro @List.length_nil.{0} <| And.intro @List.length_append.{0} <| And.intro @List.length_map.{0,0} <| And.intro @List.cons_append.{0} <| And.intro @List.nil_append.{0} <| And.intro @List.append_nil.{0} <| And.intro @List.append_assoc.{0} <| And.intro @List.getElem?_nil.{0} <| And.intro @List.getElem?_cons_zero.{0} <| And.intro @List.getElem?_cons_succ.{0} <| And.intro @List.set_cons_zero.{0} <| And.intro @List.set_cons_succ.{0} <| And.intro @List.take_succ_cons.{0} <| And.intro @List.take_zero.{0} <| And.intro @List.drop_succ_cons.{0} <| And.intro @List.drop_zero.{0} <| And.intro @List.take_nil.{0} <| And.intro @List.drop_nil.{0} <| And.intro @List.all_cons.{0} <| And.intro @List.all_nil.{0} <| And.intro @List.mem_cons.{0} <| And.intro @List.not_mem_nil.{0} <| And.intro @Bool.and_true <| And.intro @Bool.true_and <| And.intro @Bool.and_false <| And.intro @Bool.false_and <| And.intro @Bool.or_true <| And.intro @Bool.true_or <| And.intro @Bool.or_false <| And.intro @Bool.false_or <| And.intro @Bool.not_true <| And.intro @Bool.not_false <| And.intro @Bool.false_eq_true <| And.intro @Bool.true_eq_false <| And.intro @and_true <| And.intro @true_and <| And.intro @and_false <| And.intro @false_and <| And.intro @or_true <| And.intro @or_false <| And.intro @not_true_eq_false <| And.intro @not_false_eq_true <| And.intro @decide_true <| And.intro @decide_false <| And.intro @and_self <| And.intro @Nat.le_refl <| And.intro @Nat.zero_le <| And.intro @Nat.add_zero <| And.intro @Nat.zero_add <| And.intro @Int.toNat_natCast <| And.intro @Int.natCast_nonneg <| And.intro @List.cons_ne_nil.{0} <| And.intro @qsZ <| And.intro @qsk <| And.intro @qmt <| And.intro @qoc <| And.intro @qrm <| And.intro @qrD <| And.intro @List.map_append.{0,0} <| And.intro @qyu <| And.intro @Int.cast_ofNat_Int <| And.intro @qoe <| And.intro @qrv <| And.intro @qqh <| And.intro @qui <| And.intro @qwh <| And.intro @Option.isSome_some.{0} <| And.intro @Option.isSome_none.{0} <| And.intro @qkg <| And.intro @quZ <| And.intro @qqG <| And.intro @qwk <| And.intro @qqN <| And.intro @qsl <| And.intro @qpW <| And.intro @qqz <| And.intro @qyB <| And.intro @qlU <| @qn3
end Go.Abs
