/-
  Evaluating the abstract machine: the laws by which a simp set steps through code. Conditions: none.
-/
import Derived.Test.YtpchghpipgpkfaaDoorAbsB
set_option linter.unusedVariables false
namespace Go.Abs
theorem qyW (tm:Tmps) (d t:Nat) (v:AVal):upd tm (some d) v t=if t=d then v else tm t:=rfl
theorem qvp (tm:Tmps) (v:AVal):upd tm none v=tm:=rfl
theorem qse (args:List AVal) (i:Nat):qdE args i=(args[i]?).getD (.tuple []):=rfl
theorem qxO (pure:Nat→Bool) (call:CallT) (s:St):qb1 pure call [] s=some (.normal,s):=rfl
theorem qu2 (pure:Nat→Bool) (call:CallT) (d:Option Nat) (o:AOp) (r:List Step) (tm:Tmps) (h:Heap) :
  qb1 pure call (⟨d,none,o⟩::r) ⟨tm,h⟩=match aOp pure call o tm h with | some (.val v,h')=>qb1 pure call r ⟨upd tm d v,h'⟩ | some (.panic v,h')=>some (.panic v,⟨tm,h'⟩) | none=>none:=rfl
theorem qqQ (pure:Nat→Bool) (call:CallT) (d:Option Nat) (g:Option Nat × Bool) (o:AOp) (r:List Step) (tm:Tmps) (h:Heap) :
  qb1 pure call (⟨d,some g,o⟩::r) ⟨tm,h⟩=match qaf (some g) tm with
   | some true=>(match aOp pure call o tm h with | some (.val v,h')=>qb1 pure call r ⟨upd tm d v,h'⟩ | some (.panic v,h')=>some (.panic v,⟨tm,h'⟩) | none=>none)
   | some false=>qb1 pure call r ⟨upd tm d (.tuple []),h⟩
   | none=>none:=rfl
theorem qu1 (pure:Nat→Bool) (call:CallT) (s:St):qdL pure call [] s=some (.normal,s):=rfl
theorem qsL (pure:Nat→Bool) (call:CallT) (d:Option Nat) (o:AOp) (r:List Step) (tm:Tmps) (h:Heap) :
  qdL pure call (⟨d,none,o⟩::r) ⟨tm,h⟩=match qis pure call o tm h with | some (.val v,h')=>qdL pure call r ⟨upd tm d v,h'⟩ | some (.panic v,h')=>some (.panic v,⟨tm,h'⟩) | none=>none:=rfl
theorem quZ (pure:Nat→Bool) (call:CallT) (x:Opd) (tm:Tmps) (h:Heap):qis pure call (.move x) tm h=some (.val (opd tm x),h):=rfl
theorem qsF (pure:Nat→Bool) (call:CallT) (n:Nat) (a:Opd) (tm:Tmps) (h:Heap):qis pure call (.field n a) tm h=aOp pure call (.field n a) tm h:=rfl
def qmB (l:List Step) (tm:Tmps) (hs:List Heap) (i lo hi:Nat):Prop :=
 match l[i]? with
 | some ⟨some d,g,o⟩=>qaf g tm=some true→∀ h∈(hs.drop lo).take (hi+1-lo),aOp (fun _=>false) qee o tm h=some (.val (tm d),h)
 | _=>True
def qe7 (l:List Step) (tm:Tmps) (hs:List Heap):List (Nat × Nat × Nat)→Prop
 | []=>True
 | c::cs=>qmB l tm hs c.1 c.2.1 c.2.2∧qe7 l tm hs cs
theorem qrD {l:List Step} {tm:Tmps} {hs:List Heap} {c:Nat × Nat × Nat} (h:qmB l tm hs c.1 c.2.1 c.2.2):qi9 l tm hs c:=by
 intro s d h1 h2 h3 k hp hk1 hk2 hk
 unfold qmB at h
 obtain⟨d',g,o⟩:=s
 dsimp only at h2
 subst h2
 rw[h1] at h
 refine h h3 hp ?_
 refine List.mem_of_getElem? (i:=k-c.2.1) ?_
 rw[List.getElem?_take,if_pos (by omega),List.getElem?_drop,show c.2.1+(k-c.2.1)=k by omega]
 exact hk
theorem qkI {l:List Step} {tm:Tmps} {hs:List Heap}:∀ {cs:List (Nat × Nat × Nat)},qe7 l tm hs cs→∀ c∈cs,qi9 l tm hs c
 | [],_=>by simp
 | c :: cs,h => by
   intro c' hc
   rcases List.mem_cons.1 hc with rfl | hc
   ·exact qrD h.1
   ·exact qkI h.2 c' hc
theorem qv9 {pure:Nat→Bool} {call:CallT} {l:List Step} {cs:List (Nat × Nat × Nat)} {s:St} {tm:Tmps} {hs:List Heap} {h:Heap}
  (hr:qcR pure call l s.tm [] s.h=some (tm,hs,h)) (hc:qe7 l tm hs cs):qgj pure call l cs s=some (.normal,⟨tm,h⟩):=by
 unfold qgj
 rw[hr]
 exact if_pos (qkI hc)
noncomputable def qoZ (pure:Nat→Bool) (call:CallT) (l:List Step) (cs:List (Nat × Nat × Nat)) (s:St):Option (AExit × St):=qgj pure call l cs s
open Classical in
noncomputable def qrR (pure:Nat→Bool) (call:CallT) (l:List Step) (cs:List (Nat × Nat × Nat)) (s:St) (r:Option (Tmps × List Heap × Heap)):Option (AExit × St) :=
 match r with
 | some (tm,hs,h)=>if qe7 l tm hs cs then some (.normal,⟨tm,h⟩) else qoZ pure call l cs s
 | none=>qoZ pure call l cs s
theorem qv8 (pure:Nat→Bool) (call:CallT) (l:List Step) (cs:List (Nat × Nat × Nat)) (s:St):qgj pure call l cs s=qrR pure call l cs s (qcR pure call l s.tm [] s.h):=by
 unfold qrR
 split
 ·rename_i tm hs h hr
  split
  ·rename_i hc
   exact qv9 hr hc
  ·rfl
 ·rfl
open Classical in
theorem qrS (pure:Nat→Bool) (call:CallT) (l:List Step) (cs:List (Nat × Nat × Nat)) (s:St) (tm:Tmps) (hs:List Heap) (h:Heap) :
  qrR pure call l cs s (some (tm,hs,h))=if qe7 l tm hs cs then some (.normal,⟨tm,h⟩) else qoZ pure call l cs s:=rfl
theorem qu0 (pure:Nat→Bool) (call:CallT) (tm:Tmps) (hs:List Heap) (h:Heap):qcR pure call [] tm hs h=some (tm,hs++[h],h):=rfl
theorem qsK (pure:Nat→Bool) (call:CallT) (d:Option Nat) (g:Option (Option Nat × Bool)) (o:AOp) (r:List Step) (tm:Tmps) (hs:List Heap) (h:Heap) :
  qcR pure call (⟨d,g,o⟩::r) tm hs h=match qaf g tm with
   | some true=>(match aOp pure call o tm h with | some (.val v,h')=>qcR pure call r (upd tm d v) (if qaz o=true then hs++[h] else hs) h' | _=>none)
   | some false=>qcR pure call r (upd tm d (.tuple [])) (if qaz o=true then hs++[h] else hs) h
   | none=>none:=rfl
theorem qpq {h:Heap} {v:AVal} (hv:qaA (wipeR v)=true):qeX h v=wipeR v:=if_pos hv
noncomputable def pcall (L:Lib) (f:Nat) (args:List AVal) (h:Heap):Option (ARes × Heap) :=
 match call L f args [] with
 | some (.val v,h2)=>if qaA (qeX h2 v)=true then some (.val (qeX h2 v),h) else none
 | some (.panic v,h2)=>if qaA (qeX h2 v)=true then some (.panic (qeX h2 v),h) else none
 | none=>none
theorem qal (L:Lib) (hp:∀ f,L.pure f=true) (f:Nat) (args:List AVal) (h:Heap) :
  qcz L.pure (call L) f args h=if qay (args.map wipe)=true then pcall L f (args.map wipe) h else qkt (call L) f args h:=by
 unfold qcz pcall
 by_cases hd:qay (args.map wipe)=true
 ·rw[if_pos ⟨hp f,hd⟩,if_pos hd]
  cases call L f (args.map wipe) [] with
  | none=>rfl
  | some x=>obtain⟨v,h'⟩:=x;cases v<;>rfl
 ·rw[if_neg (fun hx=>hd hx.2),if_neg hd]
theorem qu4 {L:Lib} {f:Nat} {fn:AFn} {args:List AVal} {v:AVal} (h':Heap) (hs:L.summ f=none) (hf:L.fns f=some fn)
  (hr:qan fn.results (qaR L.pure (call L) fn.body ⟨qdE args,[]⟩)=some (.val v,h')) (hv:qaA (wipeR v)=true) (h:Heap):pcall L f args h=some (.val (wipeR v),h):=by
 unfold pcall
 rw[qaB hs hf hr]
 dsimp only
 rw[qpq hv,if_pos hv]
theorem qcj {L:Lib} {f:Nat} {args:List AVal} {v u:AVal} {h':Heap} (hr:call L f args []=some (.val v,h')) (hu:qeX h' v=u) (hd:qaA u=true) (h:Heap):pcall L f args h=some (.val u,h):=by
 unfold pcall
 rw[hr]
 dsimp only
 rw[hu,if_pos hd]
theorem qjP {h:Heap} {v u:AVal} (hp:qff u=true) (hd:qeX h v=u):v=u:=by
 unfold qeX at hd
 split at hd
 ·cases v<;>simp only[wipeR,wipe,wipeCell] at hd<;>subst hd<;>first | rfl | (simp[qff] at hp)
 ·rename_i hn
  exfalso
  unfold viewV at hd
  rw[qaX] at hd
  split at hd
  ·rename_i hdd
   exact hn (by cases v<;>simp only[wipeR,wipe,wipeCell] at hd ⊢ <;> first | (subst hd;first | rfl | (simp[qff] at hp;done)) | (exfalso;revert hp;rw[← hd];simp[qff]))
  ·unfold qc5 at hd
   cases v<;>(try dsimp only at hd)<;>(repeat' (first | (simp only[wipeR,wipe,wipeCell] at hd;subst hd;simp[qff] at hp;done) | split at hd))
theorem qeS {L:Lib} {f:Nat} {args args':List AVal} {h:Heap} {u:AVal} (ha:args.map (lookV h)=args') (hd:qay args'=true) (hp:qff u=true) (hc:pcall L f args' h=some (.val u,h)):qhR (call L) f args h=some (.val u,h):=by
 unfold pcall at hc
 unfold qhR
 rw[ha,if_pos hd]
 split at hc
 ·rename_i v h2 he
  rw[he]
  dsimp only
  split at hc
  ·simp only[Option.some.injEq,Prod.mk.injEq,ARes.val.injEq,and_true] at hc
   rw[qjP hp hc,if_pos hp]
  ·cases hc
 ·split at hc
  ·simp at hc
  ·cases hc
 ·cases hc
def kt:List Nat→List AVal→Tmps
 | k::ks,v::vs,t=>if t=k then v else kt ks vs t
 | _,_,_=>.junk
theorem qso (k:Nat) (ks:List Nat) (v:AVal) (vs:List AVal) (t:Nat):kt (k::ks) (v::vs) t=if t=k then v else kt ks vs t:=rfl
theorem qyB (ks:List Nat) (t:Nat):kt ks [] t=.junk:=by cases ks<;>rfl
theorem qsp (g:Nat→AVal):∀ (keep:List Nat),kt keep (keep.map g)=fun t=>if t∈keep then g t else .junk
 | []=>by funext t;simp[kt]
 | k :: ks => by
   funext t
   rw[List.map_cons,qso,qsp g ks]
   by_cases h:t=k<;>simp[h]
theorem qqC:qkV []=false:=rfl
theorem qoC (k:Nat) (ks:List Nat):qkV (k::ks)=decide (k=1000000):=rfl
theorem qzk (b:Nat) (keep:List Nat) (tm:Tmps) (h:Heap):gc b keep ⟨tm,h⟩ =
  if qkV keep=true then ⟨kt (keep.drop 1) ((keep.drop 1).map tm),h⟩
  else if b≤h.length then ⟨kt keep (keep.map fun t=>ren (qd8 b (qf6 b keep ⟨tm,h⟩)) (tm t)),
   (h.take b).map (qeo (qd8 b (qf6 b keep ⟨tm,h⟩)))++(qf6 b keep ⟨tm,h⟩).map fun id=>qeo (qd8 b (qf6 b keep ⟨tm,h⟩)) ((h[id]?).getD .gone)⟩ else ⟨tm,h⟩:=by
 unfold gc gc1 qzu
 rw[qsp,qsp]
theorem quw (b:Nat) (keep:List Nat) (tm:Tmps) (h:Heap):qf6 b keep ⟨tm,h⟩=qdb b (keep.flatMap (fun t=>qaZ (tm t))++(h.take b).flatMap qnZ) []:=rfl
section
variable (pure:Nat→Bool) (call:CallT)
theorem qrJ (s:St):qaR pure call .skip s=some (.normal,s):=rfl
theorem qt3 (l:List Step) (s:St):qaR pure call (.ops l) s=qb1 pure call l s:=rfl
theorem qrI (l:List Step) (s:St):qaR pure call (.kops l) s=qdL pure call l s:=rfl
theorem qrG (l:List Step) (cs:List (Nat × Nat × Nat)) (s:St):qaR pure call (.draw l cs) s=qgj pure call l cs s:=rfl
theorem qt5 (a b:ACode) (s:St):qaR pure call (.seq a b) s=match qaR pure call a s with | some (.normal,s')=>qaR pure call b s' | r=>r:=rfl
theorem qrF (c:Opd) (a b:ACode) (s:St):qaR pure call (.cond c a b) s=match opd s.tm c with | .bool t=>if t then qaR pure call a s else qaR pure call b s | _=>none:=rfl
theorem qqo (id:Nat) (c:ACode) (s:St):qaR pure call (.block id c) s=match qaR pure call c s with | some (.exit id',s')=>if id'=id then some (.normal,s') else some (.exit id',s') | r=>r:=rfl
theorem qkl (k:List Nat) (a b:ACode) (s:St):qaR pure call (.frame k (.seq a b)) s=(qaR pure call (.seq a b) s).map (gcE s.h.length k):=rfl
theorem qop (t:Nat) (c:ACode) (s:St):qaR pure call (.freeze t c) s=qaR pure call c (qeE t s):=rfl
theorem qrK (c:ACode) (s:St):qaR pure call (.view c) s=qaR pure call c (qnS s):=rfl
theorem qrH (id:Nat) (s:St):qaR pure call (.exit id) s=some (.exit id,s):=rfl
theorem qt4 (s:St):qaR pure call .ret s=some (.ret,s):=rfl
end
def qcA (b:Nat):Nat→Option (Option Nat)
 | 0=>some none
 | _+1=>some (some b)
def qbB (sz:Nat):Nat→Heap
 | 0=>[]
 | n+1=>[.tail (n+1) sz]
theorem qdv (b:Nat):qcA b 0=some none:=rfl
theorem qhI (b n:Nat):qcA b (n+1)=some (some b):=rfl
theorem qdK (sz:Nat):qbB sz 0=[]:=rfl
theorem qgA (sz n:Nat):qbB sz (n+1)=[.tail (n+1) sz]:=rfl
theorem qeg {b n:Nat} (h:0<n):qcA b n=some (some b):=by cases n with | zero=>omega | succ n=>rfl
theorem qdx {sz n:Nat} (h:0<n):qbB sz n=[.tail n sz]:=by cases n with | zero=>omega | succ n=>rfl
theorem qnh (b sz n:Nat):(qcA b n=some none∧qbB sz n=[])∨(qcA b n=some (some b)∧qbB sz n=[.tail n sz]):=by
 cases n with
 | zero=>exact .inl ⟨rfl,rfl⟩
 | succ n=>exact .inr ⟨rfl,rfl⟩
def qzz (id sz:Nat) (cs:List AVal) (tm:Tmps):Tmps:=fun i=>frz id sz cs (tm i)
theorem qwj (id sz:Nat) (cs:List AVal) (tm:Tmps) (i:Nat):qzz id sz cs tm i=frz id sz cs (tm i):=rfl
theorem quu (id sz:Nat) (cs:List AVal) (tm:Tmps) (h:Heap):qin id sz cs ⟨tm,h⟩=if qay cs=true∧cs.all leaf=true then ⟨qzz id sz cs tm,(h.set id .gone).map (qkg id sz cs)⟩ else ⟨tm,h⟩:=rfl
theorem qqx (t:Nat) (tm:Tmps) (h:Heap):qeE t ⟨tm,h⟩=match tm t with
 | .ptr (some (id,0))=>(match h[id]? with | some (.box cs)=>qin id 0 (cs.map wipeCell) ⟨tm,h⟩ | _=>⟨tm,h⟩)
 | .vec id _=>(match h[id]? with | some (.vec cs sz)=>qin id sz (cs.map wipeCell) ⟨tm,h⟩ | _=>⟨tm,h⟩)
 | _=>⟨tm,h⟩:=rfl
theorem qsb:qnZ .gone=[]:=rfl
theorem quA (cs:List AVal):qnZ (.box cs)=cs.flatMap qaZ:=rfl
theorem qsd (n sz:Nat):qnZ (.tail n sz)=[]:=rfl
theorem qsc:qnZ (.map [])=[]:=rfl
theorem qs5 (ρ:Nat→Option Nat):qeo ρ .gone=.gone:=rfl
theorem qva (ρ:Nat→Option Nat) (cs:List AVal):qeo ρ (.box cs)=.box (cs.map (ren ρ)):=rfl
theorem qs7 (ρ:Nat→Option Nat) (n sz:Nat):qeo ρ (.tail n sz)=.tail n sz:=rfl
theorem qs6 (ρ:Nat→Option Nat):qeo ρ (.map [])=.map []:=rfl
theorem qu8 (call:CallT) (f:Nat) (args:List AVal) (h:Heap):qkt call f args h=if (qbx args h).all (fun i=>decide (i<h.length))=true then
  match call f (args.map (ren fun i=>qav i (qbx args h) 0)) (qcw (qbx args h) h) with
  | some (r,h2)=>some (qoc (qbx args h) (qnd (qbx args h).length r h2) h.length r,qeJ (qbx args h) (qnd (qbx args h).length r h2) h h2)
  | none=>none
 else none:=rfl
theorem qsA (k:Nat) (v:AVal) (h2:Heap):qnd k (.val v) h2=qdb k (qaZ v++(h2.take k).flatMap qnZ) []:=rfl
theorem qqd (l nl:List Nat) (n j:Nat):qcr l nl n j=if j<l.length then l[j]? else (qav j nl 0).map (n+·):=rfl
theorem qqY (args:List AVal) (h:Heap):qbx args h=grow h (grow h (grow h (qdb 0 (args.flatMap qaZ) []))):=rfl
theorem qwm (h:Heap) (l:List Nat):grow h l=qdb 0 (l.flatMap fun i=>qnZ ((h[i]?).getD .gone)) l:=rfl
theorem qq5 (l:List Nat) (h:Heap):qcw l h=l.map fun i=>qeo (fun i=>qav i l 0) ((h[i]?).getD .gone):=rfl
def pb (l nl:List Nat) (n:Nat) (h2:Heap):Heap→Nat→Heap
 | [],_=>[]
 | o::os,i=>(match qav i l 0 with | some j=>qeo (qcr l nl n) ((h2[j]?).getD .gone) | none=>o)::pb l nl n h2 os (i+1)
theorem qyJ (l nl:List Nat) (n:Nat) (h2:Heap) (i:Nat):pb l nl n h2 [] i=[]:=rfl
theorem ql2 (l nl:List Nat) (n:Nat) (h2:Heap) (o:AObj) (os:Heap) (i:Nat):pb l nl n h2 (o::os) i=(match qav i l 0 with | some j=>qeo (qcr l nl n) ((h2[j]?).getD .gone) | none=>o)::pb l nl n h2 os (i+1):=rfl
theorem qnj (l nl:List Nat) (n:Nat) (h2:Heap):∀ (h:Heap) (k:Nat),(pb l nl n h2 h k).length=h.length
 | [],k=>rfl
 | o::os,k=>by rw[ql2,List.length_cons,List.length_cons,qnj l nl n h2 os]
theorem qvJ (l nl:List Nat) (n:Nat) (h2:Heap):∀ (h:Heap) (k i:Nat) (o:AObj),h[i]? = some o→(pb l nl n h2 h k)[i]? = some (match qav (k+i) l 0 with | some j=>qeo (qcr l nl n) ((h2[j]?).getD .gone) | none=>o)
 | [],k,i,o,e=>by simp at e
 | x :: os,k,0,o,e => by
   simp at e
   subst e
   rw[ql2,List.getElem?_cons_zero,Nat.add_zero]
 | x :: os,k,i + 1,o,e => by
   rw[ql2,List.getElem?_cons_succ,qvJ l nl n h2 os (k+1) i o (by simpa using e)]
   rw[show k+1+i=k+(i+1) by omega]
theorem qqR (l nl:List Nat) (h h2:Heap):qeJ l nl h h2=pb l nl h.length h2 h 0++nl.map fun j=>qeo (qcr l nl h.length) ((h2[j]?).getD .gone):=by
 unfold qeJ
 congr 1
 refine List.ext_getElem? fun i=>?_
 by_cases hi:i<h.length
 ·rw[qvJ l nl _ h2 h 0 i h[i] (List.getElem?_eq_getElem hi),Nat.zero_add]
  rw[List.getElem?_map,List.getElem?_range hi]
  simp only[Option.map_some,List.getElem?_eq_getElem hi,Option.getD_some]
  cases qav i l 0<;>rfl
 ·rw[List.getElem?_eq_none (by simp;omega),List.getElem?_eq_none (by rw[qnj];omega)]
theorem qod (l nl:List Nat) (n:Nat) (v:AVal):qoc l nl n (.val v)=.val (ren (qcr l nl n) v):=rfl
theorem qp4 (cs:List AVal):acells (.agg cs)=cs:=rfl
theorem qp5 (k:IntKind) (n:Int):acells (.int k n)=[.int k n]:=rfl
theorem qn5 (xs:List AVal) (o:Option (Option Nat)):acells (.list xs o)=[.list xs o]:=rfl
theorem qp7 (a:Option (Nat × Nat)):acells (.ptr a)=[.ptr a]:=rfl
theorem qn6 (cs:List AVal) (n:Nat):acells (.vptr cs n)=[.vptr cs n]:=rfl
theorem qp6 (a:Option Nat):acells (.map a)=[.map a]:=rfl
theorem qn4 (f:Nat) (a b:List AVal):acells (.func f a b)=[.func f a b]:=rfl
theorem qsz:qfi=1073741824:=rfl
theorem qmC (l:List Step) (tm:Tmps) (hs:List Heap) (c:Nat × Nat × Nat) (cs:List (Nat × Nat × Nat)):qe7 l tm hs (c::cs)=(qmB l tm hs c.1 c.2.1 c.2.2∧qe7 l tm hs cs):=rfl
theorem qon (l:List Step) (tm:Tmps) (hs:List Heap):qe7 l tm hs []=True:=rfl
theorem qrC (l:List Step) (tm:Tmps) (hs:List Heap) (i lo hi:Nat):qmB l tm hs i lo hi=match l[i]? with
 | some ⟨some d,g,o⟩=>qaf g tm=some true→∀ h∈(hs.drop lo).take (hi+1-lo),aOp (fun _=>false) qee o tm h=some (.val (tm d),h)
 | _=>True:=rfl
theorem qzb:(true==false)=false:=rfl
theorem qza:(false==true)=false:=rfl
theorem qvr (cs:List AVal):wipe (.agg cs)=.agg (cs.map wipeCell):=rfl
theorem qtD (xs:List AVal) (o:Option (Option Nat)):wipe (.list xs o)=.list xs none:=rfl
theorem qtB (b:Bool):wipe (.bool b)=.bool b:=rfl
theorem qvs (k:IntKind) (n:Int):wipe (.int k n)=.int k n:=rfl
theorem qo2 (cs:List AVal):wipeR (.tuple cs)=.tuple (cs.map wipe):=rfl
theorem qtz (cs:List AVal):wipeR (.agg cs)=.agg (cs.map wipeCell):=rfl
theorem qhS (xs:List AVal) (o:Option (Option Nat)):wipeR (.list xs o)=.list xs none:=rfl
theorem qra (b:Bool):wipeR (.bool b)=.bool b:=rfl
theorem qtA (k:IntKind) (n:Int):wipeR (.int k n)=.int k n:=rfl
theorem qvu (a:Option (Nat × Nat)):wipe (.ptr a)=.ptr a:=rfl
theorem qfv (cs:List AVal) (n:Nat):wipe (.vptr cs n)=.vptr cs n:=rfl
theorem qvt (a:Option Nat):wipe (.map a)=.map a:=rfl
theorem qtC (f:Nat) (a b:List AVal):wipe (.func f a b)=.func f a b:=rfl
theorem qq9 (xs:List AVal) (o:Option (Option Nat)):wipeCell (.list xs o)=.list xs none:=rfl
theorem qty (k:IntKind) (n:Int):wipeCell (.int k n)=.int k n:=rfl
theorem qaT (xs:List AVal):qaA (.list xs none)=qay xs:=by simp[qaA]
theorem qio (xs:List AVal):qaA (.list xs (some none))=qay xs:=by simp[qaA]
theorem qip (xs:List AVal) (i:Nat):qaA (.list xs (some (some i)))=false:=by simp[qaA]
theorem qoy (b:Bool):qaA (.bool b)=true:=rfl
theorem qkU (k:IntKind) (n:Int):qaA (.int k n)=true:=rfl
theorem qqz (cs:List AVal):qaA (.agg cs)=qay cs:=rfl
theorem qia (cs:List AVal):qaA (.tuple cs)=qay cs:=rfl
theorem qoz (f:Nat) (a b:List AVal):qaA (.func f a b)=(qay a && qay b):=rfl
theorem qoB (cs:List AVal) (n:Nat):qaA (.vptr cs n)=qay cs:=rfl
theorem qqB (a:Nat × Nat):qaA (.ptr (some a))=false:=rfl
theorem qqA (a:Nat):qaA (.map (some a))=false:=rfl
theorem qoA:qaA .junk=true:=rfl
theorem qjz:qay []=true:=rfl
theorem qh8 (v:AVal) (vs:List AVal):qay (v::vs)=(qaA v && qay vs):=rfl
theorem qgg (a b:List AVal):qay (a++b)=(qay a && qay b):=by
 induction a with
 | nil=>rfl
 | cons x xs ih=>rw[List.cons_append,qay,qay,ih,Bool.and_assoc]
theorem qdF {α:Type} (f:α→AVal) (h:∀ a,qaA (f a)=true) (l:List α):qay (l.map f)=true:=by
 induction l with
 | nil=>rfl
 | cons x xs ih=>rw[List.map_cons,qay,h,ih];rfl
theorem all_map {α:Type} (f:α→AVal) (n:Nat) (h:∀ a,(acells (f a)).length=n) (l:List α):((l.map f).all fun v=>decide ((acells v).length=n))=true:=by
 rw[List.all_eq_true]
 intro x hx
 obtain⟨a,_,rfl⟩:=List.mem_map.1 hx
 simp[h a]
theorem qqP (n:Nat) (acc:List Nat):qdb n [] acc=acc:=rfl
theorem qoF (n i:Nat) (is acc:List Nat):qdb n (i::is) acc=qdb n is (if n≤i∧i∉acc then acc++[i] else acc):=rfl
theorem qux (n:Nat) (l:List Nat) (i:Nat):qd8 n l i=if i<n then some i else qav i l n:=rfl
noncomputable def qa4 (pure:Nat→Bool) (call:CallT) (b:Nat) (keep fk:List Nat) (body:ACode) (s:St):Option (AExit × St) :=
 match qaR pure call body s with
 | some (.normal,s')=>some (.normal,gc b keep s')
 | some (e,s')=>some (gcE b fk (e,s'))
 | none=>none
theorem qtb (pure:Nat→Bool) (call:CallT) (b:Nat) (keep fk:List Nat) (body:ACode) (s:St):qa4 pure call b keep fk body s=match qaR pure call body s with
 | some (.normal,s')=>some (.normal,gc b keep s')
 | some (e,s')=>some (gcE b fk (e,s'))
 | none=>none:=rfl
noncomputable def qa5 (pure:Nat→Bool) (call:CallT) (b:Nat) (keep fk:List Nat) (id:Nat) (body:ACode) (s:St):Option (AExit × St) :=
 (match (match qaR pure call body s with
   | some (.normal,s')=>qjE (fun s1=>qaR pure call body (gc b keep s1)) s'
   | r=>r) with
  | some (.exit id',s')=>if id'=id then some (AExit.normal,s') else some (AExit.exit id',s')
  | r=>r).map (gcE b fk)
theorem qqp (pure:Nat→Bool) (call:CallT) (keep fk:List Nat) (id:Nat) (body:ACode) (tm:Tmps) (h:Heap) :
  qaR pure call (.frame fk (.block id (.gloop keep body))) ⟨tm,h⟩=qa5 pure call h.length keep fk id body (gc h.length keep ⟨tm,h⟩):=by
 unfold qa5
 simp only[qaR]
 rw[qpP]
 rfl
section
variable {pure:Nat→Bool} {call:CallT} {b:Nat} {keep fk:List Nat} {id:Nat} {body:ACode}
theorem qcW {s s1:St} (h:qa4 pure call b keep fk body s=some (.normal,s1)):qa5 pure call b keep fk id body s=qa5 pure call b keep fk id body s1:=by
 unfold qa4 at h
 unfold qa5
 cases hx:qaR pure call body s with
 | none=>rw[hx] at h;cases h
 | some x =>
   obtain⟨e,s'⟩:=x
   rw[hx] at h
   cases e with
   | normal =>
     simp only[Option.some.injEq,Prod.mk.injEq,true_and] at h
     dsimp only
     rw[qpP,h]
     rfl
   | panic v=>simp[gcE] at h
   | exit i=>simp[gcE] at h
   | ret=>simp[gcE] at h
theorem qcg {s s1:St} (h:qa4 pure call b keep fk body s=some (.exit id,s1)):qa5 pure call b keep fk id body s=some (.normal,s1):=by
 unfold qa4 at h
 unfold qa5
 cases hx:qaR pure call body s with
 | none=>rw[hx] at h;cases h
 | some x =>
   obtain⟨e,s'⟩:=x
   rw[hx] at h
   cases e with
   | normal=>simp at h
   | panic v=>simp[gcE] at h
   | exit i =>
     simp only[gcE,Option.some.injEq,Prod.mk.injEq,AExit.exit.injEq] at h
     obtain⟨rfl,rfl⟩:=h
     simp[gcE]
   | ret=>simp[gcE] at h
theorem qjG {s s1:St} (h:qa4 pure call b keep fk body s=some (.ret,s1)):qa5 pure call b keep fk id body s=some (.ret,s1):=by
 unfold qa4 at h
 unfold qa5
 cases hx:qaR pure call body s with
 | none=>rw[hx] at h;cases h
 | some x =>
   obtain⟨e,s'⟩:=x
   rw[hx] at h
   cases e with
   | normal=>simp at h
   | panic v=>simp[gcE] at h
   | exit i=>simp[gcE] at h
   | ret =>
     simp only[gcE,Option.some.injEq,Prod.mk.injEq,true_and] at h
     subst h
     rfl
def qbH:List Int→Int
 | []=>0
 | e::es=>if e=0 then qbH es else e
def qaK {α β:Type} (g:Nat→α→Option β):List α→Nat→Option β
 | [],_=>none
 | x::xs,i=>match g i x with | some r=>some r | none=>qaK g xs (i+1)
theorem qjF (C:Nat→St) (n:Nat) {T:St} (hstep:∀ i,i<n→qa4 pure call b keep fk body (C i)=some (.normal,C (i+1)))
  (hend:qa4 pure call b keep fk body (C n)=some (.exit id,T)):qa5 pure call b keep fk id body (C 0)=some (.normal,T):=by
 have key:∀ k i,i+k=n→qa5 pure call b keep fk id body (C i)=some (.normal,T):=by
  intro k
  induction k with
  | zero=>intro i hi;rw[Nat.add_zero] at hi;subst hi;exact qcg hend
  | succ k ih=>intro i hi;rw[qcW (hstep i (by omega))];exact ih (i+1) (by omega)
 exact key n 0 (by omega)
def qbu {β:Type} (R:β→St) (T:St):Option β→AExit × St
 | some r=>(.ret,R r)
 | none=>(.normal,T)
theorem qfh (C:Nat→St) (n:Nat) (Q:Nat→Option (AExit × St)) {T:St}
  (hstep:∀ i,i<n→(qa4 pure call b keep fk body (C i)=some (.normal,C (i+1))∧Q i=Q (i+1))∨∃ s',qa4 pure call b keep fk body (C i)=some (.ret,s')∧Q i=some (.ret,s'))
  (hend:qa4 pure call b keep fk body (C n)=some (.exit id,T)) (hQ:Q n=some (.normal,T)):qa5 pure call b keep fk id body (C 0)=Q 0:=by
 have key:∀ k i,i+k=n→qa5 pure call b keep fk id body (C i)=Q i:=by
  intro k
  induction k with
  | zero=>intro i hi;rw[Nat.add_zero] at hi;subst hi;rw[qcg hend,hQ]
  | succ k ih =>
    intro i hi
    rcases hstep i (by omega) with ⟨h1,h2⟩ | ⟨s',h1,h2⟩
    ·rw[qcW h1,h2];exact ih (i+1) (by omega)
    ·rw[qjG h1,h2]
 exact key n 0 (by omega)
theorem qsx {α:Type} (xs:List α) (g:α→Int) (C:Nat→St) (T:St) (R:Int→St)
  (h0:∀ (i:Nat) (hi:i<xs.length),g xs[i]=0→qa4 pure call b keep fk body (C i)=some (.normal,C (i+1)))
  (h1:∀ (i:Nat) (hi:i<xs.length),g xs[i]≠0→qa4 pure call b keep fk body (C i)=some (.ret,R (g xs[i])))
  (hend:qa4 pure call b keep fk body (C xs.length)=some (.exit id,T)) :
  qa5 pure call b keep fk id body (C 0)=some (if qbH (xs.map g)=0 then (.normal,T) else (.ret,R (qbH (xs.map g)))):=by
 refine qfh C xs.length (fun i=>some (if qbH ((xs.drop i).map g)=0 then (.normal,T) else (.ret,R (qbH ((xs.drop i).map g))))) ?_ hend (by simp[qbH])
 intro i hi
 have hdrop:xs.drop i=xs[i]::xs.drop (i+1):=List.drop_eq_getElem_cons hi
 rw[hdrop]
 simp only[List.map_cons,qbH]
 by_cases he:g xs[i]=0
 ·left
  rw[if_pos he]
  exact⟨h0 i hi he,rfl⟩
 ·right
  rw[if_neg he,if_neg he]
  exact⟨_,h1 i hi he,rfl⟩
theorem qfg {α:Type} (xs:List α) (p:α→Bool) (C:Nat→St) (T R:St)
  (h0:∀ (i:Nat) (hi:i<xs.length),p xs[i]=false→qa4 pure call b keep fk body (C i)=some (.normal,C (i+1)))
  (h1:∀ (i:Nat) (hi:i<xs.length),p xs[i]=true→qa4 pure call b keep fk body (C i)=some (.ret,R))
  (hend:qa4 pure call b keep fk body (C xs.length)=some (.exit id,T)) :
  qa5 pure call b keep fk id body (C 0)=some (if xs.any p=true then (.ret,R) else (.normal,T)):=by
 refine qfh C xs.length (fun i=>some (if (xs.drop i).any p=true then (.ret,R) else (.normal,T))) ?_ hend (by simp)
 intro i hi
 have hdrop:xs.drop i=xs[i]::xs.drop (i+1):=List.drop_eq_getElem_cons hi
 rw[hdrop]
 simp only[List.any_cons]
 by_cases he:p xs[i]=true
 ·right
  simp only[he,Bool.true_or,if_true]
  exact⟨_,h1 i hi he,rfl⟩
 ·left
  have he':p xs[i]=false:=by simpa using he
  simp only[he',Bool.false_or,and_true]
  exact h0 i hi he'
theorem qch {α β:Type} (xs:List α) (g:Nat→α→Option β) (C:Nat→St) (T:St) (R:β→St)
  (h0:∀ (i:Nat) (hi:i<xs.length),g i xs[i]=none→qa4 pure call b keep fk body (C i)=some (.normal,C (i+1)))
  (h1:∀ (i:Nat) (hi:i<xs.length) (r:β),g i xs[i]=some r→qa4 pure call b keep fk body (C i)=some (.ret,R r))
  (hend:qa4 pure call b keep fk body (C xs.length)=some (.exit id,T)) :
  qa5 pure call b keep fk id body (C 0)=some (qbu R T (qaK g xs 0)):=by
 refine qfh C xs.length (fun i=>some (qbu R T (qaK g (xs.drop i) i))) ?_ hend (by simp[qaK,qbu])
 intro i hi
 have hdrop:xs.drop i=xs[i]::xs.drop (i+1):=List.drop_eq_getElem_cons hi
 rw[hdrop]
 simp only[qaK]
 cases he:g i xs[i] with
 | none =>
   left
   simp only[and_true]
   exact h0 i hi he
 | some r =>
   right
   exact⟨_,h1 i hi r he,rfl⟩
end
theorem qbW {n:Int} (h1 : -2 ^ 63≤n) (h2:n<2 ^ 63):IntKind.i64.wrap n=n:=by
 have h:IntKind.i64.wrap n=(if (true && decide (n % 2 ^ 64≥2 ^ (64-1)))=true then n % 2 ^ 64-2 ^ 64 else n % 2 ^ 64):=rfl
 rw[h]
 by_cases hc:n % 2 ^ 64≥2 ^ (64-1)
 ·rw[if_pos (by simp only[Bool.true_and,decide_eq_true_eq];exact hc)]
  omega
 ·rw[if_neg (by simp only[Bool.true_and,decide_eq_true_eq];exact hc)]
  omega
set_option linter.defProp false in
def ev_:=And.intro @qrJ <| And.intro @qt3 <| And.intro @qrI <| And.intro @qu1 <| And.intro @qsL <| And.intro @quZ <| And.intro @qsF <| And.intro @qrG <| And.intro @qt5 <| And.intro @qrF <| And.intro @qqo <| And.intro @qrH <| And.intro @qt4 <| And.intro @qu2 <| And.intro @qqQ <| And.intro @qxO <| And.intro @qyW <| And.intro @qvp <| And.intro @qse <| And.intro @qso <| And.intro @qp4 <| And.intro @qp5 <| And.intro @qn5 <| And.intro @qp7 <| And.intro @qn6 <| And.intro @qp6 <| And.intro @qn4 <| And.intro @qqp <| And.intro @qzk <| And.intro @qqC <| And.intro @qoC <| And.intro @quw <| And.intro @qqP <| And.intro @qoF <| And.intro @qux <| And.intro @qs5 <| And.intro @qva <| And.intro @qs7 <| And.intro @qs6 <| And.intro @qsb <| And.intro @quA <| And.intro @qsd <| And.intro @qsc <| And.intro @qv8 <| And.intro @qu0 <| And.intro @qsK <| And.intro @qvr <| And.intro @qtD <| And.intro @qtB <| And.intro @qvs <| And.intro @qo2 <| And.intro @qtz <| And.intro @qhS <| And.intro @qra <| And.intro @qtA <| And.intro @qvu <| And.intro @qfv <| And.intro @qvt <| And.intro @qtC <| And.intro @qq9 <| And.intro @qty <| And.intro @qaT <| And.intro @qio <| And.intro @qip <| And.intro @qoy <| And.intro @qkU <| And.intro @qqz <| And.intro @qia <| And.intro @qoz <| And.intro @qoB <| And.intro @qqB <| And.intro @qqA <| And.intro @qoA <| And.intro @qjz <| And.intro @qh8 <| And.intro @qgg <| And.intro @qzb <| And.intro @qza <| And.intro @beq_self_eq_true.{0} <| And.intro @Option.map_some.{0,0} <| And.intro @Option.map_none.{0,0} <| And.intro @Option.getD_some.{0} <| And.intro @Option.getD_none.{0} <| And.intro @List.map_cons.{0,0} <| And.intro @List.map_nil.{0,0} <| And.intro @List.flatMap_cons.{0,0} <| And.intro @List.flatMap_nil.{0,0} <| And.intro @List.length_cons.{0} <| And.intro @List.length_nil.{0} <| And.intro @List.length_append.{0} <| And.intro @List.length_map.{0,0} <| And.intro @List.cons_append.{0} <| And.intro @List.nil_append.{0} <| And.intro @List.append_nil.{0} <| And.intro @List.append_assoc.{0} <| And.intro @List.getElem?_nil.{0} <| And.intro @List.getElem?_cons_zero.{0} <| And.intro @List.getElem?_cons_succ.{0} <| And.intro @List.set_cons_zero.{0} <| And.intro @List.set_cons_succ.{0} <| And.intro @List.take_succ_cons.{0} <| And.intro @List.take_zero.{0} <| And.intro @List.drop_succ_cons.{0} <| And.intro @List.drop_zero.{0} <| And.intro @List.take_nil.{0} <| And.intro @List.drop_nil.{0} <| And.intro @List.all_cons.{0} <| And.intro @List.all_nil.{0} <| And.intro @List.mem_cons.{0} <| And.intro @List.not_mem_nil.{0} <| And.intro @Bool.and_true <| And.intro @Bool.true_and <| And.intro @Bool.and_false <| And.intro @Bool.false_and <| And.intro @Bool.or_true <| And.intro @Bool.true_or <| And.intro @Bool.or_false <| And.intro @Bool.false_or <| And.intro @Bool.not_true <| And.intro @Bool.not_false <| And.intro @Bool.false_eq_true <| And.intro @Bool.true_eq_false <| And.intro @and_true <| And.intro @true_and <| And.intro @and_false <| And.intro @false_and <| And.intro @or_true <| And.intro @or_false <| And.intro @not_true_eq_false <| And.intro @not_false_eq_true <| And.intro @decide_true <| And.intro @decide_false <| And.intro @and_self <| And.intro @Nat.le_refl <| And.intro @Nat.zero_le <| And.intro @Nat.add_zero <| And.intro @Nat.zero_add <| And.intro @Int.toNat_natCast <| And.intro @Int.natCast_nonneg <| And.intro @List.cons_ne_nil.{0} <| And.intro @qtb <| And.intro @qsz <| And.intro @qmC <| And.intro @qon <| And.intro @qrC <| And.intro @qrS <| And.intro @List.map_append.{0,0} <| And.intro @qyB <| And.intro @Int.cast_ofNat_Int <| And.intro @qop <| And.intro @qrK <| And.intro @qqx <| And.intro @quu <| And.intro @qwj <| And.intro @Option.isSome_some.{0} <| And.intro @Option.isSome_none.{0} <| And.intro @qkl <| And.intro @qu8 <| And.intro @qqY <| And.intro @qwm <| And.intro @qq5 <| And.intro @qsA <| And.intro @qqd <| And.intro @qqR <| And.intro @qyJ <| And.intro @ql2 <| @qod
end Go.Abs
