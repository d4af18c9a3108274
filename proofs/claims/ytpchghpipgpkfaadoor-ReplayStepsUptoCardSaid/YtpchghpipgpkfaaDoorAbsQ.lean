/-
  Evaluating the abstract machine: the laws by which a simp set steps through code. Conditions: none.
-/
import Derived.Test.YtpchghpipgpkfaaDoorAbsB
set_option linter.unusedVariables false
namespace Go.Abs
theorem qy8 (tm:Tmps) (d t:Nat) (v:AVal):upd tm (some d) v t=if t=d then v else tm t:=rfl
theorem qvD (tm:Tmps) (v:AVal):upd tm none v=tm:=rfl
theorem qsn (args:List AVal) (i:Nat):qdQ args i=(args[i]?).getD (.tuple []):=rfl
theorem qx1 (pure:Nat→Bool) (call:CallT) (s:St):qb2 pure call [] s=some (.normal,s):=rfl
theorem qvg (pure:Nat→Bool) (call:CallT) (d:Option Nat) (o:AOp) (r:List Step) (tm:Tmps) (h:Heap) :
  qb2 pure call (⟨d,none,o⟩::r) ⟨tm,h⟩=match aOp pure call o tm h with | some (.val v,h')=>qb2 pure call r ⟨upd tm d v,h'⟩ | some (.panic v,h')=>some (.panic v,⟨tm,h'⟩) | none=>none:=rfl
theorem qqW (pure:Nat→Bool) (call:CallT) (d:Option Nat) (g:Option Nat × Bool) (o:AOp) (r:List Step) (tm:Tmps) (h:Heap) :
  qb2 pure call (⟨d,some g,o⟩::r) ⟨tm,h⟩=match qaf (some g) tm with
   | some true=>(match aOp pure call o tm h with | some (.val v,h')=>qb2 pure call r ⟨upd tm d v,h'⟩ | some (.panic v,h')=>some (.panic v,⟨tm,h'⟩) | none=>none)
   | some false=>qb2 pure call r ⟨upd tm d (.tuple []),h⟩
   | none=>none:=rfl
theorem qvf (pure:Nat→Bool) (call:CallT) (s:St):qdY pure call [] s=some (.normal,s):=rfl
theorem qsW (pure:Nat→Bool) (call:CallT) (d:Option Nat) (o:AOp) (r:List Step) (tm:Tmps) (h:Heap) :
  qdY pure call (⟨d,none,o⟩::r) ⟨tm,h⟩=match qiH pure call o tm h with | some (.val v,h')=>qdY pure call r ⟨upd tm d v,h'⟩ | some (.panic v,h')=>some (.panic v,⟨tm,h'⟩) | none=>none:=rfl
theorem qvd (pure:Nat→Bool) (call:CallT) (x:Opd) (tm:Tmps) (h:Heap):qiH pure call (.move x) tm h=some (.val (opd tm x),h):=rfl
theorem qsQ (pure:Nat→Bool) (call:CallT) (n:Nat) (a:Opd) (tm:Tmps) (h:Heap):qiH pure call (.field n a) tm h=aOp pure call (.field n a) tm h:=rfl
def qmL (l:List Step) (tm:Tmps) (hs:List Heap) (i lo hi:Nat):Prop :=
 match l[i]? with
 | some ⟨some d,g,o⟩=>qaf g tm=some true→∀ h∈(hs.drop lo).take (hi+1-lo),aOp (fun _=>false) qeo o tm h=some (.val (tm d),h)
 | _=>True
def qfg (l:List Step) (tm:Tmps) (hs:List Heap):List (Nat × Nat × Nat)→Prop
 | []=>True
 | c::cs=>qmL l tm hs c.1 c.2.1 c.2.2∧qfg l tm hs cs
theorem qrL {l:List Step} {tm:Tmps} {hs:List Heap} {c:Nat × Nat × Nat} (h:qmL l tm hs c.1 c.2.1 c.2.2):qjn l tm hs c:=by
 intro s d h1 h2 h3 k hp hk1 hk2 hk
 unfold qmL at h
 obtain⟨d',g,o⟩:=s
 dsimp only at h2
 subst h2
 rw[h1] at h
 refine h h3 hp ?_
 refine List.mem_of_getElem? (i:=k-c.2.1) ?_
 rw[List.getElem?_take,if_pos (by omega),List.getElem?_drop,show c.2.1+(k-c.2.1)=k by omega]
 exact hk
theorem qkU {l:List Step} {tm:Tmps} {hs:List Heap}:∀ {cs:List (Nat × Nat × Nat)},qfg l tm hs cs→∀ c∈cs,qjn l tm hs c
 | [],_=>by simp
 | c :: cs,h => by
   intro c' hc
   rcases List.mem_cons.1 hc with rfl | hc
   ·exact qrL h.1
   ·exact qkU h.2 c' hc
theorem qwn {pure:Nat→Bool} {call:CallT} {l:List Step} {cs:List (Nat × Nat × Nat)} {s:St} {tm:Tmps} {hs:List Heap} {h:Heap}
  (hr:qcW pure call l s.tm [] s.h=some (tm,hs,h)) (hc:qfg l tm hs cs):qgx pure call l cs s=some (.normal,⟨tm,h⟩):=by
 unfold qgx
 rw[hr]
 exact if_pos (qkU hc)
noncomputable def qo6 (pure:Nat→Bool) (call:CallT) (l:List Step) (cs:List (Nat × Nat × Nat)) (s:St):Option (AExit × St):=qgx pure call l cs s
open Classical in
noncomputable def qr0 (pure:Nat→Bool) (call:CallT) (l:List Step) (cs:List (Nat × Nat × Nat)) (s:St) (r:Option (Tmps × List Heap × Heap)):Option (AExit × St) :=
 match r with
 | some (tm,hs,h)=>if qfg l tm hs cs then some (.normal,⟨tm,h⟩) else qo6 pure call l cs s
 | none=>qo6 pure call l cs s
theorem qwm (pure:Nat→Bool) (call:CallT) (l:List Step) (cs:List (Nat × Nat × Nat)) (s:St):qgx pure call l cs s=qr0 pure call l cs s (qcW pure call l s.tm [] s.h):=by
 unfold qr0
 split
 ·rename_i tm hs h hr
  split
  ·rename_i hc
   exact qwn hr hc
  ·rfl
 ·rfl
open Classical in
theorem qr1 (pure:Nat→Bool) (call:CallT) (l:List Step) (cs:List (Nat × Nat × Nat)) (s:St) (tm:Tmps) (hs:List Heap) (h:Heap) :
  qr0 pure call l cs s (some (tm,hs,h))=if qfg l tm hs cs then some (.normal,⟨tm,h⟩) else qo6 pure call l cs s:=rfl
theorem qve (pure:Nat→Bool) (call:CallT) (tm:Tmps) (hs:List Heap) (h:Heap):qcW pure call [] tm hs h=some (tm,hs++[h],h):=rfl
theorem qsV (pure:Nat→Bool) (call:CallT) (d:Option Nat) (g:Option (Option Nat × Bool)) (o:AOp) (r:List Step) (tm:Tmps) (hs:List Heap) (h:Heap) :
  qcW pure call (⟨d,g,o⟩::r) tm hs h=match qaf g tm with
   | some true=>(match aOp pure call o tm h with | some (.val v,h')=>qcW pure call r (upd tm d v) (if qaA o=true then hs++[h] else hs) h' | _=>none)
   | some false=>qcW pure call r (upd tm d (.tuple [])) (if qaA o=true then hs++[h] else hs) h
   | none=>none:=rfl
theorem qpx {h:Heap} {v:AVal} (hv:qaC (wipeR v)=true):qe6 h v=wipeR v:=if_pos hv
noncomputable def pcall (L:Lib) (f:Nat) (args:List AVal) (h:Heap):Option (ARes × Heap) :=
 match call L f args [] with
 | some (.val v,h2)=>if qaC (qe6 h2 v)=true then some (.val (qe6 h2 v),h) else none
 | some (.panic v,h2)=>if qaC (qe6 h2 v)=true then some (.panic (qe6 h2 v),h) else none
 | none=>none
theorem qal (L:Lib) (hp:∀ f,L.pure f=true) (f:Nat) (args:List AVal) (h:Heap) :
  qcE L.pure (call L) f args h=if qaw (args.map wipe)=true then pcall L f (args.map wipe) h else qkG (call L) f args h:=by
 unfold qcE pcall
 by_cases hd:qaw (args.map wipe)=true
 ·rw[if_pos ⟨hp f,hd⟩,if_pos hd]
  cases call L f (args.map wipe) [] with
  | none=>rfl
  | some x=>obtain⟨v,h'⟩:=x;cases v<;>rfl
 ·rw[if_neg (fun hx=>hd hx.2),if_neg hd]
theorem qvi {L:Lib} {f:Nat} {fn:AFn} {args:List AVal} {v:AVal} (h':Heap) (hs:L.summ f=none) (hf:L.fns f=some fn)
  (hr:qao fn.results (qaW L.pure (call L) fn.body ⟨qdQ args,[]⟩)=some (.val v,h')) (hv:qaC (wipeR v)=true) (h:Heap):pcall L f args h=some (.val (wipeR v),h):=by
 unfold pcall
 rw[qaD hs hf hr]
 dsimp only
 rw[qpx hv,if_pos hv]
theorem qcl {L:Lib} {f:Nat} {args:List AVal} {v u:AVal} {h':Heap} (hr:call L f args []=some (.val v,h')) (hu:qe6 h' v=u) (hd:qaC u=true) (h:Heap):pcall L f args h=some (.val u,h):=by
 unfold pcall
 rw[hr]
 dsimp only
 rw[hu,if_pos hd]
theorem qj4 {h:Heap} {v u:AVal} (hp:qfp u=true) (hd:qe6 h v=u):v=u:=by
 unfold qe6 at hd
 split at hd
 ·cases v<;>simp only[wipeR,wipe,wipeCell] at hd<;>subst hd<;>first | rfl | (simp[qfp] at hp)
 ·rename_i hn
  exfalso
  unfold viewV at hd
  rw[qa2] at hd
  split at hd
  ·rename_i hdd
   exact hn (by cases v<;>simp only[wipeR,wipe,wipeCell] at hd ⊢ <;> first | (subst hd;first | rfl | (simp[qfp] at hp;done)) | (exfalso;revert hp;rw[← hd];simp[qfp]))
  ·unfold qdf at hd
   cases v<;>(try dsimp only at hd)<;>(repeat' (first | (simp only[wipeR,wipe,wipeCell] at hd;subst hd;simp[qfp] at hp;done) | split at hd))
theorem qe1 {L:Lib} {f:Nat} {args args':List AVal} {h:Heap} {u:AVal} (ha:args.map (lookV h)=args') (hd:qaw args'=true) (hp:qfp u=true) (hc:pcall L f args' h=some (.val u,h)):qh5 (call L) f args h=some (.val u,h):=by
 unfold pcall at hc
 unfold qh5
 rw[ha,if_pos hd]
 split at hc
 ·rename_i v h2 he
  rw[he]
  dsimp only
  split at hc
  ·simp only[Option.some.injEq,Prod.mk.injEq,ARes.val.injEq,and_true] at hc
   rw[qj4 hp hc,if_pos hp]
  ·cases hc
 ·split at hc
  ·simp at hc
  ·cases hc
 ·cases hc
def kt:List Nat→List AVal→Tmps
 | k::ks,v::vs,t=>if t=k then v else kt ks vs t
 | _,_,_=>.junk
theorem qsx (k:Nat) (ks:List Nat) (v:AVal) (vs:List AVal) (t:Nat):kt (k::ks) (v::vs) t=if t=k then v else kt ks vs t:=rfl
theorem qyO (ks:List Nat) (t:Nat):kt ks [] t=.junk:=by cases ks<;>rfl
theorem qsy (g:Nat→AVal):∀ (keep:List Nat),kt keep (keep.map g)=fun t=>if t∈keep then g t else .junk
 | []=>by funext t;simp[kt]
 | k :: ks => by
   funext t
   rw[List.map_cons,qsx,qsy g ks]
   by_cases h:t=k<;>simp[h]
theorem qqI:qk6 []=false:=rfl
theorem qoK (k:Nat) (ks:List Nat):qk6 (k::ks)=decide (k=1000000):=rfl
theorem qzw (b:Nat) (keep:List Nat) (tm:Tmps) (h:Heap):gc b keep ⟨tm,h⟩ =
  if qk6 keep=true then ⟨kt (keep.drop 1) ((keep.drop 1).map tm),h⟩
  else if b≤h.length then ⟨kt keep (keep.map fun t=>ren (qei b (qgi b keep ⟨tm,h⟩)) (tm t)),
   (h.take b).map (qex (qei b (qgi b keep ⟨tm,h⟩)))++(qgi b keep ⟨tm,h⟩).map fun id=>qex (qei b (qgi b keep ⟨tm,h⟩)) ((h[id]?).getD .gone)⟩ else ⟨tm,h⟩:=by
 unfold gc gc1 qzI
 rw[qsy,qsy]
theorem quG (b:Nat) (keep:List Nat) (tm:Tmps) (h:Heap):qgi b keep ⟨tm,h⟩=qdk b (keep.flatMap (fun t=>qa1 (tm t))++(h.take b).flatMap qn8) []:=rfl
section
variable (pure:Nat→Bool) (call:CallT)
theorem qrR (s:St):qaW pure call .skip s=some (.normal,s):=rfl
theorem que (l:List Step) (s:St):qaW pure call (.ops l) s=qb2 pure call l s:=rfl
theorem qrQ (l:List Step) (s:St):qaW pure call (.kops l) s=qdY pure call l s:=rfl
theorem qrO (l:List Step) (cs:List (Nat × Nat × Nat)) (s:St):qaW pure call (.draw l cs) s=qgx pure call l cs s:=rfl
theorem qug (a b:ACode) (s:St):qaW pure call (.seq a b) s=match qaW pure call a s with | some (.normal,s')=>qaW pure call b s' | r=>r:=rfl
theorem qrN (c:Opd) (a b:ACode) (s:St):qaW pure call (.cond c a b) s=match opd s.tm c with | .bool t=>if t then qaW pure call a s else qaW pure call b s | _=>none:=rfl
theorem qqu (id:Nat) (c:ACode) (s:St):qaW pure call (.block id c) s=match qaW pure call c s with | some (.exit id',s')=>if id'=id then some (.normal,s') else some (.exit id',s') | r=>r:=rfl
theorem qky (k:List Nat) (a b:ACode) (s:St):qaW pure call (.frame k (.seq a b)) s=(qaW pure call (.seq a b) s).map (gcE s.h.length k):=rfl
theorem qoy (t:Nat) (c:ACode) (s:St):qaW pure call (.freeze t c) s=qaW pure call c (qeM t s):=rfl
theorem qrS (c:ACode) (s:St):qaW pure call (.view c) s=qaW pure call c (qn1 s):=rfl
theorem qrP (id:Nat) (s:St):qaW pure call (.exit id) s=some (.exit id,s):=rfl
theorem quf (s:St):qaW pure call .ret s=some (.ret,s):=rfl
end
def qck (b:Nat):Nat→Option (Option Nat)
 | 0=>some none
 | _+1=>some (some b)
def qbx (sz:Nat):Nat→Heap
 | 0=>[]
 | n+1=>[.tail (n+1) sz]
theorem qc4 (b:Nat):qck b 0=some none:=rfl
theorem qeq (b n:Nat):qck b (n+1)=some (some b):=rfl
theorem qc9 (sz:Nat):qbx sz 0=[]:=rfl
theorem qdX (sz n:Nat):qbx sz (n+1)=[.tail (n+1) sz]:=rfl
theorem qdl {b n:Nat} (h:0<n):qck b n=some (some b):=by cases n with | zero=>omega | succ n=>rfl
theorem qcF {sz n:Nat} (h:0<n):qbx sz n=[.tail n sz]:=by cases n with | zero=>omega | succ n=>rfl
theorem qhx (b sz n:Nat):(qck b n=some none∧qbx sz n=[])∨(qck b n=some (some b)∧qbx sz n=[.tail n sz]):=by
 cases n with
 | zero=>exact .inl ⟨rfl,rfl⟩
 | succ n=>exact .inr ⟨rfl,rfl⟩
def qzN (id sz:Nat) (cs:List AVal) (tm:Tmps):Tmps:=fun i=>frz id sz cs (tm i)
theorem qwx (id sz:Nat) (cs:List AVal) (tm:Tmps) (i:Nat):qzN id sz cs tm i=frz id sz cs (tm i):=rfl
theorem quE (id sz:Nat) (cs:List AVal) (tm:Tmps) (h:Heap):qiC id sz cs ⟨tm,h⟩=if qaw cs=true∧cs.all leaf=true then ⟨qzN id sz cs tm,(h.set id .gone).map (qjJ id sz cs)⟩ else ⟨tm,h⟩:=rfl
theorem qqD (t:Nat) (tm:Tmps) (h:Heap):qeM t ⟨tm,h⟩=match tm t with
 | .ptr (some (id,0))=>(match h[id]? with | some (.box cs)=>qiC id 0 (cs.map wipeCell) ⟨tm,h⟩ | _=>⟨tm,h⟩)
 | .vec id _=>(match h[id]? with | some (.vec cs sz)=>qiC id sz (cs.map wipeCell) ⟨tm,h⟩ | _=>⟨tm,h⟩)
 | _=>⟨tm,h⟩:=rfl
theorem qsk:qn8 .gone=[]:=rfl
theorem quK (cs:List AVal):qn8 (.box cs)=cs.flatMap qa1:=rfl
theorem qsm (n sz:Nat):qn8 (.tail n sz)=[]:=rfl
theorem qsl:qn8 (.map [])=[]:=rfl
theorem qtg (ρ:Nat→Option Nat):qex ρ .gone=.gone:=rfl
theorem qvo (ρ:Nat→Option Nat) (cs:List AVal):qex ρ (.box cs)=.box (cs.map (ren ρ)):=rfl
theorem qti (ρ:Nat→Option Nat) (n sz:Nat):qex ρ (.tail n sz)=.tail n sz:=rfl
theorem qth (ρ:Nat→Option Nat):qex ρ (.map [])=.map []:=rfl
theorem qvm (call:CallT) (f:Nat) (args:List AVal) (h:Heap):qkG call f args h=if (qbz args h).all (fun i=>decide (i<h.length))=true then
  match call f (args.map (ren fun i=>qav i (qbz args h) 0)) (qcA (qbz args h) h) with
  | some (r,h2)=>some (qol (qbz args h) (qnn (qbz args h).length r h2) h.length r,qeR (qbz args h) (qnn (qbz args h).length r h2) h h2)
  | none=>none
 else none:=rfl
theorem qsK (k:Nat) (v:AVal) (h2:Heap):qnn k (.val v) h2=qdk k (qa1 v++(h2.take k).flatMap qn8) []:=rfl
theorem qqj (l nl:List Nat) (n j:Nat):qcv l nl n j=if j<l.length then l[j]? else (qav j nl 0).map (n+·):=rfl
theorem qq5 (args:List AVal) (h:Heap):qbz args h=grow h (grow h (grow h (qdk 0 (args.flatMap qa1) []))):=rfl
theorem qwA (h:Heap) (l:List Nat):grow h l=qdk 0 (l.flatMap fun i=>qn8 ((h[i]?).getD .gone)) l:=rfl
theorem qrd (l:List Nat) (h:Heap):qcA l h=l.map fun i=>qex (fun i=>qav i l 0) ((h[i]?).getD .gone):=rfl
def pb (l nl:List Nat) (n:Nat) (h2:Heap):Heap→Nat→Heap
 | [],_=>[]
 | o::os,i=>(match qav i l 0 with | some j=>qex (qcv l nl n) ((h2[j]?).getD .gone) | none=>o)::pb l nl n h2 os (i+1)
theorem qyV (l nl:List Nat) (n:Nat) (h2:Heap) (i:Nat):pb l nl n h2 [] i=[]:=rfl
theorem qmb (l nl:List Nat) (n:Nat) (h2:Heap) (o:AObj) (os:Heap) (i:Nat):pb l nl n h2 (o::os) i=(match qav i l 0 with | some j=>qex (qcv l nl n) ((h2[j]?).getD .gone) | none=>o)::pb l nl n h2 os (i+1):=rfl
theorem qns (l nl:List Nat) (n:Nat) (h2:Heap):∀ (h:Heap) (k:Nat),(pb l nl n h2 h k).length=h.length
 | [],k=>rfl
 | o::os,k=>by rw[qmb,List.length_cons,List.length_cons,qns l nl n h2 os]
theorem qvX (l nl:List Nat) (n:Nat) (h2:Heap):∀ (h:Heap) (k i:Nat) (o:AObj),h[i]? = some o→(pb l nl n h2 h k)[i]? = some (match qav (k+i) l 0 with | some j=>qex (qcv l nl n) ((h2[j]?).getD .gone) | none=>o)
 | [],k,i,o,e=>by simp at e
 | x :: os,k,0,o,e => by
   simp at e
   subst e
   rw[qmb,List.getElem?_cons_zero,Nat.add_zero]
 | x :: os,k,i + 1,o,e => by
   rw[qmb,List.getElem?_cons_succ,qvX l nl n h2 os (k+1) i o (by simpa using e)]
   rw[show k+1+i=k+(i+1) by omega]
theorem qqX (l nl:List Nat) (h h2:Heap):qeR l nl h h2=pb l nl h.length h2 h 0++nl.map fun j=>qex (qcv l nl h.length) ((h2[j]?).getD .gone):=by
 unfold qeR
 congr 1
 refine List.ext_getElem? fun i=>?_
 by_cases hi:i<h.length
 ·rw[qvX l nl _ h2 h 0 i h[i] (List.getElem?_eq_getElem hi),Nat.zero_add]
  rw[List.getElem?_map,List.getElem?_range hi]
  simp only[Option.map_some,List.getElem?_eq_getElem hi,Option.getD_some]
  cases qav i l 0<;>rfl
 ·rw[List.getElem?_eq_none (by simp;omega),List.getElem?_eq_none (by rw[qns];omega)]
theorem qom (l nl:List Nat) (n:Nat) (v:AVal):qol l nl n (.val v)=.val (ren (qcv l nl n) v):=rfl
theorem qqa (cs:List AVal):acells (.agg cs)=cs:=rfl
theorem qqb (k:IntKind) (n:Int):acells (.int k n)=[.int k n]:=rfl
theorem qoe (xs:List AVal) (o:Option (Option Nat)):acells (.list xs o)=[.list xs o]:=rfl
theorem qqd (a:Option (Nat × Nat)):acells (.ptr a)=[.ptr a]:=rfl
theorem qof (cs:List AVal) (n:Nat):acells (.vptr cs n)=[.vptr cs n]:=rfl
theorem qqc (a:Option Nat):acells (.map a)=[.map a]:=rfl
theorem qod (f:Nat) (a b:List AVal):acells (.func f a b)=[.func f a b]:=rfl
theorem qsI:qfs=1073741824:=rfl
theorem qmM (l:List Step) (tm:Tmps) (hs:List Heap) (c:Nat × Nat × Nat) (cs:List (Nat × Nat × Nat)):qfg l tm hs (c::cs)=(qmL l tm hs c.1 c.2.1 c.2.2∧qfg l tm hs cs):=rfl
theorem qow (l:List Step) (tm:Tmps) (hs:List Heap):qfg l tm hs []=True:=rfl
theorem qrK (l:List Step) (tm:Tmps) (hs:List Heap) (i lo hi:Nat):qmL l tm hs i lo hi=match l[i]? with
 | some ⟨some d,g,o⟩=>qaf g tm=some true→∀ h∈(hs.drop lo).take (hi+1-lo),aOp (fun _=>false) qeo o tm h=some (.val (tm d),h)
 | _=>True:=rfl
theorem qzn:(true==false)=false:=rfl
theorem qzm:(false==true)=false:=rfl
theorem qvF (cs:List AVal):wipe (.agg cs)=.agg (cs.map wipeCell):=rfl
theorem qtO (xs:List AVal) (o:Option (Option Nat)):wipe (.list xs o)=.list xs none:=rfl
theorem qtM (b:Bool):wipe (.bool b)=.bool b:=rfl
theorem qvG (k:IntKind) (n:Int):wipe (.int k n)=.int k n:=rfl
theorem qo9 (cs:List AVal):wipeR (.tuple cs)=.tuple (cs.map wipe):=rfl
theorem qtK (cs:List AVal):wipeR (.agg cs)=.agg (cs.map wipeCell):=rfl
theorem qh6 (xs:List AVal) (o:Option (Option Nat)):wipeR (.list xs o)=.list xs none:=rfl
theorem qri (b:Bool):wipeR (.bool b)=.bool b:=rfl
theorem qtL (k:IntKind) (n:Int):wipeR (.int k n)=.int k n:=rfl
theorem qvI (a:Option (Nat × Nat)):wipe (.ptr a)=.ptr a:=rfl
theorem qfG (cs:List AVal) (n:Nat):wipe (.vptr cs n)=.vptr cs n:=rfl
theorem qvH (a:Option Nat):wipe (.map a)=.map a:=rfl
theorem qtN (f:Nat) (a b:List AVal):wipe (.func f a b)=.func f a b:=rfl
theorem qrh (xs:List AVal) (o:Option (Option Nat)):wipeCell (.list xs o)=.list xs none:=rfl
theorem qtJ (k:IntKind) (n:Int):wipeCell (.int k n)=.int k n:=rfl
theorem qaV (xs:List AVal):qaC (.list xs none)=qaw xs:=by simp[qaC]
theorem qiD (xs:List AVal):qaC (.list xs (some none))=qaw xs:=by simp[qaC]
theorem qiE (xs:List AVal) (i:Nat):qaC (.list xs (some (some i)))=false:=by simp[qaC]
theorem qoG (b:Bool):qaC (.bool b)=true:=rfl
theorem qk5 (k:IntKind) (n:Int):qaC (.int k n)=true:=rfl
theorem qqF (cs:List AVal):qaC (.agg cs)=qaw cs:=rfl
theorem qio (cs:List AVal):qaC (.tuple cs)=qaw cs:=rfl
theorem qoH (f:Nat) (a b:List AVal):qaC (.func f a b)=(qaw a && qaw b):=rfl
theorem qoJ (cs:List AVal) (n:Nat):qaC (.vptr cs n)=qaw cs:=rfl
theorem qqH (a:Nat × Nat):qaC (.ptr (some a))=false:=rfl
theorem qqG (a:Nat):qaC (.map (some a))=false:=rfl
theorem qoI:qaC .junk=true:=rfl
theorem qjO:qaw []=true:=rfl
theorem qim (v:AVal) (vs:List AVal):qaw (v::vs)=(qaC v && qaw vs):=rfl
theorem qgs (a b:List AVal):qaw (a++b)=(qaw a && qaw b):=by
 induction a with
 | nil=>rfl
 | cons x xs ih=>rw[List.cons_append,qaw,qaw,ih,Bool.and_assoc]
theorem qc1 {α:Type} (f:α→AVal) (h:∀ a,qaC (f a)=true) (l:List α):qaw (l.map f)=true:=by
 induction l with
 | nil=>rfl
 | cons x xs ih=>rw[List.map_cons,qaw,h,ih];rfl
theorem all_map {α:Type} (f:α→AVal) (n:Nat) (h:∀ a,(acells (f a)).length=n) (l:List α):((l.map f).all fun v=>decide ((acells v).length=n))=true:=by
 rw[List.all_eq_true]
 intro x hx
 obtain⟨a,_,rfl⟩:=List.mem_map.1 hx
 simp[h a]
theorem qqV (n:Nat) (acc:List Nat):qdk n [] acc=acc:=rfl
theorem qoN (n i:Nat) (is acc:List Nat):qdk n (i::is) acc=qdk n is (if n≤i∧i∉acc then acc++[i] else acc):=rfl
theorem quH (n:Nat) (l:List Nat) (i:Nat):qei n l i=if i<n then some i else qav i l n:=rfl
noncomputable def qa8 (pure:Nat→Bool) (call:CallT) (b:Nat) (keep fk:List Nat) (body:ACode) (s:St):Option (AExit × St) :=
 match qaW pure call body s with
 | some (.normal,s')=>some (.normal,gc b keep s')
 | some (e,s')=>some (gcE b fk (e,s'))
 | none=>none
theorem qtm (pure:Nat→Bool) (call:CallT) (b:Nat) (keep fk:List Nat) (body:ACode) (s:St):qa8 pure call b keep fk body s=match qaW pure call body s with
 | some (.normal,s')=>some (.normal,gc b keep s')
 | some (e,s')=>some (gcE b fk (e,s'))
 | none=>none:=rfl
noncomputable def qa6 (pure:Nat→Bool) (call:CallT) (b:Nat) (keep fk:List Nat) (id:Nat) (body:ACode) (s:St):Option (AExit × St) :=
 (match (match qaW pure call body s with
   | some (.normal,s')=>qjT (fun s1=>qaW pure call body (gc b keep s1)) s'
   | r=>r) with
  | some (.exit id',s')=>if id'=id then some (AExit.normal,s') else some (AExit.exit id',s')
  | r=>r).map (gcE b fk)
theorem qqv (pure:Nat→Bool) (call:CallT) (keep fk:List Nat) (id:Nat) (body:ACode) (tm:Tmps) (h:Heap) :
  qaW pure call (.frame fk (.block id (.gloop keep body))) ⟨tm,h⟩=qa6 pure call h.length keep fk id body (gc h.length keep ⟨tm,h⟩):=by
 unfold qa6
 simp only[qaW]
 rw[qpW]
 rfl
section
variable {pure:Nat→Bool} {call:CallT} {b:Nat} {keep fk:List Nat} {id:Nat} {body:ACode}
theorem qc3 {s s1:St} (h:qa8 pure call b keep fk body s=some (.normal,s1)):qa6 pure call b keep fk id body s=qa6 pure call b keep fk id body s1:=by
 unfold qa8 at h
 unfold qa6
 cases hx:qaW pure call body s with
 | none=>rw[hx] at h;cases h
 | some x =>
   obtain⟨e,s'⟩:=x
   rw[hx] at h
   cases e with
   | normal =>
     simp only[Option.some.injEq,Prod.mk.injEq,true_and] at h
     dsimp only
     rw[qpW,h]
     rfl
   | panic v=>simp[gcE] at h
   | exit i=>simp[gcE] at h
   | ret=>simp[gcE] at h
theorem qch {s s1:St} (h:qa8 pure call b keep fk body s=some (.exit id,s1)):qa6 pure call b keep fk id body s=some (.normal,s1):=by
 unfold qa8 at h
 unfold qa6
 cases hx:qaW pure call body s with
 | none=>rw[hx] at h;cases h
 | some x =>
   obtain⟨e,s'⟩:=x
   rw[hx] at h
   cases e with
   | normal=>simp at h
   | panic v=>simp[gcE] at h
   | exit i =>
     simp only[gcE,Option.some.injEq,Prod.mk.injEq,AExit.exit.injEq] at h
     obtain⟨rfl,rfl⟩:=h
     simp[gcE]
   | ret=>simp[gcE] at h
theorem qjU {s s1:St} (h:qa8 pure call b keep fk body s=some (.ret,s1)):qa6 pure call b keep fk id body s=some (.ret,s1):=by
 unfold qa8 at h
 unfold qa6
 cases hx:qaW pure call body s with
 | none=>rw[hx] at h;cases h
 | some x =>
   obtain⟨e,s'⟩:=x
   rw[hx] at h
   cases e with
   | normal=>simp at h
   | panic v=>simp[gcE] at h
   | exit i=>simp[gcE] at h
   | ret =>
     simp only[gcE,Option.some.injEq,Prod.mk.injEq,true_and] at h
     subst h
     rfl
def qbJ:List Int→Int
 | []=>0
 | e::es=>if e=0 then qbJ es else e
def qaO {α β:Type} (g:Nat→α→Option β):List α→Nat→Option β
 | [],_=>none
 | x::xs,i=>match g i x with | some r=>some r | none=>qaO g xs (i+1)
theorem qgM (C:Nat→St) (n:Nat) {T:St} (hstep:∀ i,i<n→qa8 pure call b keep fk body (C i)=some (.normal,C (i+1)))
  (hend:qa8 pure call b keep fk body (C n)=some (.exit id,T)):qa6 pure call b keep fk id body (C 0)=some (.normal,T):=by
 have key:∀ k i,i+k=n→qa6 pure call b keep fk id body (C i)=some (.normal,T):=by
  intro k
  induction k with
  | zero=>intro i hi;rw[Nat.add_zero] at hi;subst hi;exact qch hend
  | succ k ih=>intro i hi;rw[qc3 (hstep i (by omega))];exact ih (i+1) (by omega)
 exact key n 0 (by omega)
def qbv {β:Type} (R:β→St) (T:St):Option β→AExit × St
 | some r=>(.ret,R r)
 | none=>(.normal,T)
theorem qfr (C:Nat→St) (n:Nat) (Q:Nat→Option (AExit × St)) {T:St}
  (hstep:∀ i,i<n→(qa8 pure call b keep fk body (C i)=some (.normal,C (i+1))∧Q i=Q (i+1))∨∃ s',qa8 pure call b keep fk body (C i)=some (.ret,s')∧Q i=some (.ret,s'))
  (hend:qa8 pure call b keep fk body (C n)=some (.exit id,T)) (hQ:Q n=some (.normal,T)):qa6 pure call b keep fk id body (C 0)=Q 0:=by
 have key:∀ k i,i+k=n→qa6 pure call b keep fk id body (C i)=Q i:=by
  intro k
  induction k with
  | zero=>intro i hi;rw[Nat.add_zero] at hi;subst hi;rw[qch hend,hQ]
  | succ k ih =>
    intro i hi
    rcases hstep i (by omega) with ⟨h1,h2⟩ | ⟨s',h1,h2⟩
    ·rw[qc3 h1,h2];exact ih (i+1) (by omega)
    ·rw[qjU h1,h2]
 exact key n 0 (by omega)
theorem qsG {α:Type} (xs:List α) (g:α→Int) (C:Nat→St) (T:St) (R:Int→St)
  (h0:∀ (i:Nat) (hi:i<xs.length),g xs[i]=0→qa8 pure call b keep fk body (C i)=some (.normal,C (i+1)))
  (h1:∀ (i:Nat) (hi:i<xs.length),g xs[i]≠0→qa8 pure call b keep fk body (C i)=some (.ret,R (g xs[i])))
  (hend:qa8 pure call b keep fk body (C xs.length)=some (.exit id,T)) :
  qa6 pure call b keep fk id body (C 0)=some (if qbJ (xs.map g)=0 then (.normal,T) else (.ret,R (qbJ (xs.map g)))):=by
 refine qfr C xs.length (fun i=>some (if qbJ ((xs.drop i).map g)=0 then (.normal,T) else (.ret,R (qbJ ((xs.drop i).map g))))) ?_ hend (by simp[qbJ])
 intro i hi
 have hdrop:xs.drop i=xs[i]::xs.drop (i+1):=List.drop_eq_getElem_cons hi
 rw[hdrop]
 simp only[List.map_cons,qbJ]
 by_cases he:g xs[i]=0
 ·left
  rw[if_pos he]
  exact⟨h0 i hi he,rfl⟩
 ·right
  rw[if_neg he,if_neg he]
  exact⟨_,h1 i hi he,rfl⟩
theorem qfq {α:Type} (xs:List α) (p:α→Bool) (C:Nat→St) (T R:St)
  (h0:∀ (i:Nat) (hi:i<xs.length),p xs[i]=false→qa8 pure call b keep fk body (C i)=some (.normal,C (i+1)))
  (h1:∀ (i:Nat) (hi:i<xs.length),p xs[i]=true→qa8 pure call b keep fk body (C i)=some (.ret,R))
  (hend:qa8 pure call b keep fk body (C xs.length)=some (.exit id,T)) :
  qa6 pure call b keep fk id body (C 0)=some (if xs.any p=true then (.ret,R) else (.normal,T)):=by
 refine qfr C xs.length (fun i=>some (if (xs.drop i).any p=true then (.ret,R) else (.normal,T))) ?_ hend (by simp)
 intro i hi
 have hdrop:xs.drop i=xs[i]::xs.drop (i+1):=List.drop_eq_getElem_cons hi
 rw[hdrop]
 simp only[List.any_cons]
 by_cases he:p xs[i]=true
 ·right
  simp only[he,Bool.true_or,if_true]
  exact⟨_,h1 i hi he,rfl⟩
 ·left
  have he':p xs[i]=false:=by simpa using he
  simp only[he',Bool.false_or,and_true]
  exact h0 i hi he'
theorem qci {α β:Type} (xs:List α) (g:Nat→α→Option β) (C:Nat→St) (T:St) (R:β→St)
  (h0:∀ (i:Nat) (hi:i<xs.length),g i xs[i]=none→qa8 pure call b keep fk body (C i)=some (.normal,C (i+1)))
  (h1:∀ (i:Nat) (hi:i<xs.length) (r:β),g i xs[i]=some r→qa8 pure call b keep fk body (C i)=some (.ret,R r))
  (hend:qa8 pure call b keep fk body (C xs.length)=some (.exit id,T)) :
  qa6 pure call b keep fk id body (C 0)=some (qbv R T (qaO g xs 0)):=by
 refine qfr C xs.length (fun i=>some (qbv R T (qaO g (xs.drop i) i))) ?_ hend (by simp[qaO,qbv])
 intro i hi
 have hdrop:xs.drop i=xs[i]::xs.drop (i+1):=List.drop_eq_getElem_cons hi
 rw[hdrop]
 simp only[qaO]
 cases he:g i xs[i] with
 | none =>
   left
   simp only[and_true]
   exact h0 i hi he
 | some r =>
   right
   exact⟨_,h1 i hi r he,rfl⟩
end
theorem qbX {n:Int} (h1 : -2 ^ 63≤n) (h2:n<2 ^ 63):IntKind.i64.wrap n=n:=by
 have h:IntKind.i64.wrap n=(if (true && decide (n % 2 ^ 64≥2 ^ (64-1)))=true then n % 2 ^ 64-2 ^ 64 else n % 2 ^ 64):=rfl
 rw[h]
 by_cases hc:n % 2 ^ 64≥2 ^ (64-1)
 ·rw[if_pos (by simp only[Bool.true_and,decide_eq_true_eq];exact hc)]
  omega
 ·rw[if_neg (by simp only[Bool.true_and,decide_eq_true_eq];exact hc)]
  omega
set_option linter.defProp false in
def ev_:=And.intro @qrR <| And.intro @que <| And.intro @qrQ <| And.intro @qvf <| And.intro @qsW <| And.intro @qvd <| And.intro @qsQ <| And.intro @qrO <| And.intro @qug <| And.intro @qrN <| And.intro @qqu <| And.intro @qrP <| And.intro @quf <| And.intro @qvg <| And.intro @qqW <| And.intro @qx1 <| And.intro @qy8 <| And.intro @qvD <| And.intro @qsn <| And.intro @qsx <| And.intro @qqa <| And.intro @qqb <| And.intro @qoe <| And.intro @qqd <| And.intro @qof <| And.intro @qqc <| And.intro @qod <| And.intro @qqv <| And.intro @qzw <| And.intro @qqI <| And.intro @qoK <| And.intro @quG <| And.intro @qqV <| And.intro @qoN <| And.intro @quH <| And.intro @qtg <| And.intro @qvo <| And.intro @qti <| And.intro @qth <| And.intro @qsk <| And.intro @quK <| And.intro @qsm <| And.intro @qsl <| And.intro @qwm <| And.intro @qve <| And.intro @qsV <| And.intro @qvF <| And.intro @qtO <| And.intro @qtM <| And.intro @qvG <| And.intro @qo9 <| And.intro @qtK <| And.intro @qh6 <| And.intro @qri <| And.intro @qtL <| And.intro @qvI <| And.intro @qfG <| And.intro @qvH <| And.intro @qtN <| And.intro @qrh <| And.intro @qtJ <| And.intro @qaV <| And.intro @qiD <| And.intro @qiE <| And.intro @qoG <| And.intro @qk5 <| And.intro @qqF <| And.intro @qio <| And.intro @qoH <| And.intro @qoJ <| And.intro @qqH <| And.intro @qqG <| And.intro @qoI <| And.intro @qjO <| And.intro @qim <| And.intro @qgs <| And.intro @qzn <| And.intro @qzm <| And.intro @beq_self_eq_true.{0} <| And.intro @Option.map_some.{0,0} <| And.intro @Option.map_none.{0,0} <| And.intro @Option.getD_some.{0} <| And.intro @Option.getD_none.{0} <| And.intro @List.map_cons.{0,0} <| And.intro @List.map_nil.{0,0} <| And.intro @List.flatMap_cons.{0,0} <| And.intro @List.flatMap_nil.{0,0} <| And.intro @List.length_cons.{0} <| And.intro @List.length_nil.{0} <| And.intro @List.length_append.{0} <| And.intro @List.length_map.{0,0} <| And.intro @List.cons_append.{0} <| And.intro @List.nil_append.{0} <| And.intro @List.append_nil.{0} <| And.intro @List.append_assoc.{0} <| And.intro @List.getElem?_nil.{0} <| And.intro @List.getElem?_cons_zero.{0} <| And.intro @List.getElem?_cons_succ.{0} <| And.intro @List.set_cons_zero.{0} <| And.intro @List.set_cons_succ.{0} <| And.intro @List.take_succ_cons.{0} <| And.intro @List.take_zero.{0} <| And.intro @List.drop_succ_cons.{0} <| And.intro @List.drop_zero.{0} <| And.intro @List.take_nil.{0} <| And.intro @List.drop_nil.{0} <| And.intro @List.all_cons.{0} <| And.intro @List.all_nil.{0} <| And.intro @List.mem_cons.{0} <| And.intro @List.not_mem_nil.{0} <| And.intro @Bool.and_true <| And.intro @Bool.true_and <| And.intro @Bool.and_false <| And.intro @Bool.false_and <| And.intro @Bool.or_true <| And.intro @Bool.true_or <| And.intro @Bool.or_false <| And.intro @Bool.false_or <| And.intro @Bool.not_true <| And.intro @Bool.not_false <| And.intro @Bool.false_eq_true <| And.intro @Bool.true_eq_false <| And.intro @and_true <| And.intro @true_and <| And.intro @and_false <| And.intro @false_and <| And.intro @or_true <| And.intro @or_false <| And.intro @not_true_eq_false <| And.intro @not_false_eq_true <| And.intro @decide_true <| And.intro @decide_false <| And.intro @and_self <| And.intro @Nat.le_refl <| And.intro @Nat.zero_le <| And.intro @Nat.add_zero <| And.intro @Nat.zero_add <| And.intro @Int.toNat_natCast <| And.intro @Int.natCast_nonneg <| And.intro @List.cons_ne_nil.{0} <| And.intro @qtm <| And.intro @qsI <| And.intro @qmM <| And.intro @qow <| And.intro @qrK <| And.intro @qr1 <| And.intro @List.map_append.{0,0} <| And.intro @qyO <| And.intro @Int.cast_ofNat_Int <| And.intro @qoy <| And.intro @qrS <| And.intro @qqD <| And.intro @quE <| And.intro @qwx <| And.intro @Option.isSome_some.{0} <| And.intro @Option.isSome_none.{0} <| And.intro @qky <| And.intro @qvm <| And.intro @qq5 <| And.intro @qwA <| And.intro @qrd <| And.intro @qsK <| And.intro @qqj <| And.intro @qqX <| And.intro @qyV <| And.intro @qmb <| @qom
end Go.Abs
