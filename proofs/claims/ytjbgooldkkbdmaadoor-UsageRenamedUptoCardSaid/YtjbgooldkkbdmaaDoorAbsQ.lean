/-
  Evaluating the abstract machine: the laws by which a simp set steps through code. Conditions: none.
-/
import Derived.Test.YtjbgooldkkbdmaaDoorAbsB
set_option linter.unusedVariables false
namespace Go.Abs
theorem qxL (tm:Tmps) (d t:Nat) (v:AVal):upd tm (some d) v t=if t=d then v else tm t:=rfl
theorem quK (tm:Tmps) (v:AVal):upd tm none v=tm:=rfl
theorem qry (args:List AVal) (i:Nat):qe6 args i=(args[i]?).getD (.tuple []):=rfl
theorem qwy (pure:Nat→Bool) (call:CallT) (s:St):qcd pure call [] s=some (.normal,s):=rfl
theorem qum (pure:Nat→Bool) (call:CallT) (d:Option Nat) (o:AOp) (r:List Step) (tm:Tmps) (h:Heap) :
  qcd pure call (⟨d,none,o⟩::r) ⟨tm,h⟩=match aOp pure call o tm h with | some (.val v,h')=>qcd pure call r ⟨upd tm d v,h'⟩ | some (.panic v,h')=>some (.panic v,⟨tm,h'⟩) | none=>none:=rfl
theorem qp7 (pure:Nat→Bool) (call:CallT) (d:Option Nat) (g:Option Nat × Bool) (o:AOp) (r:List Step) (tm:Tmps) (h:Heap) :
  qcd pure call (⟨d,some g,o⟩::r) ⟨tm,h⟩=match qaf (some g) tm with
   | some true=>(match aOp pure call o tm h with | some (.val v,h')=>qcd pure call r ⟨upd tm d v,h'⟩ | some (.panic v,h')=>some (.panic v,⟨tm,h'⟩) | none=>none)
   | some false=>qcd pure call r ⟨upd tm d (.tuple []),h⟩
   | none=>none:=rfl
theorem qul (pure:Nat→Bool) (call:CallT) (s:St):qdV pure call [] s=some (.normal,s):=rfl
theorem qrZ (pure:Nat→Bool) (call:CallT) (d:Option Nat) (o:AOp) (r:List Step) (tm:Tmps) (h:Heap) :
  qdV pure call (⟨d,none,o⟩::r) ⟨tm,h⟩=match qih pure call o tm h with | some (.val v,h')=>qdV pure call r ⟨upd tm d v,h'⟩ | some (.panic v,h')=>some (.panic v,⟨tm,h'⟩) | none=>none:=rfl
theorem quj (pure:Nat→Bool) (call:CallT) (x:Opd) (tm:Tmps) (h:Heap):qih pure call (.move x) tm h=some (.val (opd tm x),h):=rfl
theorem qrU (pure:Nat→Bool) (call:CallT) (n:Nat) (a:Opd) (tm:Tmps) (h:Heap):qih pure call (.field n a) tm h=aOp pure call (.field n a) tm h:=rfl
def ql7 (l:List Step) (tm:Tmps) (hs:List Heap) (i lo hi:Nat):Prop :=
 match l[i]? with
 | some ⟨some d,g,o⟩=>qaf g tm=some true→∀ h∈(hs.drop lo).take (hi+1-lo),aOp (fun _=>false) qes o tm h=some (.val (tm d),h)
 | _=>True
def qfi (l:List Step) (tm:Tmps) (hs:List Heap):List (Nat × Nat × Nat)→Prop
 | []=>True
 | c::cs=>ql7 l tm hs c.1 c.2.1 c.2.2∧qfi l tm hs cs
theorem qq0 {l:List Step} {tm:Tmps} {hs:List Heap} {c:Nat × Nat × Nat} (h:ql7 l tm hs c.1 c.2.1 c.2.2):qiV l tm hs c:=by
 intro s d h1 h2 h3 k hp hk1 hk2 hk
 unfold ql7 at h
 obtain⟨d',g,o⟩:=s
 dsimp only at h2
 subst h2
 rw[h1] at h
 refine h h3 hp ?_
 refine List.mem_of_getElem? (i:=k-c.2.1) ?_
 rw[List.getElem?_take,if_pos (by omega),List.getElem?_drop,show c.2.1+(k-c.2.1)=k by omega]
 exact hk
theorem qkl {l:List Step} {tm:Tmps} {hs:List Heap}:∀ {cs:List (Nat × Nat × Nat)},qfi l tm hs cs→∀ c∈cs,qiV l tm hs c
 | [],_=>by simp
 | c :: cs,h => by
   intro c' hc
   rcases List.mem_cons.1 hc with rfl | hc
   ·exact qq0 h.1
   ·exact qkl h.2 c' hc
theorem qvq {pure:Nat→Bool} {call:CallT} {l:List Step} {cs:List (Nat × Nat × Nat)} {s:St} {tm:Tmps} {hs:List Heap} {h:Heap}
  (hr:qc4 pure call l s.tm [] s.h=some (tm,hs,h)) (hc:qfi l tm hs cs):qgg pure call l cs s=some (.normal,⟨tm,h⟩):=by
 unfold qgg
 rw[hr]
 exact if_pos (qkl hc)
noncomputable def qop (pure:Nat→Bool) (call:CallT) (l:List Step) (cs:List (Nat × Nat × Nat)) (s:St):Option (AExit × St):=qgg pure call l cs s
open Classical in
noncomputable def qrd (pure:Nat→Bool) (call:CallT) (l:List Step) (cs:List (Nat × Nat × Nat)) (s:St) (r:Option (Tmps × List Heap × Heap)):Option (AExit × St) :=
 match r with
 | some (tm,hs,h)=>if qfi l tm hs cs then some (.normal,⟨tm,h⟩) else qop pure call l cs s
 | none=>qop pure call l cs s
theorem qvp (pure:Nat→Bool) (call:CallT) (l:List Step) (cs:List (Nat × Nat × Nat)) (s:St):qgg pure call l cs s=qrd pure call l cs s (qc4 pure call l s.tm [] s.h):=by
 unfold qrd
 split
 ·rename_i tm hs h hr
  split
  ·rename_i hc
   exact qvq hr hc
  ·rfl
 ·rfl
open Classical in
theorem qre (pure:Nat→Bool) (call:CallT) (l:List Step) (cs:List (Nat × Nat × Nat)) (s:St) (tm:Tmps) (hs:List Heap) (h:Heap) :
  qrd pure call l cs s (some (tm,hs,h))=if qfi l tm hs cs then some (.normal,⟨tm,h⟩) else qop pure call l cs s:=rfl
theorem quk (pure:Nat→Bool) (call:CallT) (tm:Tmps) (hs:List Heap) (h:Heap):qc4 pure call [] tm hs h=some (tm,hs++[h],h):=rfl
theorem qrY (pure:Nat→Bool) (call:CallT) (d:Option Nat) (g:Option (Option Nat × Bool)) (o:AOp) (r:List Step) (tm:Tmps) (hs:List Heap) (h:Heap) :
  qc4 pure call (⟨d,g,o⟩::r) tm hs h=match qaf g tm with
   | some true=>(match aOp pure call o tm h with | some (.val v,h')=>qc4 pure call r (upd tm d v) (if qbd o=true then hs++[h] else hs) h' | _=>none)
   | some false=>qc4 pure call r (upd tm d (.tuple [])) (if qbd o=true then hs++[h] else hs) h
   | none=>none:=rfl
theorem qoL {h:Heap} {v:AVal} (hv:qar (wipeR v)=true):qeF h v=wipeR v:=if_pos hv
theorem qnQ {pure:Nat→Bool} {call:CallT} {f:Nat} {args:List AVal} {h:Heap} (hd:qao (args.map wipe)=false):qcm pure call f args h=qie call f args h:=by
 unfold qcm
 rw[if_neg (by rw[hd];exact fun hx=>by cases hx.2)]
noncomputable def pcall (L:Lib) (f:Nat) (args:List AVal) (h:Heap):Option (ARes × Heap) :=
 match call L f args [] with
 | some (.val v,h2)=>if qar (qeF h2 v)=true then some (.val (qeF h2 v),h) else none
 | some (.panic v,h2)=>if qar (qeF h2 v)=true then some (.panic (qeF h2 v),h) else none
 | none=>none
theorem qap (L:Lib) (hp:∀ f,L.pure f=true) (f:Nat) (args:List AVal) (h:Heap) :
  qcm L.pure (call L) f args h=if qao (args.map wipe)=true then pcall L f (args.map wipe) h else qie (call L) f args h:=by
 unfold qcm pcall
 by_cases hd:qao (args.map wipe)=true
 ·rw[if_pos ⟨hp f,hd⟩,if_pos hd]
  cases call L f (args.map wipe) [] with
  | none=>rfl
  | some x=>obtain⟨v,h'⟩:=x;cases v<;>rfl
 ·rw[if_neg (fun hx=>hd hx.2),if_neg hd]
theorem qun {L:Lib} {f:Nat} {fn:AFn} {args:List AVal} {v:AVal} (h':Heap) (hs:L.summ f=none) (hf:L.fns f=some fn)
  (hr:qav fn.results (qaM L.pure (call L) fn.body ⟨qe6 args,[]⟩)=some (.val v,h')) (hv:qar (wipeR v)=true) (h:Heap):pcall L f args h=some (.val (wipeR v),h):=by
 unfold pcall
 rw[qcW hs hf hr]
 dsimp only
 rw[qoL hv,if_pos hv]
theorem qcy {L:Lib} {f:Nat} {args:List AVal} {v u:AVal} {h':Heap} (hr:call L f args []=some (.val v,h')) (hu:qeF h' v=u) (hd:qar u=true) (h:Heap):pcall L f args h=some (.val u,h):=by
 unfold pcall
 rw[hr]
 dsimp only
 rw[hu,if_pos hd]
theorem qod {h:Heap} {v u:AVal} (hp:qgu u=true) (hd:qeF h v=u):v=u:=by
 unfold qeF at hd
 split at hd
 ·cases v<;>simp only[wipeR,wipe,wipeCell] at hd<;>subst hd<;>first | rfl | (simp[qgu] at hp)
 ·rename_i hn
  exfalso
  unfold viewV at hd
  rw[qa3] at hd
  split at hd
  ·rename_i hdd
   exact hn (by cases v<;>simp only[wipeR,wipe,wipeCell] at hd ⊢ <;> first | (subst hd;first | rfl | (simp[qgu] at hp;done)) | (exfalso;revert hp;rw[← hd];simp[qgu]))
  ·unfold qcJ at hd
   cases v<;>(try dsimp only at hd)<;>(repeat' (first | (simp only[wipeR,wipe,wipeCell] at hd;subst hd;simp[qgu] at hp;done) | split at hd))
def kt:List Nat→List AVal→Tmps
 | k::ks,v::vs,t=>if t=k then v else kt ks vs t
 | _,_,_=>.junk
theorem qrI (k:Nat) (ks:List Nat) (v:AVal) (vs:List AVal) (t:Nat):kt (k::ks) (v::vs) t=if t=k then v else kt ks vs t:=rfl
theorem qxp (ks:List Nat) (t:Nat):kt ks [] t=.junk:=by cases ks<;>rfl
theorem qrJ (g:Nat→AVal):∀ (keep:List Nat),kt keep (keep.map g)=fun t=>if t∈keep then g t else .junk
 | []=>by funext t;simp[kt]
 | k :: ks => by
   funext t
   rw[List.map_cons,qrI,qrJ g ks]
   by_cases h:t=k<;>simp[h]
theorem qpW:qkx []=false:=rfl
theorem qn1 (k:Nat) (ks:List Nat):qkx (k::ks)=decide (k=1000000):=rfl
theorem qx8 (b:Nat) (keep:List Nat) (tm:Tmps) (h:Heap):gc b keep ⟨tm,h⟩ =
  if qkx keep=true then ⟨kt (keep.drop 1) ((keep.drop 1).map tm),h⟩
  else if b≤h.length then ⟨kt keep (keep.map fun t=>ren (qel b (qf4 b keep ⟨tm,h⟩)) (tm t)),
   (h.take b).map (qeb (qel b (qf4 b keep ⟨tm,h⟩)))++(qf4 b keep ⟨tm,h⟩).map fun id=>qeb (qel b (qf4 b keep ⟨tm,h⟩)) ((h[id]?).getD .gone)⟩ else ⟨tm,h⟩:=by
 unfold gc gc1 qyi
 rw[qrJ,qrJ]
theorem qtO (b:Nat) (keep:List Nat) (tm:Tmps) (h:Heap):qf4 b keep ⟨tm,h⟩=qci b (keep.flatMap (fun t=>qa0 (tm t))++(h.take b).flatMap qjW) []:=rfl
section
variable (pure:Nat→Bool) (call:CallT)
theorem qq7 (s:St):qaM pure call .skip s=some (.normal,s):=rfl
theorem qtn (l:List Step) (s:St):qaM pure call (.ops l) s=qcd pure call l s:=rfl
theorem qq6 (l:List Step) (s:St):qaM pure call (.kops l) s=qdV pure call l s:=rfl
theorem qq4 (l:List Step) (cs:List (Nat × Nat × Nat)) (s:St):qaM pure call (.draw l cs) s=qgg pure call l cs s:=rfl
theorem qtp (a b:ACode) (s:St):qaM pure call (.seq a b) s=match qaM pure call a s with | some (.normal,s')=>qaM pure call b s' | r=>r:=rfl
theorem qq3 (c:Opd) (a b:ACode) (s:St):qaM pure call (.cond c a b) s=match opd s.tm c with | .bool t=>if t then qaM pure call a s else qaM pure call b s | _=>none:=rfl
theorem qpI (id:Nat) (c:ACode) (s:St):qaM pure call (.block id c) s=match qaM pure call c s with | some (.exit id',s')=>if id'=id then some (.normal,s') else some (.exit id',s') | r=>r:=rfl
theorem qj1 (k:List Nat) (a b:ACode) (s:St):qaM pure call (.frame k (.seq a b)) s=(qaM pure call (.seq a b) s).map (gcE s.h.length k):=rfl
theorem qnO (t:Nat) (c:ACode) (s:St):qaM pure call (.freeze t c) s=qaM pure call c (qeR t s):=rfl
theorem qq8 (c:ACode) (s:St):qaM pure call (.view c) s=qaM pure call c (qnl s):=rfl
theorem qq5 (id:Nat) (s:St):qaM pure call (.exit id) s=some (.exit id,s):=rfl
theorem qto (s:St):qaM pure call .ret s=some (.ret,s):=rfl
end
def qdb (b:Nat):Nat→Option (Option Nat)
 | 0=>some none
 | _+1=>some (some b)
def qby (sz:Nat):Nat→Heap
 | 0=>[]
 | n+1=>[.tail (n+1) sz]
theorem qbW (b:Nat):qdb b 0=some none:=rfl
theorem qf0 (b n:Nat):qdb b (n+1)=some (some b):=rfl
theorem qbQ (sz:Nat):qby sz 0=[]:=rfl
theorem qe3 (sz n:Nat):qby sz (n+1)=[.tail (n+1) sz]:=rfl
theorem qcr {b n:Nat} (h:0<n):qdb b n=some (some b):=by cases n with | zero=>omega | succ n=>rfl
theorem qbY {sz n:Nat} (h:0<n):qby sz n=[.tail n sz]:=by cases n with | zero=>omega | succ n=>rfl
theorem qeu (b sz n:Nat):(qdb b n=some none∧qby sz n=[])∨(qdb b n=some (some b)∧qby sz n=[.tail n sz]):=by
 cases n with
 | zero=>exact .inl ⟨rfl,rfl⟩
 | succ n=>exact .inr ⟨rfl,rfl⟩
def qym (id sz:Nat) (cs:List AVal) (tm:Tmps):Tmps:=fun i=>frz id sz cs (tm i)
theorem qvC (id sz:Nat) (cs:List AVal) (tm:Tmps) (i:Nat):qym id sz cs tm i=frz id sz cs (tm i):=rfl
theorem qtM (id sz:Nat) (cs:List AVal) (tm:Tmps) (h:Heap):qia id sz cs ⟨tm,h⟩=if qao cs=true∧cs.all leaf=true then ⟨qym id sz cs tm,(h.set id .gone).map (qjV id sz cs)⟩ else ⟨tm,h⟩:=rfl
theorem qpQ (t:Nat) (tm:Tmps) (h:Heap):qeR t ⟨tm,h⟩=match tm t with
 | .ptr (some (id,0))=>(match h[id]? with | some (.box cs)=>qia id 0 (cs.map wipeCell) ⟨tm,h⟩ | _=>⟨tm,h⟩)
 | .vec id _=>(match h[id]? with | some (.vec cs sz)=>qia id sz (cs.map wipeCell) ⟨tm,h⟩ | _=>⟨tm,h⟩)
 | _=>⟨tm,h⟩:=rfl
theorem qrv:qjW .gone=[]:=rfl
theorem qtR (cs:List AVal):qjW (.box cs)=cs.flatMap qa0:=rfl
theorem qrx (n sz:Nat):qjW (.tail n sz)=[]:=rfl
theorem qrw:qjW (.map [])=[]:=rfl
theorem qsm (ρ:Nat→Option Nat):qeb ρ .gone=.gone:=rfl
theorem qut (ρ:Nat→Option Nat) (cs:List AVal):qeb ρ (.box cs)=.box (cs.map (ren ρ)):=rfl
theorem qso (ρ:Nat→Option Nat) (n sz:Nat):qeb ρ (.tail n sz)=.tail n sz:=rfl
theorem qsn (ρ:Nat→Option Nat):qeb ρ (.map [])=.map []:=rfl
theorem qpf (call:CallT) (f:Nat) (args:List AVal) (h:Heap):qie call f args h=if (qbr args h).all (fun i=>decide (i<h.length))=true then
  match call f (args.map (ren fun i=>qas i (qbr args h) 0)) (qcD (qbr args h) h) with
  | some (r,h2)=>some (qnE (qbr args h) (qmK (qbr args h).length r h2) h.length r,qea (qbr args h) (qmK (qbr args h).length r h2) h h2)
  | none=>none
 else none:=rfl
theorem qmL (k:Nat) (v:AVal) (h2:Heap):qmK k (.val v) h2=qci k (qa0 v++(h2.take k).flatMap qjW) []:=rfl
theorem qpw (l nl:List Nat) (n j:Nat):qbN l nl n j=if j<l.length then l[j]? else (qas j nl 0).map (n+·):=rfl
theorem qkR (args:List AVal) (h:Heap):qbr args h=grow h (grow h (grow h (qci 0 (args.flatMap qa0) []))):=rfl
theorem qrt (h:Heap) (l:List Nat):grow h l=qci 0 (l.flatMap fun i=>qjW ((h[i]?).getD .gone)) l:=rfl
theorem qkW (l:List Nat) (h:Heap):qcD l h=l.map fun i=>qeb (fun i=>qas i l 0) ((h[i]?).getD .gone):=rfl
def pb (l nl:List Nat) (n:Nat) (h2:Heap):Heap→Nat→Heap
 | [],_=>[]
 | o::os,i=>(match qas i l 0 with | some j=>qeb (qbN l nl n) ((h2[j]?).getD .gone) | none=>o)::pb l nl n h2 os (i+1)
theorem qxx (l nl:List Nat) (n:Nat) (h2:Heap) (i:Nat):pb l nl n h2 [] i=[]:=rfl
theorem qlx (l nl:List Nat) (n:Nat) (h2:Heap) (o:AObj) (os:Heap) (i:Nat):pb l nl n h2 (o::os) i=(match qas i l 0 with | some j=>qeb (qbN l nl n) ((h2[j]?).getD .gone) | none=>o)::pb l nl n h2 os (i+1):=rfl
theorem qjs (l nl:List Nat) (n:Nat) (h2:Heap):∀ (h:Heap) (k:Nat),(pb l nl n h2 h k).length=h.length
 | [],k=>rfl
 | o::os,k=>by rw[qlx,List.length_cons,List.length_cons,qjs l nl n h2 os]
theorem qr2 (l nl:List Nat) (n:Nat) (h2:Heap):∀ (h:Heap) (k i:Nat) (o:AObj),h[i]? = some o→(pb l nl n h2 h k)[i]? = some (match qas (k+i) l 0 with | some j=>qeb (qbN l nl n) ((h2[j]?).getD .gone) | none=>o)
 | [],k,i,o,e=>by simp at e
 | x :: os,k,0,o,e => by
   simp at e
   subst e
   rw[qlx,List.getElem?_cons_zero,Nat.add_zero]
 | x :: os,k,i + 1,o,e => by
   rw[qlx,List.getElem?_cons_succ,qr2 l nl n h2 os (k+1) i o (by simpa using e)]
   rw[show k+1+i=k+(i+1) by omega]
theorem qkK (l nl:List Nat) (h h2:Heap):qea l nl h h2=pb l nl h.length h2 h 0++nl.map fun j=>qeb (qbN l nl h.length) ((h2[j]?).getD .gone):=by
 unfold qea
 congr 1
 refine List.ext_getElem? fun i=>?_
 by_cases hi:i<h.length
 ·rw[qr2 l nl _ h2 h 0 i h[i] (List.getElem?_eq_getElem hi),Nat.zero_add]
  rw[List.getElem?_map,List.getElem?_range hi]
  simp only[Option.map_some,List.getElem?_eq_getElem hi,Option.getD_some]
  cases qas i l 0<;>rfl
 ·rw[List.getElem?_eq_none (by simp;omega),List.getElem?_eq_none (by rw[qjs];omega)]
theorem qiL (l nl:List Nat) (n:Nat) (v:AVal):qnE l nl n (.val v)=.val (ren (qbN l nl n) v):=rfl
theorem qpp (cs:List AVal):acells (.agg cs)=cs:=rfl
theorem qpq (k:IntKind) (n:Int):acells (.int k n)=[.int k n]:=rfl
theorem qnw (xs:List AVal) (o:Option (Option Nat)):acells (.list xs o)=[.list xs o]:=rfl
theorem qps (a:Option (Nat × Nat)):acells (.ptr a)=[.ptr a]:=rfl
theorem qnx (cs:List AVal) (n:Nat):acells (.vptr cs n)=[.vptr cs n]:=rfl
theorem qpr (a:Option Nat):acells (.map a)=[.map a]:=rfl
theorem qnv (f:Nat) (a b:List AVal):acells (.func f a b)=[.func f a b]:=rfl
theorem qrP:qeU=1073741824:=rfl
theorem ql9 (l:List Step) (tm:Tmps) (hs:List Heap) (c:Nat × Nat × Nat) (cs:List (Nat × Nat × Nat)):qfi l tm hs (c::cs)=(ql7 l tm hs c.1 c.2.1 c.2.2∧qfi l tm hs cs):=rfl
theorem qnM (l:List Step) (tm:Tmps) (hs:List Heap):qfi l tm hs []=True:=rfl
theorem qqZ (l:List Step) (tm:Tmps) (hs:List Heap) (i lo hi:Nat):ql7 l tm hs i lo hi=match l[i]? with
 | some ⟨some d,g,o⟩=>qaf g tm=some true→∀ h∈(hs.drop lo).take (hi+1-lo),aOp (fun _=>false) qes o tm h=some (.val (tm d),h)
 | _=>True:=rfl
theorem qx0:(true==false)=false:=rfl
theorem qxZ:(false==true)=false:=rfl
theorem quN (cs:List AVal):wipe (.agg cs)=.agg (cs.map wipeCell):=rfl
theorem qsX (xs:List AVal) (o:Option (Option Nat)):wipe (.list xs o)=.list xs none:=rfl
theorem qsV (b:Bool):wipe (.bool b)=.bool b:=rfl
theorem quO (k:IntKind) (n:Int):wipe (.int k n)=.int k n:=rfl
theorem qor (cs:List AVal):wipeR (.tuple cs)=.tuple (cs.map wipe):=rfl
theorem qsT (cs:List AVal):wipeR (.agg cs)=.agg (cs.map wipeCell):=rfl
theorem qk0 (xs:List AVal) (o:Option (Option Nat)):wipeR (.list xs o)=.list xs none:=rfl
theorem qqu (b:Bool):wipeR (.bool b)=.bool b:=rfl
theorem qsU (k:IntKind) (n:Int):wipeR (.int k n)=.int k n:=rfl
theorem quQ (a:Option (Nat × Nat)):wipe (.ptr a)=.ptr a:=rfl
theorem qhc (cs:List AVal) (n:Nat):wipe (.vptr cs n)=.vptr cs n:=rfl
theorem quP (a:Option Nat):wipe (.map a)=.map a:=rfl
theorem qsW (f:Nat) (a b:List AVal):wipe (.func f a b)=.func f a b:=rfl
theorem qqt (xs:List AVal) (o:Option (Option Nat)):wipeCell (.list xs o)=.list xs none:=rfl
theorem qsS (k:IntKind) (n:Int):wipeCell (.int k n)=.int k n:=rfl
theorem qbc (xs:List AVal):qar (.list xs none)=qao xs:=by simp[qar]
theorem qic (xs:List AVal):qar (.list xs (some none))=qao xs:=by simp[qar]
theorem qid (xs:List AVal) (i:Nat):qar (.list xs (some (some i)))=false:=by simp[qar]
theorem qnX (b:Bool):qar (.bool b)=true:=rfl
theorem qkw (k:IntKind) (n:Int):qar (.int k n)=true:=rfl
theorem qpT (cs:List AVal):qar (.agg cs)=qao cs:=rfl
theorem qhX (cs:List AVal):qar (.tuple cs)=qao cs:=rfl
theorem qnY (f:Nat) (a b:List AVal):qar (.func f a b)=(qao a && qao b):=rfl
theorem qn0 (cs:List AVal) (n:Nat):qar (.vptr cs n)=qao cs:=rfl
theorem qpV (a:Nat × Nat):qar (.ptr (some a))=false:=rfl
theorem qpU (a:Nat):qar (.map (some a))=false:=rfl
theorem qnZ:qar .junk=true:=rfl
theorem qjh:qao []=true:=rfl
theorem qhV (v:AVal) (vs:List AVal):qao (v::vs)=(qar v && qao vs):=rfl
theorem qj6 (a b:List AVal):qao (a++b)=(qao a && qao b):=by
 induction a with
 | nil=>rfl
 | cons x xs ih=>rw[List.cons_append,qao,qao,ih,Bool.and_assoc]
theorem qeT {α:Type} (f:α→AVal) (h:∀ a,qar (f a)=true) (l:List α):qao (l.map f)=true:=by
 induction l with
 | nil=>rfl
 | cons x xs ih=>rw[List.map_cons,qao,h,ih];rfl
theorem all_map {α:Type} (f:α→AVal) (n:Nat) (h:∀ a,(acells (f a)).length=n) (l:List α):((l.map f).all fun v=>decide ((acells v).length=n))=true:=by
 rw[List.all_eq_true]
 intro x hx
 obtain⟨a,_,rfl⟩:=List.mem_map.1 hx
 simp[h a]
theorem qp6 (n:Nat) (acc:List Nat):qci n [] acc=acc:=rfl
theorem qn5 (n i:Nat) (is acc:List Nat):qci n (i::is) acc=qci n is (if n≤i∧i∉acc then acc++[i] else acc):=rfl
theorem qtP (n:Nat) (l:List Nat) (i:Nat):qel n l i=if i<n then some i else qas i l n:=rfl
noncomputable def qbk (pure:Nat→Bool) (call:CallT) (b:Nat) (keep fk:List Nat) (body:ACode) (s:St):Option (AExit × St) :=
 match qaM pure call body s with
 | some (.normal,s')=>some (.normal,gc b keep s')
 | some (e,s')=>some (gcE b fk (e,s'))
 | none=>none
theorem qsu (pure:Nat→Bool) (call:CallT) (b:Nat) (keep fk:List Nat) (body:ACode) (s:St):qbk pure call b keep fk body s=match qaM pure call body s with
 | some (.normal,s')=>some (.normal,gc b keep s')
 | some (e,s')=>some (gcE b fk (e,s'))
 | none=>none:=rfl
noncomputable def qbl (pure:Nat→Bool) (call:CallT) (b:Nat) (keep fk:List Nat) (id:Nat) (body:ACode) (s:St):Option (AExit × St) :=
 (match (match qaM pure call body s with
   | some (.normal,s')=>qjl (fun s1=>qaM pure call body (gc b keep s1)) s'
   | r=>r) with
  | some (.exit id',s')=>if id'=id then some (AExit.normal,s') else some (AExit.exit id',s')
  | r=>r).map (gcE b fk)
theorem qpJ (pure:Nat→Bool) (call:CallT) (keep fk:List Nat) (id:Nat) (body:ACode) (tm:Tmps) (h:Heap) :
  qaM pure call (.frame fk (.block id (.gloop keep body))) ⟨tm,h⟩=qbl pure call h.length keep fk id body (gc h.length keep ⟨tm,h⟩):=by
 unfold qbl
 simp only[qaM]
 rw[qo7]
 rfl
section
variable {pure:Nat→Bool} {call:CallT} {b:Nat} {keep fk:List Nat} {id:Nat} {body:ACode}
theorem qfY {s s1:St} (h:qbk pure call b keep fk body s=some (.normal,s1)):qbl pure call b keep fk id body s=qbl pure call b keep fk id body s1:=by
 unfold qbk at h
 unfold qbl
 cases hx:qaM pure call body s with
 | none=>rw[hx] at h;cases h
 | some x =>
   obtain⟨e,s'⟩:=x
   rw[hx] at h
   cases e with
   | normal =>
     simp only[Option.some.injEq,Prod.mk.injEq,true_and] at h
     dsimp only
     rw[qo7,h]
     rfl
   | panic v=>simp[gcE] at h
   | exit i=>simp[gcE] at h
   | ret=>simp[gcE] at h
theorem qep {s s1:St} (h:qbk pure call b keep fk body s=some (.exit id,s1)):qbl pure call b keep fk id body s=some (.normal,s1):=by
 unfold qbk at h
 unfold qbl
 cases hx:qaM pure call body s with
 | none=>rw[hx] at h;cases h
 | some x =>
   obtain⟨e,s'⟩:=x
   rw[hx] at h
   cases e with
   | normal=>simp at h
   | panic v=>simp[gcE] at h
   | exit i =>
     simp only[gcE,Option.some.injEq,Prod.mk.injEq,AExit.exit.injEq] at h
     obtain⟨rfl,rfl⟩:=h
     simp[gcE]
   | ret=>simp[gcE] at h
theorem qmG {s s1:St} (h:qbk pure call b keep fk body s=some (.ret,s1)):qbl pure call b keep fk id body s=some (.ret,s1):=by
 unfold qbk at h
 unfold qbl
 cases hx:qaM pure call body s with
 | none=>rw[hx] at h;cases h
 | some x =>
   obtain⟨e,s'⟩:=x
   rw[hx] at h
   cases e with
   | normal=>simp at h
   | panic v=>simp[gcE] at h
   | exit i=>simp[gcE] at h
   | ret =>
     simp only[gcE,Option.some.injEq,Prod.mk.injEq,true_and] at h
     subst h
     rfl
def qbE:List Int→Int
 | []=>0
 | e::es=>if e=0 then qbE es else e
def qaF {α β:Type} (g:Nat→α→Option β):List α→Nat→Option β
 | [],_=>none
 | x::xs,i=>match g i x with | some r=>some r | none=>qaF g xs (i+1)
theorem qjn (C:Nat→St) (n:Nat) {T:St} (hstep:∀ i,i<n→qbk pure call b keep fk body (C i)=some (.normal,C (i+1)))
  (hend:qbk pure call b keep fk body (C n)=some (.exit id,T)):qbl pure call b keep fk id body (C 0)=some (.normal,T):=by
 have key:∀ k i,i+k=n→qbl pure call b keep fk id body (C i)=some (.normal,T):=by
  intro k
  induction k with
  | zero=>intro i hi;rw[Nat.add_zero] at hi;subst hi;exact qep hend
  | succ k ih=>intro i hi;rw[qfY (hstep i (by omega))];exact ih (i+1) (by omega)
 exact key n 0 (by omega)
def qbJ {β:Type} (R:β→St) (T:St):Option β→AExit × St
 | some r=>(.ret,R r)
 | none=>(.normal,T)
theorem qfq (C:Nat→St) (n:Nat) (Q:Nat→Option (AExit × St)) {T:St}
  (hstep:∀ i,i<n→(qbk pure call b keep fk body (C i)=some (.normal,C (i+1))∧Q i=Q (i+1))∨∃ s',qbk pure call b keep fk body (C i)=some (.ret,s')∧Q i=some (.ret,s'))
  (hend:qbk pure call b keep fk body (C n)=some (.exit id,T)) (hQ:Q n=some (.normal,T)):qbl pure call b keep fk id body (C 0)=Q 0:=by
 have key:∀ k i,i+k=n→qbl pure call b keep fk id body (C i)=Q i:=by
  intro k
  induction k with
  | zero=>intro i hi;rw[Nat.add_zero] at hi;subst hi;rw[qep hend,hQ]
  | succ k ih =>
    intro i hi
    rcases hstep i (by omega) with ⟨h1,h2⟩ | ⟨s',h1,h2⟩
    ·rw[qfY h1,h2];exact ih (i+1) (by omega)
    ·rw[qmG h1,h2]
 exact key n 0 (by omega)
theorem qrN {α:Type} (xs:List α) (g:α→Int) (C:Nat→St) (T:St) (R:Int→St)
  (h0:∀ (i:Nat) (hi:i<xs.length),g xs[i]=0→qbk pure call b keep fk body (C i)=some (.normal,C (i+1)))
  (h1:∀ (i:Nat) (hi:i<xs.length),g xs[i]≠0→qbk pure call b keep fk body (C i)=some (.ret,R (g xs[i])))
  (hend:qbk pure call b keep fk body (C xs.length)=some (.exit id,T)) :
  qbl pure call b keep fk id body (C 0)=some (if qbE (xs.map g)=0 then (.normal,T) else (.ret,R (qbE (xs.map g)))):=by
 refine qfq C xs.length (fun i=>some (if qbE ((xs.drop i).map g)=0 then (.normal,T) else (.ret,R (qbE ((xs.drop i).map g))))) ?_ hend (by simp[qbE])
 intro i hi
 have hdrop:xs.drop i=xs[i]::xs.drop (i+1):=List.drop_eq_getElem_cons hi
 rw[hdrop]
 simp only[List.map_cons,qbE]
 by_cases he:g xs[i]=0
 ·left
  rw[if_pos he]
  exact⟨h0 i hi he,rfl⟩
 ·right
  rw[if_neg he,if_neg he]
  exact⟨_,h1 i hi he,rfl⟩
theorem qjm {α:Type} (xs:List α) (p:α→Bool) (C:Nat→St) (T R:St)
  (h0:∀ (i:Nat) (hi:i<xs.length),p xs[i]=false→qbk pure call b keep fk body (C i)=some (.normal,C (i+1)))
  (h1:∀ (i:Nat) (hi:i<xs.length),p xs[i]=true→qbk pure call b keep fk body (C i)=some (.ret,R))
  (hend:qbk pure call b keep fk body (C xs.length)=some (.exit id,T)) :
  qbl pure call b keep fk id body (C 0)=some (if xs.any p=true then (.ret,R) else (.normal,T)):=by
 refine qfq C xs.length (fun i=>some (if (xs.drop i).any p=true then (.ret,R) else (.normal,T))) ?_ hend (by simp)
 intro i hi
 have hdrop:xs.drop i=xs[i]::xs.drop (i+1):=List.drop_eq_getElem_cons hi
 rw[hdrop]
 simp only[List.any_cons]
 by_cases he:p xs[i]=true
 ·right
  simp only[he,Bool.true_or,if_true]
  exact⟨_,h1 i hi he,rfl⟩
 ·left
  have he':p xs[i]=false:=by simpa using he
  simp only[he',Bool.false_or,and_true]
  exact h0 i hi he'
theorem qdH {α β:Type} (xs:List α) (g:Nat→α→Option β) (C:Nat→St) (T:St) (R:β→St)
  (h0:∀ (i:Nat) (hi:i<xs.length),g i xs[i]=none→qbk pure call b keep fk body (C i)=some (.normal,C (i+1)))
  (h1:∀ (i:Nat) (hi:i<xs.length) (r:β),g i xs[i]=some r→qbk pure call b keep fk body (C i)=some (.ret,R r))
  (hend:qbk pure call b keep fk body (C xs.length)=some (.exit id,T)) :
  qbl pure call b keep fk id body (C 0)=some (qbJ R T (qaF g xs 0)):=by
 refine qfq C xs.length (fun i=>some (qbJ R T (qaF g (xs.drop i) i))) ?_ hend (by simp[qaF,qbJ])
 intro i hi
 have hdrop:xs.drop i=xs[i]::xs.drop (i+1):=List.drop_eq_getElem_cons hi
 rw[hdrop]
 simp only[qaF]
 cases he:g i xs[i] with
 | none =>
   left
   simp only[and_true]
   exact h0 i hi he
 | some r =>
   right
   exact⟨_,h1 i hi r he,rfl⟩
end
theorem qcT {n:Int} (h1 : -2 ^ 63≤n) (h2:n<2 ^ 63):IntKind.i64.wrap n=n:=by
 have h:IntKind.i64.wrap n=(if (true && decide (n % 2 ^ 64≥2 ^ (64-1)))=true then n % 2 ^ 64-2 ^ 64 else n % 2 ^ 64):=rfl
 rw[h]
 by_cases hc:n % 2 ^ 64≥2 ^ (64-1)
 ·rw[if_pos (by simp only[Bool.true_and,decide_eq_true_eq];exact hc)]
  omega
 ·rw[if_neg (by simp only[Bool.true_and,decide_eq_true_eq];exact hc)]
  omega
set_option linter.defProp false in
def ev_:=And.intro @qq7 <| And.intro @qtn <| And.intro @qq6 <| And.intro @qul <| And.intro @qrZ <| And.intro @quj <| And.intro @qrU <| And.intro @qq4 <| And.intro @qtp <| And.intro @qq3 <| And.intro @qpI <| And.intro @qq5 <| And.intro @qto <| And.intro @qum <| And.intro @qp7 <| And.intro @qwy <| And.intro @qxL <| And.intro @quK <| And.intro @qry <| And.intro @qrI <| And.intro @qpp <| And.intro @qpq <| And.intro @qnw <| And.intro @qps <| And.intro @qnx <| And.intro @qpr <| And.intro @qnv <| And.intro @qpJ <| And.intro @qx8 <| And.intro @qpW <| And.intro @qn1 <| And.intro @qtO <| And.intro @qp6 <| And.intro @qn5 <| And.intro @qtP <| And.intro @qsm <| And.intro @qut <| And.intro @qso <| And.intro @qsn <| And.intro @qrv <| And.intro @qtR <| And.intro @qrx <| And.intro @qrw <| And.intro @qvp <| And.intro @quk <| And.intro @qrY <| And.intro @quN <| And.intro @qsX <| And.intro @qsV <| And.intro @quO <| And.intro @qor <| And.intro @qsT <| And.intro @qk0 <| And.intro @qqu <| And.intro @qsU <| And.intro @quQ <| And.intro @qhc <| And.intro @quP <| And.intro @qsW <| And.intro @qqt <| And.intro @qsS <| And.intro @qbc <| And.intro @qic <| And.intro @qid <| And.intro @qnX <| And.intro @qkw <| And.intro @qpT <| And.intro @qhX <| And.intro @qnY <| And.intro @qn0 <| And.intro @qpV <| And.intro @qpU <| And.intro @qnZ <| And.intro @qjh <| And.intro @qhV <| And.intro @qj6 <| And.intro @qx0 <| And.intro @qxZ <| And.intro @beq_self_eq_true.{0} <| And.intro @Option.map_some.{0,0} <| And.intro @Option.map_none.{0,0} <| And.intro @Option.getD_some.{0} <| And.intro @Option.getD_none.{0} <| And.intro @List.map_cons.{0,0} <| And.intro @List.map_nil.{0,0} <| And.intro @List.flatMap_cons.{0,0} <| And.intro @List.flatMap_nil.{0,0} <| And.intro @List.length_cons.{0} <| And.intro @List.length_nil.{0} <| And.intro @List.length_append.{0} <| And.intro @List.length_map.{0,0} <| And.intro @List.cons_append.{0} <| And.intro @List.nil_append.{0} <| And.intro @List.append_nil.{0} <| And.intro @List.append_assoc.{0} <| And.intro @List.getElem?_nil.{0} <| And.intro @List.getElem?_cons_zero.{0} <| And.intro @List.getElem?_cons_succ.{0} <| And.intro @List.set_cons_zero.{0} <| And.intro @List.set_cons_succ.{0} <| And.intro @List.take_succ_cons.{0} <| And.intro @List.take_zero.{0} <| And.intro @List.drop_succ_cons.{0} <| And.intro @List.drop_zero.{0} <| And.intro @List.take_nil.{0} <| And.intro @List.drop_nil.{0} <| And.intro @List.all_cons.{0} <| And.intro @List.all_nil.{0} <| And.intro @List.mem_cons.{0} <| And.intro @List.not_mem_nil.{0} <| And.intro @Bool.and_true <| And.intro @Bool.true_and <| And.intro @Bool.and_false <| And.intro @Bool.false_and <| And.intro @Bool.or_true <| And.intro @Bool.true_or <| And.intro @Bool.or_false <| And.intro @Bool.false_or <| And.intro @Bool.not_true <| And.intro @Bool.not_false <| And.intro @Bool.false_eq_true <| And.intro @Bool.true_eq_false <| And.intro @and_true <| And.intro @true_and <| And.intro @and_false <| And.intro @false_and <| And.intro @or_true <| And.intro @or_false <| And.intro @not_true_eq_false <| And.intro @not_false_eq_true <| And.intro @decide_true <| And.intro @decide_false <| And.intro @and_self <| And.intro @Nat.le_refl <| And.intro @Nat.zero_le <| And.intro @Nat.add_zero <| And.intro @Nat.zero_add <| And.intro @Int.toNat_natCast <| And.intro @Int.natCast_nonneg <| And.intro @List.cons_ne_nil.{0} <| And.intro @qsu <| And.intro @qrP <| And.intro @ql9 <| And.intro @qnM <| And.intro @qqZ <| And.intro @qre <| And.intro @List.map_append.{0,0} <| And.intro @qxp <| And.intro @Int.cast_ofNat_Int <| And.intro @qnO <| And.intro @qq8 <| And.intro @qpQ <| And.intro @qtM <| And.intro @qvC <| And.intro @Option.isSome_some.{0} <| And.intro @Option.isSome_none.{0} <| And.intro @qj1 <| And.intro @qpf <| And.intro @qkR <| And.intro @qrt <| And.intro @qkW <| And.intro @qmL <| And.intro @qpw <| And.intro @qkK <| And.intro @qxx <| And.intro @qlx <| @qiL
end Go.Abs
