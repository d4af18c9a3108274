/-
  Evaluating the abstract machine: the laws by which a simp set steps through code. Conditions: none.
-/
import Derived.Test.YtjbgooldkkbdmaaDoorAbsB
set_option linter.unusedVariables false
namespace Go.Abs
theorem qs3 (tm:Tmps) (d t:Nat) (v:AVal):upd tm (some d) v t=if t=d then v else tm t:=rfl
theorem qoy (tm:Tmps) (v:AVal):upd tm none v=tm:=rfl
theorem qlP (args:List AVal) (i:Nat):qes args i=(args[i]?).getD (.tuple []):=rfl
theorem qqH (pure:Nat→Bool) (call:CallT) (s:St):qbT pure call [] s=some (.normal,s):=rfl
theorem qop (pure:Nat→Bool) (call:CallT) (d:Option Nat) (o:AOp) (r:List Step) (tm:Tmps) (h:Heap) :
  qbT pure call (⟨d,none,o⟩::r) ⟨tm,h⟩=match aOp pure call o tm h with | some (.val v,h')=>qbT pure call r ⟨upd tm d v,h'⟩ | some (.panic v,h')=>some (.panic v,⟨tm,h'⟩) | none=>none:=rfl
theorem qj5 (pure:Nat→Bool) (call:CallT) (d:Option Nat) (g:Option Nat × Bool) (o:AOp) (r:List Step) (tm:Tmps) (h:Heap) :
  qbT pure call (⟨d,some g,o⟩::r) ⟨tm,h⟩=match qag (some g) tm with
   | some true=>(match aOp pure call o tm h with | some (.val v,h')=>qbT pure call r ⟨upd tm d v,h'⟩ | some (.panic v,h')=>some (.panic v,⟨tm,h'⟩) | none=>none)
   | some false=>qbT pure call r ⟨upd tm d (.tuple []),h⟩
   | none=>none:=rfl
theorem qoo (pure:Nat→Bool) (call:CallT) (s:St):qdo pure call [] s=some (.normal,s):=rfl
theorem qmb (pure:Nat→Bool) (call:CallT) (d:Option Nat) (o:AOp) (r:List Step) (tm:Tmps) (h:Heap) :
  qdo pure call (⟨d,none,o⟩::r) ⟨tm,h⟩=match qgB pure call o tm h with | some (.val v,h')=>qdo pure call r ⟨upd tm d v,h'⟩ | some (.panic v,h')=>some (.panic v,⟨tm,h'⟩) | none=>none:=rfl
theorem qqD (pure:Nat→Bool) (call:CallT) (k:Nat) (args:List Opd) (tm:Tmps) (h:Heap):qgB pure call (.pcall k args) tm h=qkG call k (args.map (opd tm)) h:=rfl
theorem qom (pure:Nat→Bool) (call:CallT) (x:Opd) (tm:Tmps) (h:Heap):qgB pure call (.move x) tm h=some (.val (opd tm x),h):=rfl
theorem qqC (pure:Nat→Bool) (call:CallT) (n:Nat) (a:Opd) (tm:Tmps) (h:Heap):qgB pure call (.loadN n a) tm h=aOp pure call (.loadN n a) tm h:=rfl
theorem ql9 (pure:Nat→Bool) (call:CallT) (n:Nat) (a:Opd) (tm:Tmps) (h:Heap):qgB pure call (.field n a) tm h=aOp pure call (.field n a) tm h:=rfl
theorem qnn (pure:Nat→Bool) (call:CallT) (n:Nat) (a:Opd) (tm:Tmps) (h:Heap):qgB pure call (.extract n a) tm h=aOp pure call (.extract n a) tm h:=rfl
def qlq (l:List Step) (tm:Tmps) (hs:List Heap) (i lo hi:Nat):Prop :=
 match l[i]? with
 | some ⟨some d,g,o⟩=>qag g tm=some true→∀ h∈(hs.drop lo).take (hi+1-lo),aOp (fun _=>false) qdS o tm h=some (.val (tm d),h)
 | _=>True
def qeG (l:List Step) (tm:Tmps) (hs:List Heap):List (Nat × Nat × Nat)→Prop
 | []=>True
 | c::cs=>qlq l tm hs c.1 c.2.1 c.2.2∧qeG l tm hs cs
theorem qpR {l:List Step} {tm:Tmps} {hs:List Heap} {c:Nat × Nat × Nat} (h:qlq l tm hs c.1 c.2.1 c.2.2):qh8 l tm hs c:=by
 intro s d h1 h2 h3 k hp hk1 hk2 hk
 unfold qlq at h
 obtain⟨d',g,o⟩:=s
 dsimp only at h2
 subst h2
 rw[h1] at h
 refine h h3 hp ?_
 refine List.mem_of_getElem? (i:=k-c.2.1) ?_
 rw[List.getElem?_take,if_pos (by omega),List.getElem?_drop,show c.2.1+(k-c.2.1)=k by omega]
 exact hk
theorem qjD {l:List Step} {tm:Tmps} {hs:List Heap}:∀ {cs:List (Nat × Nat × Nat)},qeG l tm hs cs→∀ c∈cs,qh8 l tm hs c
 | [],_=>by simp
 | c :: cs,h => by
   intro c' hc
   rcases List.mem_cons.1 hc with rfl | hc
   ·exact qpR h.1
   ·exact qjD h.2 c' hc
theorem qtl {pure:Nat→Bool} {call:CallT} {l:List Step} {cs:List (Nat × Nat × Nat)} {s:St} {tm:Tmps} {hs:List Heap} {h:Heap}
  (hr:qcA pure call l s.tm [] s.h=some (tm,hs,h)) (hc:qeG l tm hs cs):qfD pure call l cs s=some (.normal,⟨tm,h⟩):=by
 unfold qfD
 rw[hr]
 exact if_pos (qjD hc)
noncomputable def qnA (pure:Nat→Bool) (call:CallT) (l:List Step) (cs:List (Nat × Nat × Nat)) (s:St):Option (AExit × St):=qfD pure call l cs s
open Classical in
noncomputable def qpY (pure:Nat→Bool) (call:CallT) (l:List Step) (cs:List (Nat × Nat × Nat)) (s:St) (r:Option (Tmps × List Heap × Heap)):Option (AExit × St) :=
 match r with
 | some (tm,hs,h)=>if qeG l tm hs cs then some (.normal,⟨tm,h⟩) else qnA pure call l cs s
 | none=>qnA pure call l cs s
theorem qpZ (pure:Nat→Bool) (call:CallT) (l:List Step) (cs:List (Nat × Nat × Nat)) (s:St):qfD pure call l cs s=qpY pure call l cs s (qcA pure call l s.tm [] s.h):=by
 unfold qpY
 split
 ·rename_i tm hs h hr
  split
  ·rename_i hc
   exact qtl hr hc
  ·rfl
 ·rfl
open Classical in
theorem qlA (pure:Nat→Bool) (call:CallT) (l:List Step) (cs:List (Nat × Nat × Nat)) (s:St) (tm:Tmps) (hs:List Heap) (h:Heap) :
  qpY pure call l cs s (some (tm,hs,h))=if qeG l tm hs cs then some (.normal,⟨tm,h⟩) else qnA pure call l cs s:=rfl
theorem qon (pure:Nat→Bool) (call:CallT) (tm:Tmps) (hs:List Heap) (h:Heap):qcA pure call [] tm hs h=some (tm,hs++[h],h):=rfl
theorem qma (pure:Nat→Bool) (call:CallT) (d:Option Nat) (g:Option (Option Nat × Bool)) (o:AOp) (r:List Step) (tm:Tmps) (hs:List Heap) (h:Heap) :
  qcA pure call (⟨d,g,o⟩::r) tm hs h=match qag g tm with
   | some true=>(match aOp pure call o tm h with | some (.val v,h')=>qcA pure call r (upd tm d v) (if qbc o=true then hs++[h] else hs) h' | _=>none)
   | some false=>qcA pure call r (upd tm d (.tuple [])) (if qbc o=true then hs++[h] else hs) h
   | none=>none:=rfl
theorem qnX {h:Heap} {v:AVal} (hv:qap (wipeR v)=true):qex h v=wipeR v:=if_pos hv
theorem qna {pure:Nat→Bool} {call:CallT} {f:Nat} {args:List AVal} {h:Heap} (hd:qaq (args.map wipe)=false):qbI pure call f args h=qhu call f args h:=by
 unfold qbI
 rw[if_neg (by rw[hd];exact fun hx=>by cases hx.2)]
noncomputable def pcall (L:Lib) (f:Nat) (args:List AVal) (h:Heap):Option (ARes × Heap) :=
 match call L f args [] with
 | some (.val v,h2)=>if qap (qex h2 v)=true then some (.val (qex h2 v),h) else none
 | some (.panic v,h2)=>if qap (qex h2 v)=true then some (.panic (qex h2 v),h) else none
 | none=>none
theorem qar (L:Lib) (hp:∀ f,L.pure f=true) (f:Nat) (args:List AVal) (h:Heap) :
  qbI L.pure (call L) f args h=if qaq (args.map wipe)=true then pcall L f (args.map wipe) h else qhu (call L) f args h:=by
 unfold qbI pcall
 by_cases hd:qaq (args.map wipe)=true
 ·rw[if_pos ⟨hp f,hd⟩,if_pos hd]
  cases call L f (args.map wipe) [] with
  | none=>rfl
  | some x=>obtain⟨v,h'⟩:=x;cases v<;>rfl
 ·rw[if_neg (fun hx=>hd hx.2),if_neg hd]
theorem qst {L:Lib} {f:Nat} {fn:AFn} {args:List AVal} {v:AVal} (h':Heap) (hs:L.summ f=none) (hf:L.fns f=some fn)
  (hr:qaw fn.results (qaG L.pure (call L) fn.body ⟨qes args,[]⟩)=some (.val v,h')) (hv:qap (wipeR v)=true) (h:Heap):pcall L f args h=some (.val (wipeR v),h):=by
 unfold pcall
 rw[qfL hs hf hr]
 dsimp only
 rw[qnX hv,if_pos hv]
theorem qct {L:Lib} {f:Nat} {args:List AVal} {v u:AVal} {h':Heap} (hr:call L f args []=some (.val v,h')) (hu:qex h' v=u) (hd:qap u=true) (h:Heap):pcall L f args h=some (.val u,h):=by
 unfold pcall
 rw[hr]
 dsimp only
 rw[hu,if_pos hd]
theorem qnr {h:Heap} {v u:AVal} (hp:qfT u=true) (hd:qex h v=u):v=u:=by
 unfold qex at hd
 split at hd
 ·cases v<;>simp only[wipeR,wipe,wipeCell] at hd<;>subst hd<;>first | rfl | (simp[qfT] at hp)
 ·rename_i hn
  exfalso
  unfold viewV at hd
  rw[qaS] at hd
  split at hd
  ·rename_i hdd
   exact hn (by cases v<;>simp only[wipeR,wipe,wipeCell] at hd ⊢ <;> first | (subst hd;first | rfl | (simp[qfT] at hp;done)) | (exfalso;revert hp;rw[← hd];simp[qfT]))
  ·unfold qcf at hd
   cases v<;>(try dsimp only at hd)<;>(repeat' (first | (simp only[wipeR,wipe,wipeCell] at hd;subst hd;simp[qfT] at hp;done) | split at hd))
def kt:List Nat→List AVal→Tmps
 | k::ks,v::vs,t=>if t=k then v else kt ks vs t
 | _,_,_=>.junk
theorem qng (k:Nat) (ks:List Nat) (v:AVal) (vs:List AVal) (t:Nat):kt (k::ks) (v::vs) t=if t=k then v else kt ks vs t:=rfl
theorem qsU (ks:List Nat) (t:Nat):kt ks [] t=.junk:=by cases ks<;>rfl
theorem qqp (g:Nat→AVal):∀ (keep:List Nat),kt keep (keep.map g)=fun t=>if t∈keep then g t else .junk
 | []=>by funext t;simp[kt]
 | k :: ks => by
   funext t
   rw[List.map_cons,qng,qqp g ks]
   by_cases h:t=k<;>simp[h]
theorem qjV:qjU []=false:=rfl
theorem qiA (k:Nat) (ks:List Nat):qjU (k::ks)=decide (k=1000000):=rfl
theorem quV (b:Nat) (keep:List Nat) (tm:Tmps) (h:Heap):gc b keep ⟨tm,h⟩ =
  if qjU keep=true then ⟨kt (keep.drop 1) ((keep.drop 1).map tm),h⟩
  else if b≤h.length then ⟨kt keep (keep.map fun t=>ren (qdM b (qfr b keep ⟨tm,h⟩)) (tm t)),
   (h.take b).map (qdF (qdM b (qfr b keep ⟨tm,h⟩)))++(qfr b keep ⟨tm,h⟩).map fun id=>qdF (qdM b (qfr b keep ⟨tm,h⟩)) ((h[id]?).getD .gone)⟩ else ⟨tm,h⟩:=by
 unfold gc gc1 qvN
 rw[qqp,qqp]
theorem qn5 (b:Nat) (keep:List Nat) (tm:Tmps) (h:Heap):qfr b keep ⟨tm,h⟩=qbV b (keep.flatMap (fun t=>qaN (tm t))++(h.take b).flatMap qi9) []:=rfl
section
variable (pure:Nat→Bool) (call:CallT)
theorem qlw (s:St):qaG pure call .skip s=some (.normal,s):=rfl
theorem qnT (l:List Step) (s:St):qaG pure call (.ops l) s=qbT pure call l s:=rfl
theorem qlv (l:List Step) (s:St):qaG pure call (.kops l) s=qdo pure call l s:=rfl
theorem qlt (l:List Step) (cs:List (Nat × Nat × Nat)) (s:St):qaG pure call (.draw l cs) s=qfD pure call l cs s:=rfl
theorem qnV (a b:ACode) (s:St):qaG pure call (.seq a b) s=match qaG pure call a s with | some (.normal,s')=>qaG pure call b s' | r=>r:=rfl
theorem qls (c:Opd) (a b:ACode) (s:St):qaG pure call (.cond c a b) s=match opd s.tm c with | .bool t=>if t then qaG pure call a s else qaG pure call b s | _=>none:=rfl
theorem qjF (id:Nat) (c:ACode) (s:St):qaG pure call (.block id c) s=match qaG pure call c s with | some (.exit id',s')=>if id'=id then some (.normal,s') else some (.exit id',s') | r=>r:=rfl
theorem qfv (k:List Nat) (a b:ACode) (s:St):qaG pure call (.frame k (.seq a b)) s=(qaG pure call (.seq a b) s).map (gcE s.h.length k):=rfl
theorem qie (t:Nat) (c:ACode) (s:St):qaG pure call (.freeze t c) s=qaG pure call c (qee t s):=rfl
theorem qlx (c:ACode) (s:St):qaG pure call (.view c) s=qaG pure call c (qnC s):=rfl
theorem qlu (id:Nat) (s:St):qaG pure call (.exit id) s=some (.exit id,s):=rfl
theorem qnU (s:St):qaG pure call .ret s=some (.ret,s):=rfl
end
def qcG (b:Nat):Nat→Option (Option Nat)
 | 0=>some none
 | _+1=>some (some b)
def qbk (sz:Nat):Nat→Heap
 | 0=>[]
 | n+1=>[.tail (n+1) sz]
theorem qbv (b:Nat):qcG b 0=some none:=rfl
theorem qdV (b n:Nat):qcG b (n+1)=some (some b):=rfl
theorem qbp (sz:Nat):qbk sz 0=[]:=rfl
theorem qdm (sz n:Nat):qbk sz (n+1)=[.tail (n+1) sz]:=rfl
theorem qb3 {b n:Nat} (h:0<n):qcG b n=some (some b):=by cases n with | zero=>omega | succ n=>rfl
theorem qbG {sz n:Nat} (h:0<n):qbk sz n=[.tail n sz]:=by cases n with | zero=>omega | succ n=>rfl
theorem qdW (b sz n:Nat):(qcG b n=some none∧qbk sz n=[])∨(qcG b n=some (some b)∧qbk sz n=[.tail n sz]):=by
 cases n with
 | zero=>exact .inl ⟨rfl,rfl⟩
 | succ n=>exact .inr ⟨rfl,rfl⟩
def qvR (id sz:Nat) (cs:List AVal) (tm:Tmps):Tmps:=fun i=>frz id sz cs (tm i)
theorem qqc (id sz:Nat) (cs:List AVal) (tm:Tmps) (i:Nat):qvR id sz cs tm i=frz id sz cs (tm i):=rfl
theorem qn4 (id sz:Nat) (cs:List AVal) (tm:Tmps) (h:Heap):qhs id sz cs ⟨tm,h⟩=if qaq cs=true∧cs.all leaf=true then ⟨qvR id sz cs tm,(h.set id .gone).map (qhH id sz cs)⟩ else ⟨tm,h⟩:=rfl
theorem qjN (t:Nat) (tm:Tmps) (h:Heap):qee t ⟨tm,h⟩=match tm t with
 | .ptr (some (id,0))=>(match h[id]? with | some (.box cs)=>qhs id 0 (cs.map wipeCell) ⟨tm,h⟩ | _=>⟨tm,h⟩)
 | .vec id _=>(match h[id]? with | some (.vec cs sz)=>qhs id sz (cs.map wipeCell) ⟨tm,h⟩ | _=>⟨tm,h⟩)
 | _=>⟨tm,h⟩:=rfl
theorem qlI:qi9 .gone=[]:=rfl
theorem qn7 (cs:List AVal):qi9 (.box cs)=cs.flatMap qaN:=rfl
theorem qlK (n sz:Nat):qi9 (.tail n sz)=[]:=rfl
theorem qlJ:qi9 (.map [])=[]:=rfl
theorem qmo (ρ:Nat→Option Nat):qdF ρ .gone=.gone:=rfl
theorem qou (ρ:Nat→Option Nat) (cs:List AVal):qdF ρ (.box cs)=.box (cs.map (ren ρ)):=rfl
theorem qmq (ρ:Nat→Option Nat) (n sz:Nat):qdF ρ (.tail n sz)=.tail n sz:=rfl
theorem qmp (ρ:Nat→Option Nat):qdF ρ (.map [])=.map []:=rfl
theorem qkQ (call:CallT) (f:Nat) (args:List AVal) (h:Heap):qhu call f args h=if (qbf args h).all (fun i=>decide (i<h.length))=true then
  match call f (args.map (ren fun i=>qan i (qbf args h) 0)) (qcb (qbf args h) h) with
  | some (r,h2)=>some (qm0 (qbf args h) (ql7 (qbf args h).length r h2) h.length r,qdE (qbf args h) (ql7 (qbf args h).length r h2) h h2)
  | none=>none
 else none:=rfl
theorem qiJ (k:Nat) (v:AVal) (h2:Heap):ql7 k (.val v) h2=qbV k (qaN v++(h2.take k).flatMap qi9) []:=rfl
theorem qjy (l nl:List Nat) (n j:Nat):qbC l nl n j=if j<l.length then l[j]? else (qan j nl 0).map (n+·):=rfl
theorem qgS (args:List AVal) (h:Heap):qbf args h=grow h (grow h (grow h (qbV 0 (args.flatMap qaN) []))):=rfl
theorem qne (h:Heap) (l:List Nat):grow h l=qbV 0 (l.flatMap fun i=>qi9 ((h[i]?).getD .gone)) l:=rfl
theorem qgW (l:List Nat) (h:Heap):qcb l h=l.map fun i=>qdF (fun i=>qan i l 0) ((h[i]?).getD .gone):=rfl
def pb (l nl:List Nat) (n:Nat) (h2:Heap):Heap→Nat→Heap
 | [],_=>[]
 | o::os,i=>(match qan i l 0 with | some j=>qdF (qbC l nl n) ((h2[j]?).getD .gone) | none=>o)::pb l nl n h2 os (i+1)
theorem qsY (l nl:List Nat) (n:Nat) (h2:Heap) (i:Nat):pb l nl n h2 [] i=[]:=rfl
theorem qiP (l nl:List Nat) (n:Nat) (h2:Heap) (o:AObj) (os:Heap) (i:Nat):pb l nl n h2 (o::os) i=(match qan i l 0 with | some j=>qdF (qbC l nl n) ((h2[j]?).getD .gone) | none=>o)::pb l nl n h2 os (i+1):=rfl
theorem qiQ (l nl:List Nat) (n:Nat) (h2:Heap):∀ (h:Heap) (k:Nat),(pb l nl n h2 h k).length=h.length
 | [],k=>rfl
 | o::os,k=>by rw[qiP,List.length_cons,List.length_cons,qiQ l nl n h2 os]
theorem qqK (l nl:List Nat) (n:Nat) (h2:Heap):∀ (h:Heap) (k i:Nat) (o:AObj),h[i]? = some o→(pb l nl n h2 h k)[i]? = some (match qan (k+i) l 0 with | some j=>qdF (qbC l nl n) ((h2[j]?).getD .gone) | none=>o)
 | [],k,i,o,e=>by simp at e
 | x :: os,k,0,o,e => by
   simp at e
   subst e
   rw[qiP,List.getElem?_cons_zero,Nat.add_zero]
 | x :: os,k,i + 1,o,e => by
   rw[qiP,List.getElem?_cons_succ,qqK l nl n h2 os (k+1) i o (by simpa using e)]
   rw[show k+1+i=k+(i+1) by omega]
theorem qgR (l nl:List Nat) (h h2:Heap):qdE l nl h h2=pb l nl h.length h2 h 0++nl.map fun j=>qdF (qbC l nl h.length) ((h2[j]?).getD .gone):=by
 unfold qdE
 congr 1
 refine List.ext_getElem? fun i=>?_
 by_cases hi:i<h.length
 ·rw[qqK l nl _ h2 h 0 i h[i] (List.getElem?_eq_getElem hi),Nat.zero_add]
  rw[List.getElem?_map,List.getElem?_range hi]
  simp only[Option.map_some,List.getElem?_eq_getElem hi,Option.getD_some]
  cases qan i l 0<;>rfl
 ·rw[List.getElem?_eq_none (by simp;omega),List.getElem?_eq_none (by rw[qiQ];omega)]
theorem qfF (l nl:List Nat) (n:Nat) (v:AVal):qm0 l nl n (.val v)=.val (ren (qbC l nl n) v):=rfl
theorem qjr (cs:List AVal):acells (.agg cs)=cs:=rfl
theorem qmU (b:Bool):acells (.bool b)=[.bool b]:=rfl
theorem qjs (k:IntKind) (n:Int):acells (.int k n)=[.int k n]:=rfl
theorem qoF (b:ByteArray):acells (.str b)=[.str b]:=rfl
theorem qhV (xs:List AVal) (o:Option (Option Nat)):acells (.list xs o)=[.list xs o]:=rfl
theorem qju (a:Option (Nat × Nat)):acells (.ptr a)=[.ptr a]:=rfl
theorem qhX (cs:List AVal) (n:Nat):acells (.vptr cs n)=[.vptr cs n]:=rfl
theorem qjt (a:Option Nat):acells (.map a)=[.map a]:=rfl
theorem qhU (f:Nat) (a b:List AVal):acells (.func f a b)=[.func f a b]:=rfl
theorem qoE (a b c:Nat):acells (.ref a b c)=[.ref a b c]:=rfl
theorem qle (cs:List AVal):acells (.tuple cs)=[.tuple cs]:=rfl
theorem ql5:qeh=1073741824:=rfl
theorem qlj {α:Type} (p:α→Prop) (a:α) (l:List α):(∀ x∈a::l,p x)↔p a∧∀ x∈l,p x:=List.forall_mem_cons
theorem qmW {α:Type} (p:α→Prop):(∀ x∈([]:List α),p x)↔True:=by simp
theorem qg5 (l:List Step) (tm:Tmps) (hs:List Heap) (c:Nat × Nat × Nat) (cs:List (Nat × Nat × Nat)):qeG l tm hs (c::cs)=(qlq l tm hs c.1 c.2.1 c.2.2∧qeG l tm hs cs):=rfl
theorem qh9 (l:List Step) (tm:Tmps) (hs:List Heap):qeG l tm hs []=True:=rfl
theorem qlr (l:List Step) (tm:Tmps) (hs:List Heap) (i lo hi:Nat):qlq l tm hs i lo hi=match l[i]? with
 | some ⟨some d,g,o⟩=>qag g tm=some true→∀ h∈(hs.drop lo).take (hi+1-lo),aOp (fun _=>false) qdS o tm h=some (.val (tm d),h)
 | _=>True:=rfl
theorem qvz:(true==true)=true:=rfl
theorem quM:(true==false)=false:=rfl
theorem quL:(false==true)=false:=rfl
theorem qvy:(false==false)=true:=rfl
theorem qoz (cs:List AVal):wipe (.agg cs)=.agg (cs.map wipeCell):=rfl
theorem qmR (xs:List AVal) (o:Option (Option Nat)):wipe (.list xs o)=.list xs none:=rfl
theorem qmP (b:Bool):wipe (.bool b)=.bool b:=rfl
theorem qoA (k:IntKind) (n:Int):wipe (.int k n)=.int k n:=rfl
theorem qsK (b:ByteArray):wipe (.str b)=.str b:=rfl
theorem qi7 (cs:List AVal):wipeR (.tuple cs)=.tuple (cs.map wipe):=rfl
theorem qmN (cs:List AVal):wipeR (.agg cs)=.agg (cs.map wipeCell):=rfl
theorem qkl (xs:List AVal) (o:Option (Option Nat)):wipeR (.list xs o)=.list xs none:=rfl
theorem qkk (b:Bool):wipeR (.bool b)=.bool b:=rfl
theorem qmO (k:IntKind) (n:Int):wipeR (.int k n)=.int k n:=rfl
theorem qrp (b:ByteArray):wipeR (.str b)=.str b:=rfl
theorem qoC (a:Option (Nat × Nat)):wipe (.ptr a)=.ptr a:=rfl
theorem qgy (cs:List AVal) (n:Nat):wipe (.vptr cs n)=.vptr cs n:=rfl
theorem qoB (a:Option Nat):wipe (.map a)=.map a:=rfl
theorem qmQ (f:Nat) (a b:List AVal):wipe (.func f a b)=.func f a b:=rfl
theorem qsJ (a b c:Nat):wipe (.ref a b c)=.ref a b c:=rfl
theorem qkj (xs:List AVal) (o:Option (Option Nat)):wipeCell (.list xs o)=.list xs none:=rfl
theorem qpt (b:Bool):wipeCell (.bool b)=.bool b:=rfl
theorem qmM (k:IntKind) (n:Int):wipeCell (.int k n)=.int k n:=rfl
theorem qro (b:ByteArray):wipeCell (.str b)=.str b:=rfl
theorem qa8 (xs:List AVal):qap (.list xs none)=qaq xs:=by simp[qap]
theorem qeu (xs:List AVal):qap (.list xs (some none))=qaq xs:=by simp[qap]
theorem qev (xs:List AVal) (i:Nat):qap (.list xs (some (some i)))=false:=by simp[qap]
theorem qiv (b:Bool):qap (.bool b)=true:=rfl
theorem qgM (k:IntKind) (n:Int):qap (.int k n)=true:=rfl
theorem qo0 (b:ByteArray):qap (.str b)=true:=rfl
theorem qjR (cs:List AVal):qap (.agg cs)=qaq cs:=rfl
theorem qeP (cs:List AVal):qap (.tuple cs)=qaq cs:=rfl
theorem qiw (f:Nat) (a b:List AVal):qap (.func f a b)=(qaq a && qaq b):=rfl
theorem qiy (cs:List AVal) (n:Nat):qap (.vptr cs n)=qaq cs:=rfl
theorem qjT (a:Nat × Nat):qap (.ptr (some a))=false:=rfl
theorem qjS (a:Nat):qap (.map (some a))=false:=rfl
theorem qix:qap .junk=true:=rfl
theorem qfS:qaq []=true:=rfl
theorem qeO (v:AVal) (vs:List AVal):qaq (v::vs)=(qap v && qaq vs):=rfl
theorem qfA (a b:List AVal):qaq (a++b)=(qaq a && qaq b):=by
 induction a with
 | nil=>rfl
 | cons x xs ih=>rw[List.cons_append,qaq,qaq,ih,Bool.and_assoc]
theorem qeg {α:Type} (f:α→AVal) (h:∀ a,qap (f a)=true) (l:List α):qaq (l.map f)=true:=by
 induction l with
 | nil=>rfl
 | cons x xs ih=>rw[List.map_cons,qaq,h,ih];rfl
theorem all_map {α:Type} (f:α→AVal) (n:Nat) (h:∀ a,(acells (f a)).length=n) (l:List α):((l.map f).all fun v=>decide ((acells v).length=n))=true:=by
 rw[List.all_eq_true]
 intro x hx
 obtain⟨a,_,rfl⟩:=List.mem_map.1 hx
 simp[h a]
theorem qj2 (n:Nat) (acc:List Nat):qbV n [] acc=acc:=rfl
theorem qiI (n i:Nat) (is acc:List Nat):qbV n (i::is) acc=qbV n is (if n≤i∧i∉acc then acc++[i] else acc):=rfl
theorem qn6 (n:Nat) (l:List Nat) (i:Nat):qdM n l i=if i<n then some i else qan i l n:=rfl
noncomputable def qbe (pure:Nat→Bool) (call:CallT) (b:Nat) (keep fk:List Nat) (body:ACode) (s:St):Option (AExit × St) :=
 match qaG pure call body s with
 | some (.normal,s')=>some (.normal,gc b keep s')
 | some (e,s')=>some (gcE b fk (e,s'))
 | none=>none
theorem qmr (pure:Nat→Bool) (call:CallT) (b:Nat) (keep fk:List Nat) (body:ACode) (s:St):qbe pure call b keep fk body s=match qaG pure call body s with
 | some (.normal,s')=>some (.normal,gc b keep s')
 | some (e,s')=>some (gcE b fk (e,s'))
 | none=>none:=rfl
noncomputable def qbd (pure:Nat→Bool) (call:CallT) (b:Nat) (keep fk:List Nat) (id:Nat) (body:ACode) (s:St):Option (AExit × St) :=
 (match (match qaG pure call body s with
   | some (.normal,s')=>qiE (fun s1=>qaG pure call body (gc b keep s1)) s'
   | r=>r) with
  | some (.exit id',s')=>if id'=id then some (AExit.normal,s') else some (AExit.exit id',s')
  | r=>r).map (gcE b fk)
theorem qjG (pure:Nat→Bool) (call:CallT) (keep fk:List Nat) (id:Nat) (body:ACode) (tm:Tmps) (h:Heap) :
  qaG pure call (.frame fk (.block id (.gloop keep body))) ⟨tm,h⟩=qbd pure call h.length keep fk id body (gc h.length keep ⟨tm,h⟩):=by
 unfold qbd
 simp only[qaG]
 rw[qoj]
 rfl
section
variable {pure:Nat→Bool} {call:CallT} {b:Nat} {keep fk:List Nat} {id:Nat} {body:ACode}
theorem qfm {s s1:St} (h:qbe pure call b keep fk body s=some (.normal,s1)):qbd pure call b keep fk id body s=qbd pure call b keep fk id body s1:=by
 unfold qbe at h
 unfold qbd
 cases hx:qaG pure call body s with
 | none=>rw[hx] at h;cases h
 | some x =>
   obtain⟨e,s'⟩:=x
   rw[hx] at h
   cases e with
   | normal =>
     simp only[Option.some.injEq,Prod.mk.injEq,true_and] at h
     dsimp only
     rw[qoj,h]
     rfl
   | panic v=>simp[gcE] at h
   | exit i=>simp[gcE] at h
   | ret=>simp[gcE] at h
theorem qfl {s s1:St} (h:qbe pure call b keep fk body s=some (.exit id,s1)):qbd pure call b keep fk id body s=some (.normal,s1):=by
 unfold qbe at h
 unfold qbd
 cases hx:qaG pure call body s with
 | none=>rw[hx] at h;cases h
 | some x =>
   obtain⟨e,s'⟩:=x
   rw[hx] at h
   cases e with
   | normal=>simp at h
   | panic v=>simp[gcE] at h
   | exit i =>
     simp only[gcE,Option.some.injEq,Prod.mk.injEq,AExit.exit.injEq] at h
     obtain⟨rfl,rfl⟩:=h
     simp[gcE]
   | ret=>simp[gcE] at h
theorem ql2 {s s1:St} (h:qbe pure call b keep fk body s=some (.ret,s1)):qbd pure call b keep fk id body s=some (.ret,s1):=by
 unfold qbe at h
 unfold qbd
 cases hx:qaG pure call body s with
 | none=>rw[hx] at h;cases h
 | some x =>
   obtain⟨e,s'⟩:=x
   rw[hx] at h
   cases e with
   | normal=>simp at h
   | panic v=>simp[gcE] at h
   | exit i=>simp[gcE] at h
   | ret =>
     simp only[gcE,Option.some.injEq,Prod.mk.injEq,true_and] at h
     subst h
     rfl
def qbx:List Int→Int
 | []=>0
 | e::es=>if e=0 then qbx es else e
def qaF {α β:Type} (g:Nat→α→Option β):List α→Nat→Option β
 | [],_=>none
 | x::xs,i=>match g i x with | some r=>some r | none=>qaF g xs (i+1)
theorem qiG (C:Nat→St) (n:Nat) {T:St} (hstep:∀ i,i<n→qbe pure call b keep fk body (C i)=some (.normal,C (i+1)))
  (hend:qbe pure call b keep fk body (C n)=some (.exit id,T)):qbd pure call b keep fk id body (C 0)=some (.normal,T):=by
 have key:∀ k i,i+k=n→qbd pure call b keep fk id body (C i)=some (.normal,T):=by
  intro k
  induction k with
  | zero=>intro i hi;rw[Nat.add_zero] at hi;subst hi;exact qfl hend
  | succ k ih=>intro i hi;rw[qfm (hstep i (by omega))];exact ih (i+1) (by omega)
 exact key n 0 (by omega)
def qbr {β:Type} (R:β→St) (T:St):Option β→AExit × St
 | some r=>(.ret,R r)
 | none=>(.normal,T)
theorem qeR (C:Nat→St) (n:Nat) (Q:Nat→Option (AExit × St)) {T:St}
  (hstep:∀ i,i<n→(qbe pure call b keep fk body (C i)=some (.normal,C (i+1))∧Q i=Q (i+1))∨∃ s',qbe pure call b keep fk body (C i)=some (.ret,s')∧Q i=some (.ret,s'))
  (hend:qbe pure call b keep fk body (C n)=some (.exit id,T)) (hQ:Q n=some (.normal,T)):qbd pure call b keep fk id body (C 0)=Q 0:=by
 have key:∀ k i,i+k=n→qbd pure call b keep fk id body (C i)=Q i:=by
  intro k
  induction k with
  | zero=>intro i hi;rw[Nat.add_zero] at hi;subst hi;rw[qfl hend,hQ]
  | succ k ih =>
    intro i hi
    rcases hstep i (by omega) with ⟨h1,h2⟩ | ⟨s',h1,h2⟩
    ·rw[qfm h1,h2];exact ih (i+1) (by omega)
    ·rw[ql2 h1,h2]
 exact key n 0 (by omega)
theorem qqv {α:Type} (xs:List α) (g:α→Int) (C:Nat→St) (T:St) (R:Int→St)
  (h0:∀ (i:Nat) (hi:i<xs.length),g xs[i]=0→qbe pure call b keep fk body (C i)=some (.normal,C (i+1)))
  (h1:∀ (i:Nat) (hi:i<xs.length),g xs[i]≠0→qbe pure call b keep fk body (C i)=some (.ret,R (g xs[i])))
  (hend:qbe pure call b keep fk body (C xs.length)=some (.exit id,T)) :
  qbd pure call b keep fk id body (C 0)=some (if qbx (xs.map g)=0 then (.normal,T) else (.ret,R (qbx (xs.map g)))):=by
 refine qeR C xs.length (fun i=>some (if qbx ((xs.drop i).map g)=0 then (.normal,T) else (.ret,R (qbx ((xs.drop i).map g))))) ?_ hend (by simp[qbx])
 intro i hi
 have hdrop:xs.drop i=xs[i]::xs.drop (i+1):=List.drop_eq_getElem_cons hi
 rw[hdrop]
 simp only[List.map_cons,qbx]
 by_cases he:g xs[i]=0
 ·left
  rw[if_pos he]
  exact⟨h0 i hi he,rfl⟩
 ·right
  rw[if_neg he,if_neg he]
  exact⟨_,h1 i hi he,rfl⟩
theorem qiF {α:Type} (xs:List α) (p:α→Bool) (C:Nat→St) (T R:St)
  (h0:∀ (i:Nat) (hi:i<xs.length),p xs[i]=false→qbe pure call b keep fk body (C i)=some (.normal,C (i+1)))
  (h1:∀ (i:Nat) (hi:i<xs.length),p xs[i]=true→qbe pure call b keep fk body (C i)=some (.ret,R))
  (hend:qbe pure call b keep fk body (C xs.length)=some (.exit id,T)) :
  qbd pure call b keep fk id body (C 0)=some (if xs.any p=true then (.ret,R) else (.normal,T)):=by
 refine qeR C xs.length (fun i=>some (if (xs.drop i).any p=true then (.ret,R) else (.normal,T))) ?_ hend (by simp)
 intro i hi
 have hdrop:xs.drop i=xs[i]::xs.drop (i+1):=List.drop_eq_getElem_cons hi
 rw[hdrop]
 simp only[List.any_cons]
 by_cases he:p xs[i]=true
 ·right
  simp only[he,Bool.true_or,if_true]
  exact⟨_,h1 i hi he,rfl⟩
 ·left
  have he':p xs[i]=false:=by simpa using he
  simp only[he',Bool.false_or,and_true]
  exact h0 i hi he'
theorem qcF {α β:Type} (xs:List α) (g:Nat→α→Option β) (C:Nat→St) (T:St) (R:β→St)
  (h0:∀ (i:Nat) (hi:i<xs.length),g i xs[i]=none→qbe pure call b keep fk body (C i)=some (.normal,C (i+1)))
  (h1:∀ (i:Nat) (hi:i<xs.length) (r:β),g i xs[i]=some r→qbe pure call b keep fk body (C i)=some (.ret,R r))
  (hend:qbe pure call b keep fk body (C xs.length)=some (.exit id,T)) :
  qbd pure call b keep fk id body (C 0)=some (qbr R T (qaF g xs 0)):=by
 refine qeR C xs.length (fun i=>some (qbr R T (qaF g (xs.drop i) i))) ?_ hend (by simp[qaF,qbr])
 intro i hi
 have hdrop:xs.drop i=xs[i]::xs.drop (i+1):=List.drop_eq_getElem_cons hi
 rw[hdrop]
 simp only[qaF]
 cases he:g i xs[i] with
 | none =>
   left
   simp only[and_true]
   exact h0 i hi he
 | some r =>
   right
   exact⟨_,h1 i hi r he,rfl⟩
end
theorem qcz {n:Int} (h1 : -2 ^ 63≤n) (h2:n<2 ^ 63):IntKind.i64.wrap n=n:=by
 have h:IntKind.i64.wrap n=(if (true && decide (n % 2 ^ 64≥2 ^ (64-1)))=true then n % 2 ^ 64-2 ^ 64 else n % 2 ^ 64):=rfl
 rw[h]
 by_cases hc:n % 2 ^ 64≥2 ^ (64-1)
 ·rw[if_pos (by simp only[Bool.true_and,decide_eq_true_eq];exact hc)]
  omega
 ·rw[if_neg (by simp only[Bool.true_and,decide_eq_true_eq];exact hc)]
  omega
set_option linter.defProp false in
def ev_:=And.intro @qlw <| And.intro @qnT <| And.intro @qlv <| And.intro @qoo <| And.intro @qmb <| And.intro @qom <| And.intro @ql9 <| And.intro @qlt <| And.intro @qnV <| And.intro @qls <| And.intro @qjF <| And.intro @qlu <| And.intro @qnU <| And.intro @qop <| And.intro @qj5 <| And.intro @qqH <| And.intro @qs3 <| And.intro @qoy <| And.intro @qlP <| And.intro @qng <| And.intro @qjr <| And.intro @qjs <| And.intro @qhV <| And.intro @qju <| And.intro @qhX <| And.intro @qjt <| And.intro @qhU <| And.intro @qjG <| And.intro @quV <| And.intro @qjV <| And.intro @qiA <| And.intro @qn5 <| And.intro @qj2 <| And.intro @qiI <| And.intro @qn6 <| And.intro @qmo <| And.intro @qou <| And.intro @qmq <| And.intro @qmp <| And.intro @qlI <| And.intro @qn7 <| And.intro @qlK <| And.intro @qlJ <| And.intro @qpZ <| And.intro @qon <| And.intro @qma <| And.intro @qoz <| And.intro @qmR <| And.intro @qmP <| And.intro @qoA <| And.intro @qi7 <| And.intro @qmN <| And.intro @qkl <| And.intro @qkk <| And.intro @qmO <| And.intro @qoC <| And.intro @qgy <| And.intro @qoB <| And.intro @qmQ <| And.intro @qkj <| And.intro @qmM <| And.intro @qa8 <| And.intro @qeu <| And.intro @qev <| And.intro @qiv <| And.intro @qgM <| And.intro @qjR <| And.intro @qeP <| And.intro @qiw <| And.intro @qiy <| And.intro @qjT <| And.intro @qjS <| And.intro @qix <| And.intro @qfS <| And.intro @qeO <| And.intro @qfA <| And.intro @quM <| And.intro @quL <| And.intro @beq_self_eq_true.{0} <| And.intro @Option.map_some.{0,0} <| And.intro @Option.map_none.{0,0} <| And.intro @Option.getD_some.{0} <| And.intro @Option.getD_none.{0} <| And.intro @List.map_cons.{0,0} <| And.intro @List.map_nil.{0,0} <| And.intro @List.flatMap_cons.{0,0} <| And.intro @List.flatMap_nil.{0,0} <| And.intro @List.length_cons.{0} <| And.intro @List.length_nil.{0} <| And.intro @List.length_append.{0} <| And.intro @List.length_map.{0,0} <| And.intro @List.cons_append.{0} <| And.intro @List.nil_append.{0} <| And.intro @List.append_nil.{0} <| And.intro @List.append_assoc.{0} <| And.intro @List.getElem?_nil.{0} <| And.intro @List.getElem?_cons_zero.{0} <| And.intro @List.getElem?_cons_succ.{0} <| And.intro @List.set_cons_zero.{0} <| And.intro @List.set_cons_succ.{0} <| And.intro @List.take_succ_cons.{0} <| And.intro @List.take_zero.{0} <| And.intro @List.drop_succ_cons.{0} <| And.intro @List.drop_zero.{0} <| And.intro @List.take_nil.{0} <| And.intro @List.drop_nil.{0} <| And.intro @List.all_cons.{0} <| And.intro @List.all_nil.{0} <| And.intro @List.mem_cons.{0} <| And.intro @List.not_mem_nil.{0} <| And.intro @Bool.and_true <| And.intro @Bool.true_and <| And.intro @Bool.and_false <| And.intro @Bool.false_and <| And.intro @Bool.or_true <| And.intro @Bool.true_or <| And.intro @Bool.or_false <| And.intro @Bool.false_or <| And.intro @Bool.not_true <| And.intro @Bool.not_false <| And.intro @Bool.false_eq_true <| And.intro @Bool.true_eq_false <| And.intro @and_true <| And.intro @true_and <| And.intro @and_false <| And.intro @false_and <| And.intro @or_true <| And.intro @or_false <| And.intro @not_true_eq_false <| And.intro @not_false_eq_true <| And.intro @decide_true <| And.intro @decide_false <| And.intro @and_self <| And.intro @Nat.le_refl <| And.intro @Nat.zero_le <| And.intro @Nat.add_zero <| And.intro @Nat.zero_add <| And.intro @Int.toNat_natCast <| And.intro @Int.natCast_nonneg <| And.intro @List.cons_ne_nil.{0} <| And.intro @qmr <| And.intro @ql5 <| And.intro @qg5 <| And.intro @qh9 <| And.intro @qlr <| And.intro @qlA <| And.intro @List.map_append.{0,0} <| And.intro @qsU <| And.intro @Int.cast_ofNat_Int <| And.intro @qie <| And.intro @qlx <| And.intro @qjN <| And.intro @qn4 <| And.intro @qqc <| And.intro @Option.isSome_some.{0} <| And.intro @Option.isSome_none.{0} <| And.intro @qfv <| And.intro @qkQ <| And.intro @qgS <| And.intro @qne <| And.intro @qgW <| And.intro @qiJ <| And.intro @qjy <| And.intro @qgR <| And.intro @qsY <| And.intro @qiP <| @qfF
end Go.Abs
