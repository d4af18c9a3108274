/-
  Evaluating the abstract machine: the laws by which a simp set steps through code. Conditions: none.
-/
import Derived.Test.YtbmognfolkhkpaaDoorAbsB
set_option linter.unusedVariables false
namespace Go.Abs
theorem qai (tm:Tmps) (d t:Nat) (v:AVal):upd tm (some d) v t=if t=d then v else tm t:=rfl
theorem qa3 (tm:Tmps) (v:AVal):upd tm none v=tm:=rfl
theorem qak (args:List AVal) (i:Nat):qe4 args i=(args[i]?).getD (.tuple []):=rfl
theorem qah (pure:Nat→Bool) (call:CallT) (s:St):qdg pure call [] s=some (.normal,s):=rfl
theorem qac (pure:Nat→Bool) (call:CallT) (d:Option Nat) (o:AOp) (r:List Step) (tm:Tmps) (h:Heap) :
  qdg pure call (⟨d,none,o⟩::r) ⟨tm,h⟩=match aOp pure call o tm h with | some (.val v,h')=>qdg pure call r ⟨upd tm d v,h'⟩ | some (.panic v,h')=>some (.panic v,⟨tm,h'⟩) | none=>none:=rfl
theorem qau (pure:Nat→Bool) (call:CallT) (d:Option Nat) (g:Option Nat × Bool) (o:AOp) (r:List Step) (tm:Tmps) (h:Heap) :
  qdg pure call (⟨d,some g,o⟩::r) ⟨tm,h⟩=match qaw (some g) tm with
   | some true=>(match aOp pure call o tm h with | some (.val v,h')=>qdg pure call r ⟨upd tm d v,h'⟩ | some (.panic v,h')=>some (.panic v,⟨tm,h'⟩) | none=>none)
   | some false=>qdg pure call r ⟨upd tm d (.tuple []),h⟩
   | none=>none:=rfl
theorem qqA (pure:Nat→Bool) (call:CallT) (s:St):qfd pure call [] s=some (.normal,s):=rfl
theorem qom (pure:Nat→Bool) (call:CallT) (d:Option Nat) (o:AOp) (r:List Step) (tm:Tmps) (h:Heap) :
  qfd pure call (⟨d,none,o⟩::r) ⟨tm,h⟩=match qki pure call o tm h with | some (.val v,h')=>qfd pure call r ⟨upd tm d v,h'⟩ | some (.panic v,h')=>some (.panic v,⟨tm,h'⟩) | none=>none:=rfl
theorem qqz (pure:Nat→Bool) (call:CallT) (x:Opd) (tm:Tmps) (h:Heap):qki pure call (.move x) tm h=some (.val (opd tm x),h):=rfl
def qnF (l:List Step) (tm:Tmps) (hs:List Heap) (i lo hi:Nat):Prop :=
 match l[i]? with
 | some ⟨some d,g,o⟩=>qaw g tm=some true→∀ h∈(hs.drop lo).take (hi+1-lo),aOp (fun _=>false) qfC o tm h=some (.val (tm d),h)
 | _=>True
def qgy (l:List Step) (tm:Tmps) (hs:List Heap):List (Nat × Nat × Nat)→Prop
 | []=>True
 | c::cs=>qnF l tm hs c.1 c.2.1 c.2.2∧qgy l tm hs cs
theorem qr2 {l:List Step} {tm:Tmps} {hs:List Heap} {c:Nat × Nat × Nat} (h:qnF l tm hs c.1 c.2.1 c.2.2):qkz l tm hs c:=by
 intro s d h1 h2 h3 k hp hk1 hk2 hk
 unfold qnF at h
 obtain⟨d',g,o⟩:=s
 dsimp only at h2
 subst h2
 rw[h1] at h
 refine h h3 hp ?_
 refine List.mem_of_getElem? (i:=k-c.2.1) ?_
 rw[List.getElem?_take,if_pos (by omega),List.getElem?_drop,show c.2.1+(k-c.2.1)=k by omega]
 exact hk
theorem qlV {l:List Step} {tm:Tmps} {hs:List Heap}:∀ {cs:List (Nat × Nat × Nat)},qgy l tm hs cs→∀ c∈cs,qkz l tm hs c
 | [],_=>by simp
 | c :: cs,h => by
   intro c' hc
   rcases List.mem_cons.1 hc with rfl | hc
   ·exact qr2 h.1
   ·exact qlV h.2 c' hc
theorem qvW {pure:Nat→Bool} {call:CallT} {l:List Step} {cs:List (Nat × Nat × Nat)} {s:St} {tm:Tmps} {hs:List Heap} {h:Heap}
  (hr:qeh pure call l s.tm [] s.h=some (tm,hs,h)) (hc:qgy l tm hs cs):qhK pure call l cs s=some (.normal,⟨tm,h⟩):=by
 unfold qhK
 rw[hr]
 exact if_pos (qlV hc)
noncomputable def qpO (pure:Nat→Bool) (call:CallT) (l:List Step) (cs:List (Nat × Nat × Nat)) (s:St):Option (AExit × St):=qhK pure call l cs s
open Classical in
noncomputable def qsc (pure:Nat→Bool) (call:CallT) (l:List Step) (cs:List (Nat × Nat × Nat)) (s:St) (r:Option (Tmps × List Heap × Heap)):Option (AExit × St) :=
 match r with
 | some (tm,hs,h)=>if qgy l tm hs cs then some (.normal,⟨tm,h⟩) else qpO pure call l cs s
 | none=>qpO pure call l cs s
theorem qa2 (pure:Nat→Bool) (call:CallT) (l:List Step) (cs:List (Nat × Nat × Nat)) (s:St):qhK pure call l cs s=qsc pure call l cs s (qeh pure call l s.tm [] s.h):=by
 unfold qsc
 split
 ·rename_i tm hs h hr
  split
  ·rename_i hc
   exact qvW hr hc
  ·rfl
 ·rfl
open Classical in
theorem qaK (pure:Nat→Bool) (call:CallT) (l:List Step) (cs:List (Nat × Nat × Nat)) (s:St) (tm:Tmps) (hs:List Heap) (h:Heap) :
  qsc pure call l cs s (some (tm,hs,h))=if qgy l tm hs cs then some (.normal,⟨tm,h⟩) else qpO pure call l cs s:=rfl
theorem qaR (pure:Nat→Bool) (call:CallT) (tm:Tmps) (hs:List Heap) (h:Heap):qeh pure call [] tm hs h=some (tm,hs++[h],h):=rfl
theorem qaL (pure:Nat→Bool) (call:CallT) (d:Option Nat) (g:Option (Option Nat × Bool)) (o:AOp) (r:List Step) (tm:Tmps) (hs:List Heap) (h:Heap) :
  qeh pure call (⟨d,g,o⟩::r) tm hs h=match qaw g tm with
   | some true=>(match aOp pure call o tm h with | some (.val v,h')=>qeh pure call r (upd tm d v) (if qa8 o=true then hs++[h] else hs) h' | _=>none)
   | some false=>qeh pure call r (upd tm d (.tuple [])) (if qa8 o=true then hs++[h] else hs) h
   | none=>none:=rfl
theorem qqb {h:Heap} {v:AVal} (hv:qbd (wipeR v)=true):qfU h v=wipeR v:=if_pos hv
noncomputable def pcall (L:Lib) (f:Nat) (args:List AVal) (h:Heap):Option (ARes × Heap) :=
 match call L f args [] with
 | some (.val v,h2)=>if qbd (qfU h2 v)=true then some (.val (qfU h2 v),h) else none
 | some (.panic v,h2)=>if qbd (qfU h2 v)=true then some (.panic (qfU h2 v),h) else none
 | none=>none
theorem qaN (L:Lib) (hp:∀ f,L.pure f=true) (f:Nat) (args:List AVal) (h:Heap) :
  qdX L.pure (call L) f args h=if qa4 (args.map wipe)=true then pcall L f (args.map wipe) h else qlF (call L) f args h:=by
 unfold qdX pcall
 by_cases hd:qa4 (args.map wipe)=true
 ·rw[if_pos ⟨hp f,hd⟩,if_pos hd]
  cases call L f (args.map wipe) [] with
  | none=>rfl
  | some x=>obtain⟨v,h'⟩:=x;cases v<;>rfl
 ·rw[if_neg (fun hx=>hd hx.2),if_neg hd]
theorem qu4 {L:Lib} {f:Nat} {fn:AFn} {args:List AVal} {v:AVal} (h':Heap) (hs:L.summ f=none) (hf:L.fns f=some fn)
  (hr:qaT fn.results (qbL L.pure (call L) fn.body ⟨qe4 args,[]⟩)=some (.val v,h')) (hv:qbd (wipeR v)=true) (h:Heap):pcall L f args h=some (.val (wipeR v),h):=by
 unfold pcall
 rw[qbE hs hf hr]
 dsimp only
 rw[qqb hv,if_pos hv]
theorem qc7 {L:Lib} {f:Nat} {args:List AVal} {v u:AVal} {h':Heap} (hr:call L f args []=some (.val v,h')) (hu:qfU h' v=u) (hd:qbd u=true) (h:Heap):pcall L f args h=some (.val u,h):=by
 unfold pcall
 rw[hr]
 dsimp only
 rw[hu,if_pos hd]
theorem qk6 {h:Heap} {v u:AVal} (hp:qgH u=true) (hd:qfU h v=u):v=u:=by
 unfold qfU at hd
 split at hd
 ·cases v<;>simp only[wipeR,wipe,wipeCell] at hd<;>subst hd<;>first | rfl | (simp[qgH] at hp)
 ·rename_i hn
  exfalso
  unfold viewV at hd
  rw[qbS] at hd
  split at hd
  ·rename_i hdd
   exact hn (by cases v<;>simp only[wipeR,wipe,wipeCell] at hd ⊢ <;> first | (subst hd;first | rfl | (simp[qgH] at hp;done)) | (exfalso;revert hp;rw[← hd];simp[qgH]))
  ·unfold qev at hd
   cases v<;>(try dsimp only at hd)<;>(repeat' (first | (simp only[wipeR,wipe,wipeCell] at hd;subst hd;simp[qgH] at hp;done) | split at hd))
theorem qh4 {L:Lib} {f:Nat} {args args':List AVal} {h:Heap} {u:AVal} (ha:args.map (lookV h)=args') (hd:qa4 args'=true) (hp:qgH u=true) (hc:pcall L f args' h=some (.val u,h)):qjQ (call L) f args h=some (.val u,h):=by
 unfold pcall at hc
 unfold qjQ
 rw[ha,if_pos hd]
 split at hc
 ·rename_i v h2 he
  rw[he]
  dsimp only
  split at hc
  ·simp only[Option.some.injEq,Prod.mk.injEq,ARes.val.injEq,and_true] at hc
   rw[qk6 hp hc,if_pos hp]
  ·cases hc
 ·split at hc
  ·simp at hc
  ·cases hc
 ·cases hc
def kt:List Nat→List AVal→Tmps
 | k::ks,v::vs,t=>if t=k then v else kt ks vs t
 | _,_,_=>.junk
theorem qaB (k:Nat) (ks:List Nat) (v:AVal) (vs:List AVal) (t:Nat):kt (k::ks) (v::vs) t=if t=k then v else kt ks vs t:=rfl
theorem qa1 (ks:List Nat) (t:Nat):kt ks [] t=.junk:=by cases ks<;>rfl
theorem qsE (g:Nat→AVal):∀ (keep:List Nat),kt keep (keep.map g)=fun t=>if t∈keep then g t else .junk
 | []=>by funext t;simp[kt]
 | k :: ks => by
   funext t
   rw[List.map_cons,qaB,qsE g ks]
   by_cases h:t=k<;>simp[h]
theorem qq9:ql6 []=false:=rfl
theorem qaf (k:Nat) (ks:List Nat):ql6 (k::ks)=decide (k=1000000):=rfl
theorem qa0 (b:Nat) (keep:List Nat) (tm:Tmps) (h:Heap):gc b keep ⟨tm,h⟩ =
  if ql6 keep=true then ⟨kt (keep.drop 1) ((keep.drop 1).map tm),h⟩
  else if b≤h.length then ⟨kt keep (keep.map fun t=>ren (qfv b (qhz b keep ⟨tm,h⟩)) (tm t)),
   (h.take b).map (qfN (qfv b (qhz b keep ⟨tm,h⟩)))++(qhz b keep ⟨tm,h⟩).map fun id=>qfN (qfv b (qhz b keep ⟨tm,h⟩)) ((h[id]?).getD .gone)⟩ else ⟨tm,h⟩:=by
 unfold gc gc1 qy0
 rw[qsE,qsE]
theorem qaE (b:Nat) (keep:List Nat) (tm:Tmps) (h:Heap):qhz b keep ⟨tm,h⟩=qeA b (keep.flatMap (fun t=>qbU (tm t))++(h.take b).flatMap qo2) []:=rfl
section
variable (pure:Nat→Bool) (call:CallT)
theorem qam (s:St):qbL pure call .skip s=some (.normal,s):=rfl
theorem qad (l:List Step) (s:St):qbL pure call (.ops l) s=qdg pure call l s:=rfl
theorem qnG (l:List Step) (s:St):qbL pure call (.kops l) s=qfd pure call l s:=rfl
theorem qaJ (l:List Step) (cs:List (Nat × Nat × Nat)) (s:St):qbL pure call (.draw l cs) s=qhK pure call l cs s:=rfl
theorem qae (a b:ACode) (s:St):qbL pure call (.seq a b) s=match qbL pure call a s with | some (.normal,s')=>qbL pure call b s' | r=>r:=rfl
theorem qab (c:Opd) (a b:ACode) (s:St):qbL pure call (.cond c a b) s=match opd s.tm c with | .bool t=>if t then qbL pure call a s else qbL pure call b s | _=>none:=rfl
theorem qal (id:Nat) (c:ACode) (s:St):qbL pure call (.block id c) s=match qbL pure call c s with | some (.exit id',s')=>if id'=id then some (.normal,s') else some (.exit id',s') | r=>r:=rfl
theorem qfo (k:List Nat) (a b:ACode) (s:St):qbL pure call (.frame k (.seq a b)) s=(qbL pure call (.seq a b) s).map (gcE s.h.length k):=rfl
theorem qbO (t:Nat) (c:ACode) (s:St):qbL pure call (.freeze t c) s=qbL pure call c (qf4 t s):=rfl
theorem qnH (c:ACode) (s:St):qbL pure call (.view c) s=qbL pure call c (qoV s):=rfl
theorem qbk (id:Nat) (s:St):qbL pure call (.exit id) s=some (.exit id,s):=rfl
theorem qap (s:St):qbL pure call .ret s=some (.ret,s):=rfl
end
def qfF (b:Nat):Nat→Option (Option Nat)
 | 0=>some none
 | _+1=>some (some b)
def qdF (sz:Nat):Nat→Heap
 | 0=>[]
 | n+1=>[.tail (n+1) sz]
theorem qel (b:Nat):qfF b 0=some none:=rfl
theorem qfG (b n:Nat):qfF b (n+1)=some (some b):=rfl
theorem qeq (sz:Nat):qdF sz 0=[]:=rfl
theorem qfc (sz n:Nat):qdF sz (n+1)=[.tail (n+1) sz]:=rfl
theorem qeB {b n:Nat} (h:0<n):qfF b n=some (some b):=by cases n with | zero=>omega | succ n=>rfl
theorem qdZ {sz n:Nat} (h:0<n):qdF sz n=[.tail n sz]:=by cases n with | zero=>omega | succ n=>rfl
theorem qiN (b sz n:Nat):(qfF b n=some none∧qdF sz n=[])∨(qfF b n=some (some b)∧qdF sz n=[.tail n sz]):=by
 cases n with
 | zero=>exact .inl ⟨rfl,rfl⟩
 | succ n=>exact .inr ⟨rfl,rfl⟩
def qy7 (id sz:Nat) (cs:List AVal) (tm:Tmps):Tmps:=fun i=>frz id sz cs (tm i)
theorem qc0 (id sz:Nat) (cs:List AVal) (tm:Tmps) (i:Nat):qy7 id sz cs tm i=frz id sz cs (tm i):=rfl
theorem qcC (id sz:Nat) (cs:List AVal) (tm:Tmps) (h:Heap):qjP id sz cs ⟨tm,h⟩=if qa4 cs=true∧cs.all leaf=true then ⟨qy7 id sz cs tm,(h.set id .gone).map (qja id sz cs)⟩ else ⟨tm,h⟩:=rfl
theorem qca (t:Nat) (tm:Tmps) (h:Heap):qf4 t ⟨tm,h⟩=match tm t with
 | .ptr (some (id,0))=>(match h[id]? with | some (.box cs)=>qjP id 0 (cs.map wipeCell) ⟨tm,h⟩ | _=>⟨tm,h⟩)
 | .vec id _=>(match h[id]? with | some (.vec cs sz)=>qjP id sz (cs.map wipeCell) ⟨tm,h⟩ | _=>⟨tm,h⟩)
 | _=>⟨tm,h⟩:=rfl
theorem qco:qo2 .gone=[]:=rfl
theorem qbi (cs:List AVal):qo2 (.box cs)=cs.flatMap qbU:=rfl
theorem qd9 (n sz:Nat):qo2 (.tail n sz)=[]:=rfl
theorem qgF:qo2 (.map [])=[]:=rfl
theorem qbm (ρ:Nat→Option Nat):qfN ρ .gone=.gone:=rfl
theorem qbj (ρ:Nat→Option Nat) (cs:List AVal):qfN ρ (.box cs)=.box (cs.map (ren ρ)):=rfl
theorem qcN (ρ:Nat→Option Nat) (n sz:Nat):qfN ρ (.tail n sz)=.tail n sz:=rfl
theorem qgQ (ρ:Nat→Option Nat):qfN ρ (.map [])=.map []:=rfl
theorem qec (call:CallT) (f:Nat) (args:List AVal) (h:Heap):qlF call f args h=if (qcA args h).all (fun i=>decide (i<h.length))=true then
  match call f (args.map (ren fun i=>qa5 i (qcA args h) 0)) (qdU (qcA args h) h) with
  | some (r,h2)=>some (qpd (qcA args h) (qoh (qcA args h).length r h2) h.length r,qgb (qcA args h) (qoh (qcA args h).length r h2) h h2)
  | none=>none
 else none:=rfl
theorem qdu (k:Nat) (v:AVal) (h2:Heap):qoh k (.val v) h2=qeA k (qbU v++(h2.take k).flatMap qo2) []:=rfl
theorem qft (l nl:List Nat) (n j:Nat):qdQ l nl n j=if j<l.length then l[j]? else (qa5 j nl 0).map (n+·):=rfl
theorem qc2 (args:List AVal) (h:Heap):qcA args h=grow h (grow h (grow h (qeA 0 (args.flatMap qbU) []))):=rfl
theorem qe3 (h:Heap) (l:List Nat):grow h l=qeA 0 (l.flatMap fun i=>qo2 ((h[i]?).getD .gone)) l:=rfl
theorem qc3 (l:List Nat) (h:Heap):qdU l h=l.map fun i=>qfN (fun i=>qa5 i l 0) ((h[i]?).getD .gone):=rfl
def pb (l nl:List Nat) (n:Nat) (h2:Heap):Heap→Nat→Heap
 | [],_=>[]
 | o::os,i=>(match qa5 i l 0 with | some j=>qfN (qdQ l nl n) ((h2[j]?).getD .gone) | none=>o)::pb l nl n h2 os (i+1)
theorem qgN (l nl:List Nat) (n:Nat) (h2:Heap) (i:Nat):pb l nl n h2 [] i=[]:=rfl
theorem qeb (l nl:List Nat) (n:Nat) (h2:Heap) (o:AObj) (os:Heap) (i:Nat):pb l nl n h2 (o::os) i=(match qa5 i l 0 with | some j=>qfN (qdQ l nl n) ((h2[j]?).getD .gone) | none=>o)::pb l nl n h2 os (i+1):=rfl
theorem qoo (l nl:List Nat) (n:Nat) (h2:Heap):∀ (h:Heap) (k:Nat),(pb l nl n h2 h k).length=h.length
 | [],k=>rfl
 | o::os,k=>by rw[qeb,List.length_cons,List.length_cons,qoo l nl n h2 os]
theorem qvA (l nl:List Nat) (n:Nat) (h2:Heap):∀ (h:Heap) (k i:Nat) (o:AObj),h[i]? = some o→(pb l nl n h2 h k)[i]? = some (match qa5 (k+i) l 0 with | some j=>qfN (qdQ l nl n) ((h2[j]?).getD .gone) | none=>o)
 | [],k,i,o,e=>by simp at e
 | x :: os,k,0,o,e => by
   simp at e
   subst e
   rw[qeb,List.getElem?_cons_zero,Nat.add_zero]
 | x :: os,k,i + 1,o,e => by
   rw[qeb,List.getElem?_cons_succ,qvA l nl n h2 os (k+1) i o (by simpa using e)]
   rw[show k+1+i=k+(i+1) by omega]
theorem qc1 (l nl:List Nat) (h h2:Heap):qgb l nl h h2=pb l nl h.length h2 h 0++nl.map fun j=>qfN (qdQ l nl h.length) ((h2[j]?).getD .gone):=by
 unfold qgb
 congr 1
 refine List.ext_getElem? fun i=>?_
 by_cases hi:i<h.length
 ·rw[qvA l nl _ h2 h 0 i h[i] (List.getElem?_eq_getElem hi),Nat.zero_add]
  rw[List.getElem?_map,List.getElem?_range hi]
  simp only[Option.map_some,List.getElem?_eq_getElem hi,Option.getD_some]
  cases qa5 i l 0<;>rfl
 ·rw[List.getElem?_eq_none (by simp;omega),List.getElem?_eq_none (by rw[qoo];omega)]
theorem qcL (l nl:List Nat) (n:Nat) (v:AVal):qpd l nl n (.val v)=.val (ren (qdQ l nl n) v):=rfl
theorem qar (cs:List AVal):acells (.agg cs)=cs:=rfl
theorem qaM (k:IntKind) (n:Int):acells (.int k n)=[.int k n]:=rfl
theorem qbn (xs:List AVal) (o:Option (Option Nat)):acells (.list xs o)=[.list xs o]:=rfl
theorem qaX (a:Option (Nat × Nat)):acells (.ptr a)=[.ptr a]:=rfl
theorem qct (cs:List AVal) (n:Nat):acells (.vptr cs n)=[.vptr cs n]:=rfl
theorem qo7 (f:Nat) (a b:List AVal):acells (.func f a b)=[.func f a b]:=rfl
theorem qb8:qgL=1073741824:=rfl
theorem qb4 (l:List Step) (tm:Tmps) (hs:List Heap) (c:Nat × Nat × Nat) (cs:List (Nat × Nat × Nat)):qgy l tm hs (c::cs)=(qnF l tm hs c.1 c.2.1 c.2.2∧qgy l tm hs cs):=rfl
theorem qaC (l:List Step) (tm:Tmps) (hs:List Heap):qgy l tm hs []=True:=rfl
theorem qcz (l:List Step) (tm:Tmps) (hs:List Heap) (i lo hi:Nat):qnF l tm hs i lo hi=match l[i]? with
 | some ⟨some d,g,o⟩=>qaw g tm=some true→∀ h∈(hs.drop lo).take (hi+1-lo),aOp (fun _=>false) qfC o tm h=some (.val (tm d),h)
 | _=>True:=rfl
theorem qc4:(true==false)=false:=rfl
theorem qb9:(false==true)=false:=rfl
theorem qck (cs:List AVal):wipe (.agg cs)=.agg (cs.map wipeCell):=rfl
theorem qbo (xs:List AVal) (o:Option (Option Nat)):wipe (.list xs o)=.list xs none:=rfl
theorem qgX (b:Bool):wipe (.bool b)=.bool b:=rfl
theorem qbx (k:IntKind) (n:Int):wipe (.int k n)=.int k n:=rfl
theorem qcF (cs:List AVal):wipeR (.tuple cs)=.tuple (cs.map wipe):=rfl
theorem qtC (cs:List AVal):wipeR (.agg cs)=.agg (cs.map wipeCell):=rfl
theorem qbY (xs:List AVal) (o:Option (Option Nat)):wipeR (.list xs o)=.list xs none:=rfl
theorem qbf (b:Bool):wipeR (.bool b)=.bool b:=rfl
theorem qbM (k:IntKind) (n:Int):wipeR (.int k n)=.int k n:=rfl
theorem qdo (a:Option (Nat × Nat)):wipe (.ptr a)=.ptr a:=rfl
theorem qbD (cs:List AVal) (n:Nat):wipe (.vptr cs n)=.vptr cs n:=rfl
theorem qiW (a:Option Nat):wipe (.map a)=.map a:=rfl
theorem qcG (f:Nat) (a b:List AVal):wipe (.func f a b)=.func f a b:=rfl
theorem qbh (xs:List AVal) (o:Option (Option Nat)):wipeCell (.list xs o)=.list xs none:=rfl
theorem qbq (k:IntKind) (n:Int):wipeCell (.int k n)=.int k n:=rfl
theorem qaa (xs:List AVal):qbd (.list xs none)=qa4 xs:=by simp[qbd]
theorem qbV (xs:List AVal):qbd (.list xs (some none))=qa4 xs:=by simp[qbd]
theorem qbG (xs:List AVal) (i:Nat):qbd (.list xs (some (some i)))=false:=by simp[qbd]
theorem qbJ (b:Bool):qbd (.bool b)=true:=rfl
theorem qaq (k:IntKind) (n:Int):qbd (.int k n)=true:=rfl
theorem qch (cs:List AVal):qbd (.agg cs)=qa4 cs:=rfl
theorem qfj (cs:List AVal):qbd (.tuple cs)=qa4 cs:=rfl
theorem qbP (f:Nat) (a b:List AVal):qbd (.func f a b)=(qa4 a && qa4 b):=rfl
theorem qaQ (cs:List AVal) (n:Nat):qbd (.vptr cs n)=qa4 cs:=rfl
theorem qbc (a:Nat × Nat):qbd (.ptr (some a))=false:=rfl
theorem qbB (a:Nat):qbd (.map (some a))=false:=rfl
theorem qbX:qbd .junk=true:=rfl
theorem qav:qa4 []=true:=rfl
theorem qao (v:AVal) (vs:List AVal):qa4 (v::vs)=(qbd v && qa4 vs):=rfl
theorem qdb (a b:List AVal):qa4 (a++b)=(qa4 a && qa4 b):=by
 induction a with
 | nil=>rfl
 | cons x xs ih=>rw[List.cons_append,qa4,qa4,ih,Bool.and_assoc]
theorem qe5 {α:Type} (f:α→AVal) (h:∀ a,qbd (f a)=true) (l:List α):qa4 (l.map f)=true:=by
 induction l with
 | nil=>rfl
 | cons x xs ih=>rw[List.map_cons,qa4,h,ih];rfl
theorem qmA {α:Type} (f:α→AVal) (n:Nat) (h:∀ a,(acells (f a)).length=n) (l:List α):((l.map f).all fun v=>decide ((acells v).length=n))=true:=by
 rw[List.all_eq_true]
 intro x hx
 obtain⟨a,_,rfl⟩:=List.mem_map.1 hx
 simp[h a]
theorem qat (n:Nat) (acc:List Nat):qeA n [] acc=acc:=rfl
theorem qaD (n i:Nat) (is acc:List Nat):qeA n (i::is) acc=qeA n is (if n≤i∧i∉acc then acc++[i] else acc):=rfl
theorem qaF (n:Nat) (l:List Nat) (i:Nat):qfv n l i=if i<n then some i else qa5 i l n:=rfl
noncomputable def qb6 (pure:Nat→Bool) (call:CallT) (b:Nat) (keep fk:List Nat) (body:ACode) (s:St):Option (AExit × St) :=
 match qbL pure call body s with
 | some (.normal,s')=>some (.normal,gc b keep s')
 | some (e,s')=>some (gcE b fk (e,s'))
 | none=>none
theorem qaz (pure:Nat→Bool) (call:CallT) (b:Nat) (keep fk:List Nat) (body:ACode) (s:St):qb6 pure call b keep fk body s=match qbL pure call body s with
 | some (.normal,s')=>some (.normal,gc b keep s')
 | some (e,s')=>some (gcE b fk (e,s'))
 | none=>none:=rfl
noncomputable def qb7 (pure:Nat→Bool) (call:CallT) (b:Nat) (keep fk:List Nat) (id:Nat) (body:ACode) (s:St):Option (AExit × St) :=
 (match (match qbL pure call body s with
   | some (.normal,s')=>qkY (fun s1=>qbL pure call body (gc b keep s1)) s'
   | r=>r) with
  | some (.exit id',s')=>if id'=id then some (AExit.normal,s') else some (AExit.exit id',s')
  | r=>r).map (gcE b fk)
theorem qaS (pure:Nat→Bool) (call:CallT) (keep fk:List Nat) (id:Nat) (body:ACode) (tm:Tmps) (h:Heap) :
  qbL pure call (.frame fk (.block id (.gloop keep body))) ⟨tm,h⟩=qb7 pure call h.length keep fk id body (gc h.length keep ⟨tm,h⟩):=by
 unfold qb7
 simp only[qbL]
 rw[qqv]
 rfl
section
variable {pure:Nat→Bool} {call:CallT} {b:Nat} {keep fk:List Nat} {id:Nat} {body:ACode}
theorem qfA {s s1:St} (h:qb6 pure call b keep fk body s=some (.normal,s1)):qb7 pure call b keep fk id body s=qb7 pure call b keep fk id body s1:=by
 unfold qb6 at h
 unfold qb7
 cases hx:qbL pure call body s with
 | none=>rw[hx] at h;cases h
 | some x =>
   obtain⟨e,s'⟩:=x
   rw[hx] at h
   cases e with
   | normal =>
     simp only[Option.some.injEq,Prod.mk.injEq,true_and] at h
     dsimp only
     rw[qqv,h]
     rfl
   | panic v=>simp[gcE] at h
   | exit i=>simp[gcE] at h
   | ret=>simp[gcE] at h
theorem qfz {s s1:St} (h:qb6 pure call b keep fk body s=some (.exit id,s1)):qb7 pure call b keep fk id body s=some (.normal,s1):=by
 unfold qb6 at h
 unfold qb7
 cases hx:qbL pure call body s with
 | none=>rw[hx] at h;cases h
 | some x =>
   obtain⟨e,s'⟩:=x
   rw[hx] at h
   cases e with
   | normal=>simp at h
   | panic v=>simp[gcE] at h
   | exit i =>
     simp only[gcE,Option.some.injEq,Prod.mk.injEq,AExit.exit.injEq] at h
     obtain⟨rfl,rfl⟩:=h
     simp[gcE]
   | ret=>simp[gcE] at h
theorem qkZ {s s1:St} (h:qb6 pure call b keep fk body s=some (.ret,s1)):qb7 pure call b keep fk id body s=some (.ret,s1):=by
 unfold qb6 at h
 unfold qb7
 cases hx:qbL pure call body s with
 | none=>rw[hx] at h;cases h
 | some x =>
   obtain⟨e,s'⟩:=x
   rw[hx] at h
   cases e with
   | normal=>simp at h
   | panic v=>simp[gcE] at h
   | exit i=>simp[gcE] at h
   | ret =>
     simp only[gcE,Option.some.injEq,Prod.mk.injEq,true_and] at h
     subst h
     rfl
def qcR:List Int→Int
 | []=>0
 | e::es=>if e=0 then qcR es else e
def qbw {α β:Type} (g:Nat→α→Option β):List α→Nat→Option β
 | [],_=>none
 | x::xs,i=>match g i x with | some r=>some r | none=>qbw g xs (i+1)
theorem qh1 (C:Nat→St) (n:Nat) {T:St} (hstep:∀ i,i<n→qb6 pure call b keep fk body (C i)=some (.normal,C (i+1)))
  (hend:qb6 pure call b keep fk body (C n)=some (.exit id,T)):qb7 pure call b keep fk id body (C 0)=some (.normal,T):=by
 have key:∀ k i,i+k=n→qb7 pure call b keep fk id body (C i)=some (.normal,T):=by
  intro k
  induction k with
  | zero=>intro i hi;rw[Nat.add_zero] at hi;subst hi;exact qfz hend
  | succ k ih=>intro i hi;rw[qfA (hstep i (by omega))];exact ih (i+1) (by omega)
 exact key n 0 (by omega)
def qcv {β:Type} (R:β→St) (T:St):Option β→AExit × St
 | some r=>(.ret,R r)
 | none=>(.normal,T)
theorem qgK (C:Nat→St) (n:Nat) (Q:Nat→Option (AExit × St)) {T:St}
  (hstep:∀ i,i<n→(qb6 pure call b keep fk body (C i)=some (.normal,C (i+1))∧Q i=Q (i+1))∨∃ s',qb6 pure call b keep fk body (C i)=some (.ret,s')∧Q i=some (.ret,s'))
  (hend:qb6 pure call b keep fk body (C n)=some (.exit id,T)) (hQ:Q n=some (.normal,T)):qb7 pure call b keep fk id body (C 0)=Q 0:=by
 have key:∀ k i,i+k=n→qb7 pure call b keep fk id body (C i)=Q i:=by
  intro k
  induction k with
  | zero=>intro i hi;rw[Nat.add_zero] at hi;subst hi;rw[qfz hend,hQ]
  | succ k ih =>
    intro i hi
    rcases hstep i (by omega) with ⟨h1,h2⟩ | ⟨s',h1,h2⟩
    ·rw[qfA h1,h2];exact ih (i+1) (by omega)
    ·rw[qkZ h1,h2]
 exact key n 0 (by omega)
theorem qsL {α:Type} (xs:List α) (g:α→Int) (C:Nat→St) (T:St) (R:Int→St)
  (h0:∀ (i:Nat) (hi:i<xs.length),g xs[i]=0→qb6 pure call b keep fk body (C i)=some (.normal,C (i+1)))
  (h1:∀ (i:Nat) (hi:i<xs.length),g xs[i]≠0→qb6 pure call b keep fk body (C i)=some (.ret,R (g xs[i])))
  (hend:qb6 pure call b keep fk body (C xs.length)=some (.exit id,T)) :
  qb7 pure call b keep fk id body (C 0)=some (if qcR (xs.map g)=0 then (.normal,T) else (.ret,R (qcR (xs.map g)))):=by
 refine qgK C xs.length (fun i=>some (if qcR ((xs.drop i).map g)=0 then (.normal,T) else (.ret,R (qcR ((xs.drop i).map g))))) ?_ hend (by simp[qcR])
 intro i hi
 have hdrop:xs.drop i=xs[i]::xs.drop (i+1):=List.drop_eq_getElem_cons hi
 rw[hdrop]
 simp only[List.map_cons,qcR]
 by_cases he:g xs[i]=0
 ·left
  rw[if_pos he]
  exact⟨h0 i hi he,rfl⟩
 ·right
  rw[if_neg he,if_neg he]
  exact⟨_,h1 i hi he,rfl⟩
theorem qgJ {α:Type} (xs:List α) (p:α→Bool) (C:Nat→St) (T R:St)
  (h0:∀ (i:Nat) (hi:i<xs.length),p xs[i]=false→qb6 pure call b keep fk body (C i)=some (.normal,C (i+1)))
  (h1:∀ (i:Nat) (hi:i<xs.length),p xs[i]=true→qb6 pure call b keep fk body (C i)=some (.ret,R))
  (hend:qb6 pure call b keep fk body (C xs.length)=some (.exit id,T)) :
  qb7 pure call b keep fk id body (C 0)=some (if xs.any p=true then (.ret,R) else (.normal,T)):=by
 refine qgK C xs.length (fun i=>some (if (xs.drop i).any p=true then (.ret,R) else (.normal,T))) ?_ hend (by simp)
 intro i hi
 have hdrop:xs.drop i=xs[i]::xs.drop (i+1):=List.drop_eq_getElem_cons hi
 rw[hdrop]
 simp only[List.any_cons]
 by_cases he:p xs[i]=true
 ·right
  simp only[he,Bool.true_or,if_true]
  exact⟨_,h1 i hi he,rfl⟩
 ·left
  have he':p xs[i]=false:=by simpa using he
  simp only[he',Bool.false_or,and_true]
  exact h0 i hi he'
theorem qdA {α β:Type} (xs:List α) (g:Nat→α→Option β) (C:Nat→St) (T:St) (R:β→St)
  (h0:∀ (i:Nat) (hi:i<xs.length),g i xs[i]=none→qb6 pure call b keep fk body (C i)=some (.normal,C (i+1)))
  (h1:∀ (i:Nat) (hi:i<xs.length) (r:β),g i xs[i]=some r→qb6 pure call b keep fk body (C i)=some (.ret,R r))
  (hend:qb6 pure call b keep fk body (C xs.length)=some (.exit id,T)) :
  qb7 pure call b keep fk id body (C 0)=some (qcv R T (qbw g xs 0)):=by
 refine qgK C xs.length (fun i=>some (qcv R T (qbw g (xs.drop i) i))) ?_ hend (by simp[qbw,qcv])
 intro i hi
 have hdrop:xs.drop i=xs[i]::xs.drop (i+1):=List.drop_eq_getElem_cons hi
 rw[hdrop]
 simp only[qbw]
 cases he:g i xs[i] with
 | none =>
   left
   simp only[and_true]
   exact h0 i hi he
 | some r =>
   right
   exact⟨_,h1 i hi r he,rfl⟩
end
theorem qc5 {n:Int} (h1 : -2 ^ 63≤n) (h2:n<2 ^ 63):IntKind.i64.wrap n=n:=by
 have h:IntKind.i64.wrap n=(if (true && decide (n % 2 ^ 64≥2 ^ (64-1)))=true then n % 2 ^ 64-2 ^ 64 else n % 2 ^ 64):=rfl
 rw[h]
 by_cases hc:n % 2 ^ 64≥2 ^ (64-1)
 ·rw[if_pos (by simp only[Bool.true_and,decide_eq_true_eq];exact hc)]
  omega
 ·rw[if_neg (by simp only[Bool.true_and,decide_eq_true_eq];exact hc)]
  omega
end Go.Abs
