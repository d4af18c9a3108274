/-
  Evaluating the abstract machine: the laws by which a simp set steps through code. Conditions: none.
-/
import Derived.Test.YtpchghpipgpkfaaDoorAbsB
set_option linter.unusedVariables false
namespace Go.Abs
theorem qwS (tm:Tmps) (d t:Nat) (v:AVal):upd tm (some d) v t=if t=d then v else tm t:=rfl
theorem qrt (tm:Tmps) (v:AVal):upd tm none v=tm:=rfl
theorem qn1 (args:List AVal) (i:Nat):qdT args i=(args[i]?).getD (.tuple []):=rfl
theorem qt2 (pure:Nat→Bool) (call:CallT) (s:St):qb8 pure call [] s=some (.normal,s):=rfl
theorem qre (pure:Nat→Bool) (call:CallT) (d:Option Nat) (o:AOp) (r:List Step) (tm:Tmps) (h:Heap) :
  qb8 pure call (⟨d,none,o⟩::r) ⟨tm,h⟩=match aOp pure call o tm h with | some (.val v,h')=>qb8 pure call r ⟨upd tm d v,h'⟩ | some (.panic v,h')=>some (.panic v,⟨tm,h'⟩) | none=>none:=rfl
theorem qlZ (pure:Nat→Bool) (call:CallT) (d:Option Nat) (g:Option Nat × Bool) (o:AOp) (r:List Step) (tm:Tmps) (h:Heap) :
  qb8 pure call (⟨d,some g,o⟩::r) ⟨tm,h⟩=match qae (some g) tm with
   | some true=>(match aOp pure call o tm h with | some (.val v,h')=>qb8 pure call r ⟨upd tm d v,h'⟩ | some (.panic v,h')=>some (.panic v,⟨tm,h'⟩) | none=>none)
   | some false=>qb8 pure call r ⟨upd tm d (.tuple []),h⟩
   | none=>none:=rfl
theorem qrd (pure:Nat→Bool) (call:CallT) (s:St):qd1 pure call [] s=some (.normal,s):=rfl
theorem qos (pure:Nat→Bool) (call:CallT) (d:Option Nat) (o:AOp) (r:List Step) (tm:Tmps) (h:Heap) :
  qd1 pure call (⟨d,none,o⟩::r) ⟨tm,h⟩=match qhT pure call o tm h with | some (.val v,h')=>qd1 pure call r ⟨upd tm d v,h'⟩ | some (.panic v,h')=>some (.panic v,⟨tm,h'⟩) | none=>none:=rfl
theorem qtX (pure:Nat→Bool) (call:CallT) (k:Nat) (args:List Opd) (tm:Tmps) (h:Heap):qhT pure call (.pcall k args) tm h=qmJ call k (args.map (opd tm)) h:=rfl
theorem qrb (pure:Nat→Bool) (call:CallT) (x:Opd) (tm:Tmps) (h:Heap):qhT pure call (.move x) tm h=some (.val (opd tm x),h):=rfl
theorem qtW (pure:Nat→Bool) (call:CallT) (n:Nat) (a:Opd) (tm:Tmps) (h:Heap):qhT pure call (.loadN n a) tm h=aOp pure call (.loadN n a) tm h:=rfl
theorem qoq (pure:Nat→Bool) (call:CallT) (n:Nat) (a:Opd) (tm:Tmps) (h:Heap):qhT pure call (.field n a) tm h=aOp pure call (.field n a) tm h:=rfl
theorem qpZ (pure:Nat→Bool) (call:CallT) (n:Nat) (a:Opd) (tm:Tmps) (h:Heap):qhT pure call (.extract n a) tm h=aOp pure call (.extract n a) tm h:=rfl
def qnA (l:List Step) (tm:Tmps) (hs:List Heap) (i lo hi:Nat):Prop :=
 match l[i]? with
 | some ⟨some d,g,o⟩=>qae g tm=some true→∀ h∈(hs.drop lo).take (hi+1-lo),aOp (fun _=>false) qew o tm h=some (.val (tm d),h)
 | _=>True
def qfy (l:List Step) (tm:Tmps) (hs:List Heap):List (Nat × Nat × Nat)→Prop
 | []=>True
 | c::cs=>qnA l tm hs c.1 c.2.1 c.2.2∧qfy l tm hs cs
theorem qsV {l:List Step} {tm:Tmps} {hs:List Heap} {c:Nat × Nat × Nat} (h:qnA l tm hs c.1 c.2.1 c.2.2):qjG l tm hs c:=by
 intro s d h1 h2 h3 k hp hk1 hk2 hk
 unfold qnA at h
 obtain⟨d',g,o⟩:=s
 dsimp only at h2
 subst h2
 rw[h1] at h
 refine h h3 hp ?_
 refine List.mem_of_getElem? (i:=k-c.2.1) ?_
 rw[List.getElem?_take,if_pos (by omega),List.getElem?_drop,show c.2.1+(k-c.2.1)=k by omega]
 exact hk
theorem qls {l:List Step} {tm:Tmps} {hs:List Heap}:∀ {cs:List (Nat × Nat × Nat)},qfy l tm hs cs→∀ c∈cs,qjG l tm hs c
 | [],_=>by simp
 | c :: cs,h => by
   intro c' hc
   rcases List.mem_cons.1 hc with rfl | hc
   ·exact qsV h.1
   ·exact qls h.2 c' hc
theorem qxg {pure:Nat→Bool} {call:CallT} {l:List Step} {cs:List (Nat × Nat × Nat)} {s:St} {tm:Tmps} {hs:List Heap} {h:Heap}
  (hr:qc3 pure call l s.tm [] s.h=some (tm,hs,h)) (hc:qfy l tm hs cs):qgL pure call l cs s=some (.normal,⟨tm,h⟩):=by
 unfold qgL
 rw[hr]
 exact if_pos (qls hc)
noncomputable def qqe (pure:Nat→Bool) (call:CallT) (l:List Step) (cs:List (Nat × Nat × Nat)) (s:St):Option (AExit × St):=qgL pure call l cs s
open Classical in
noncomputable def qs4 (pure:Nat→Bool) (call:CallT) (l:List Step) (cs:List (Nat × Nat × Nat)) (s:St) (r:Option (Tmps × List Heap × Heap)):Option (AExit × St) :=
 match r with
 | some (tm,hs,h)=>if qfy l tm hs cs then some (.normal,⟨tm,h⟩) else qqe pure call l cs s
 | none=>qqe pure call l cs s
theorem qs5 (pure:Nat→Bool) (call:CallT) (l:List Step) (cs:List (Nat × Nat × Nat)) (s:St):qgL pure call l cs s=qs4 pure call l cs s (qc3 pure call l s.tm [] s.h):=by
 unfold qs4
 split
 ·rename_i tm hs h hr
  split
  ·rename_i hc
   exact qxg hr hc
  ·rfl
 ·rfl
open Classical in
theorem qnJ (pure:Nat→Bool) (call:CallT) (l:List Step) (cs:List (Nat × Nat × Nat)) (s:St) (tm:Tmps) (hs:List Heap) (h:Heap) :
  qs4 pure call l cs s (some (tm,hs,h))=if qfy l tm hs cs then some (.normal,⟨tm,h⟩) else qqe pure call l cs s:=rfl
theorem qrc (pure:Nat→Bool) (call:CallT) (tm:Tmps) (hs:List Heap) (h:Heap):qc3 pure call [] tm hs h=some (tm,hs++[h],h):=rfl
theorem qor (pure:Nat→Bool) (call:CallT) (d:Option Nat) (g:Option (Option Nat × Bool)) (o:AOp) (r:List Step) (tm:Tmps) (hs:List Heap) (h:Heap) :
  qc3 pure call (⟨d,g,o⟩::r) tm hs h=match qae g tm with
   | some true=>(match aOp pure call o tm h with | some (.val v,h')=>qc3 pure call r (upd tm d v) (if qay o=true then hs++[h] else hs) h' | _=>none)
   | some false=>qc3 pure call r (upd tm d (.tuple [])) (if qay o=true then hs++[h] else hs) h
   | none=>none:=rfl
theorem qqD {h:Heap} {v:AVal} (hv:qaB (wipeR v)=true):qfo h v=wipeR v:=if_pos hv
noncomputable def pcall (L:Lib) (f:Nat) (args:List AVal) (h:Heap):Option (ARes × Heap) :=
 match call L f args [] with
 | some (.val v,h2)=>if qaB (qfo h2 v)=true then some (.val (qfo h2 v),h) else none
 | some (.panic v,h2)=>if qaB (qfo h2 v)=true then some (.panic (qfo h2 v),h) else none
 | none=>none
theorem qam (L:Lib) (hp:∀ f,L.pure f=true) (f:Nat) (args:List AVal) (h:Heap) :
  qce L.pure (call L) f args h=if qaw (args.map wipe)=true then pcall L f (args.map wipe) h else qk7 (call L) f args h:=by
 unfold qce pcall
 by_cases hd:qaw (args.map wipe)=true
 ·rw[if_pos ⟨hp f,hd⟩,if_pos hd]
  cases call L f (args.map wipe) [] with
  | none=>rfl
  | some x=>obtain⟨v,h'⟩:=x;cases v<;>rfl
 ·rw[if_neg (fun hx=>hd hx.2),if_neg hd]
theorem qv6 {L:Lib} {f:Nat} {fn:AFn} {args:List AVal} {v:AVal} (h':Heap) (hs:L.summ f=none) (hf:L.fns f=some fn)
  (hr:qap fn.results (qaY L.pure (call L) fn.body ⟨qdT args,[]⟩)=some (.val v,h')) (hv:qaB (wipeR v)=true) (h:Heap):pcall L f args h=some (.val (wipeR v),h):=by
 unfold pcall
 rw[qaK hs hf hr]
 dsimp only
 rw[qqD hv,if_pos hv]
theorem qco {L:Lib} {f:Nat} {args:List AVal} {v u:AVal} {h':Heap} (hr:call L f args []=some (.val v,h')) (hu:qfo h' v=u) (hd:qaB u=true) (h:Heap):pcall L f args h=some (.val u,h):=by
 unfold pcall
 rw[hr]
 dsimp only
 rw[hu,if_pos hd]
theorem qkt {h:Heap} {v u:AVal} (hp:qfI u=true) (hd:qfo h v=u):v=u:=by
 unfold qfo at hd
 split at hd
 ·cases v<;>simp only[wipeR,wipe,wipeCell] at hd<;>subst hd<;>first | rfl | (simp[qfI] at hp)
 ·rename_i hn
  exfalso
  unfold viewV at hd
  rw[qaU] at hd
  split at hd
  ·rename_i hdd
   exact hn (by cases v<;>simp only[wipeR,wipe,wipeCell] at hd ⊢ <;> first | (subst hd;first | rfl | (simp[qfI] at hp;done)) | (exfalso;revert hp;rw[← hd];simp[qfI]))
  ·unfold qcz at hd
   cases v<;>(try dsimp only at hd)<;>(repeat' (first | (simp only[wipeR,wipe,wipeCell] at hd;subst hd;simp[qfI] at hp;done) | split at hd))
theorem qfi {L:Lib} {f:Nat} {args args':List AVal} {h:Heap} {u:AVal} (ha:args.map (lookV h)=args') (hd:qaw args'=true) (hp:qfI u=true) (hc:pcall L f args' h=some (.val u,h)):qio (call L) f args h=some (.val u,h):=by
 unfold pcall at hc
 unfold qio
 rw[ha,if_pos hd]
 split at hc
 ·rename_i v h2 he
  rw[he]
  dsimp only
  split at hc
  ·simp only[Option.some.injEq,Prod.mk.injEq,ARes.val.injEq,and_true] at hc
   rw[qkt hp hc,if_pos hp]
  ·cases hc
 ·split at hc
  ·simp at hc
  ·cases hc
 ·cases hc
def kt:List Nat→List AVal→Tmps
 | k::ks,v::vs,t=>if t=k then v else kt ks vs t
 | _,_,_=>.junk
theorem qpT (k:Nat) (ks:List Nat) (v:AVal) (vs:List AVal) (t:Nat):kt (k::ks) (v::vs) t=if t=k then v else kt ks vs t:=rfl
theorem qwD (ks:List Nat) (t:Nat):kt ks [] t=.junk:=by cases ks<;>rfl
theorem qtF (g:Nat→AVal):∀ (keep:List Nat),kt keep (keep.map g)=fun t=>if t∈keep then g t else .junk
 | []=>by funext t;simp[kt]
 | k :: ks => by
   funext t
   rw[List.map_cons,qpT,qtF g ks]
   by_cases h:t=k<;>simp[h]
theorem qlN:qlM []=false:=rfl
theorem qka (k:Nat) (ks:List Nat):qlM (k::ks)=decide (k=1000000):=rfl
theorem qzx (b:Nat) (keep:List Nat) (tm:Tmps) (h:Heap):gc b keep ⟨tm,h⟩ =
  if qlM keep=true then ⟨kt (keep.drop 1) ((keep.drop 1).map tm),h⟩
  else if b≤h.length then ⟨kt keep (keep.map fun t=>ren (qeq b (qgx b keep ⟨tm,h⟩)) (tm t)),
   (h.take b).map (qeH (qeq b (qgx b keep ⟨tm,h⟩)))++(qgx b keep ⟨tm,h⟩).map fun id=>qeH (qeq b (qgx b keep ⟨tm,h⟩)) ((h[id]?).getD .gone)⟩ else ⟨tm,h⟩:=by
 unfold gc gc1 qAx
 rw[qtF,qtF]
theorem qqM (b:Nat) (keep:List Nat) (tm:Tmps) (h:Heap):qgx b keep ⟨tm,h⟩=qdo b (keep.flatMap (fun t=>qa0 (tm t))++(h.take b).flatMap qpp) []:=rfl
section
variable (pure:Nat→Bool) (call:CallT)
theorem qnG (s:St):qaY pure call .skip s=some (.normal,s):=rfl
theorem qqz (l:List Step) (s:St):qaY pure call (.ops l) s=qb8 pure call l s:=rfl
theorem qnF (l:List Step) (s:St):qaY pure call (.kops l) s=qd1 pure call l s:=rfl
theorem qnD (l:List Step) (cs:List (Nat × Nat × Nat)) (s:St):qaY pure call (.draw l cs) s=qgL pure call l cs s:=rfl
theorem qqB (a b:ACode) (s:St):qaY pure call (.seq a b) s=match qaY pure call a s with | some (.normal,s')=>qaY pure call b s' | r=>r:=rfl
theorem qnC (c:Opd) (a b:ACode) (s:St):qaY pure call (.cond c a b) s=match opd s.tm c with | .bool t=>if t then qaY pure call a s else qaY pure call b s | _=>none:=rfl
theorem qlu (id:Nat) (c:ACode) (s:St):qaY pure call (.block id c) s=match qaY pure call c s with | some (.exit id',s')=>if id'=id then some (.normal,s') else some (.exit id',s') | r=>r:=rfl
theorem qgB (k:List Nat) (a b:ACode) (s:St):qaY pure call (.frame k (.seq a b)) s=(qaY pure call (.seq a b) s).map (gcE s.h.length k):=rfl
theorem qjM (t:Nat) (c:ACode) (s:St):qaY pure call (.freeze t c) s=qaY pure call c (qe0 t s):=rfl
theorem qnH (c:ACode) (s:St):qaY pure call (.view c) s=qaY pure call c (qpc s):=rfl
theorem qnE (id:Nat) (s:St):qaY pure call (.exit id) s=some (.exit id,s):=rfl
theorem qqA (s:St):qaY pure call .ret s=some (.ret,s):=rfl
end
def qcn (b:Nat):Nat→Option (Option Nat)
 | 0=>some none
 | _+1=>some (some b)
def qby (sz:Nat):Nat→Heap
 | 0=>[]
 | n+1=>[.tail (n+1) sz]
theorem qc9 (b:Nat):qcn b 0=some none:=rfl
theorem qgs (b n:Nat):qcn b (n+1)=some (some b):=rfl
theorem qde (sz:Nat):qby sz 0=[]:=rfl
theorem qff (sz n:Nat):qby sz (n+1)=[.tail (n+1) sz]:=rfl
theorem qey {b n:Nat} (h:0<n):qcn b n=some (some b):=by cases n with | zero=>omega | succ n=>rfl
theorem qdN {sz n:Nat} (h:0<n):qby sz n=[.tail n sz]:=by cases n with | zero=>omega | succ n=>rfl
theorem qou (b sz n:Nat):(qcn b n=some none∧qby sz n=[])∨(qcn b n=some (some b)∧qby sz n=[.tail n sz]):=by
 cases n with
 | zero=>exact .inl ⟨rfl,rfl⟩
 | succ n=>exact .inr ⟨rfl,rfl⟩
def qAD (id sz:Nat) (cs:List AVal) (tm:Tmps):Tmps:=fun i=>frz id sz cs (tm i)
theorem qtr (id sz:Nat) (cs:List AVal) (tm:Tmps) (i:Nat):qAD id sz cs tm i=frz id sz cs (tm i):=rfl
theorem qqL (id sz:Nat) (cs:List AVal) (tm:Tmps) (h:Heap):qiS id sz cs ⟨tm,h⟩=if qaw cs=true∧cs.all leaf=true then ⟨qAD id sz cs tm,(h.set id .gone).map (qiT id sz cs)⟩ else ⟨tm,h⟩:=rfl
theorem qlD (t:Nat) (tm:Tmps) (h:Heap):qe0 t ⟨tm,h⟩=match tm t with
 | .ptr (some (id,0))=>(match h[id]? with | some (.box cs)=>qiS id 0 (cs.map wipeCell) ⟨tm,h⟩ | _=>⟨tm,h⟩)
 | .vec id _=>(match h[id]? with | some (.vec cs sz)=>qiS id sz (cs.map wipeCell) ⟨tm,h⟩ | _=>⟨tm,h⟩)
 | _=>⟨tm,h⟩:=rfl
theorem qnU:qpp .gone=[]:=rfl
theorem qqR (cs:List AVal):qpp (.box cs)=cs.flatMap qa0:=rfl
theorem qnW (n sz:Nat):qpp (.tail n sz)=[]:=rfl
theorem qnV:qpp (.map [])=[]:=rfl
theorem qoM (ρ:Nat→Option Nat):qeH ρ .gone=.gone:=rfl
theorem qrl (ρ:Nat→Option Nat) (cs:List AVal):qeH ρ (.box cs)=.box (cs.map (ren ρ)):=rfl
theorem qoO (ρ:Nat→Option Nat) (n sz:Nat):qeH ρ (.tail n sz)=.tail n sz:=rfl
theorem qoN (ρ:Nat→Option Nat):qeH ρ (.map [])=.map []:=rfl
theorem qrh (call:CallT) (f:Nat) (args:List AVal) (h:Heap):qk7 call f args h=if (qbC args h).all (fun i=>decide (i<h.length))=true then
  match call f (args.map (ren fun i=>qax i (qbC args h) 0)) (qcH (qbC args h) h) with
  | some (r,h2)=>some (qpC (qbC args h) (qon (qbC args h).length r h2) h.length r,qe6 (qbC args h) (qon (qbC args h).length r h2) h h2)
  | none=>none
 else none:=rfl
theorem qoo (k:Nat) (v:AVal) (h2:Heap):qon k (.val v) h2=qdo k (qa0 v++(h2.take k).flatMap qpp) []:=rfl
theorem qlo (l nl:List Nat) (n j:Nat):qcC l nl n j=if j<l.length then l[j]? else (qax j nl 0).map (n+·):=rfl
theorem ql9 (args:List AVal) (h:Heap):qbC args h=grow h (grow h (grow h (qdo 0 (args.flatMap qa0) []))):=rfl
theorem qtu (h:Heap) (l:List Nat):grow h l=qdo 0 (l.flatMap fun i=>qpp ((h[i]?).getD .gone)) l:=rfl
theorem qmf (l:List Nat) (h:Heap):qcH l h=l.map fun i=>qeH (fun i=>qax i l 0) ((h[i]?).getD .gone):=rfl
def pb (l nl:List Nat) (n:Nat) (h2:Heap):Heap→Nat→Heap
 | [],_=>[]
 | o::os,i=>(match qax i l 0 with | some j=>qeH (qcC l nl n) ((h2[j]?).getD .gone) | none=>o)::pb l nl n h2 os (i+1)
theorem qwL (l nl:List Nat) (n:Nat) (h2:Heap) (i:Nat):pb l nl n h2 [] i=[]:=rfl
theorem qks (l nl:List Nat) (n:Nat) (h2:Heap) (o:AObj) (os:Heap) (i:Nat):pb l nl n h2 (o::os) i=(match qax i l 0 with | some j=>qeH (qcC l nl n) ((h2[j]?).getD .gone) | none=>o)::pb l nl n h2 os (i+1):=rfl
theorem qow (l nl:List Nat) (n:Nat) (h2:Heap):∀ (h:Heap) (k:Nat),(pb l nl n h2 h k).length=h.length
 | [],k=>rfl
 | o::os,k=>by rw[qks,List.length_cons,List.length_cons,qow l nl n h2 os]
theorem qwK (l nl:List Nat) (n:Nat) (h2:Heap):∀ (h:Heap) (k i:Nat) (o:AObj),h[i]? = some o→(pb l nl n h2 h k)[i]? = some (match qax (k+i) l 0 with | some j=>qeH (qcC l nl n) ((h2[j]?).getD .gone) | none=>o)
 | [],k,i,o,e=>by simp at e
 | x :: os,k,0,o,e => by
   simp at e
   subst e
   rw[qks,List.getElem?_cons_zero,Nat.add_zero]
 | x :: os,k,i + 1,o,e => by
   rw[qks,List.getElem?_cons_succ,qwK l nl n h2 os (k+1) i o (by simpa using e)]
   rw[show k+1+i=k+(i+1) by omega]
theorem ql3 (l nl:List Nat) (h h2:Heap):qe6 l nl h h2=pb l nl h.length h2 h 0++nl.map fun j=>qeH (qcC l nl h.length) ((h2[j]?).getD .gone):=by
 unfold qe6
 congr 1
 refine List.ext_getElem? fun i=>?_
 by_cases hi:i<h.length
 ·rw[qwK l nl _ h2 h 0 i h[i] (List.getElem?_eq_getElem hi),Nat.zero_add]
  rw[List.getElem?_map,List.getElem?_range hi]
  simp only[Option.map_some,List.getElem?_eq_getElem hi,Option.getD_some]
  cases qax i l 0<;>rfl
 ·rw[List.getElem?_eq_none (by simp;omega),List.getElem?_eq_none (by rw[qow];omega)]
theorem qjw (l nl:List Nat) (n:Nat) (v:AVal):qpC l nl n (.val v)=.val (ren (qcC l nl n) v):=rfl
theorem qlg (cs:List AVal):acells (.agg cs)=cs:=rfl
theorem qpv (b:Bool):acells (.bool b)=[.bool b]:=rfl
theorem qlh (k:IntKind) (n:Int):acells (.int k n)=[.int k n]:=rfl
theorem qrA (b:ByteArray):acells (.str b)=[.str b]:=rfl
theorem qjo (xs:List AVal) (o:Option (Option Nat)):acells (.list xs o)=[.list xs o]:=rfl
theorem qlj (a:Option (Nat × Nat)):acells (.ptr a)=[.ptr a]:=rfl
theorem qjq (cs:List AVal) (n:Nat):acells (.vptr cs n)=[.vptr cs n]:=rfl
theorem qli (a:Option Nat):acells (.map a)=[.map a]:=rfl
theorem qjn (f:Nat) (a b:List AVal):acells (.func f a b)=[.func f a b]:=rfl
theorem qrz (a b c:Nat):acells (.ref a b c)=[.ref a b c]:=rfl
theorem qnn (cs:List AVal):acells (.tuple cs)=[.tuple cs]:=rfl
theorem qok:qfL=1073741824:=rfl
theorem qns {α:Type} (p:α→Prop) (a:α) (l:List α):(∀ x∈a::l,p x)↔p a∧∀ x∈l,p x:=List.forall_mem_cons
theorem qpx {α:Type} (p:α→Prop):(∀ x∈([]:List α),p x)↔True:=by simp
theorem qiu (l:List Step) (tm:Tmps) (hs:List Heap) (c:Nat × Nat × Nat) (cs:List (Nat × Nat × Nat)):qfy l tm hs (c::cs)=(qnA l tm hs c.1 c.2.1 c.2.2∧qfy l tm hs cs):=rfl
theorem qjH (l:List Step) (tm:Tmps) (hs:List Heap):qfy l tm hs []=True:=rfl
theorem qnB (l:List Step) (tm:Tmps) (hs:List Heap) (i lo hi:Nat):qnA l tm hs i lo hi=match l[i]? with
 | some ⟨some d,g,o⟩=>qae g tm=some true→∀ h∈(hs.drop lo).take (hi+1-lo),aOp (fun _=>false) qew o tm h=some (.val (tm d),h)
 | _=>True:=rfl
theorem qAe:(true==true)=true:=rfl
theorem qzk:(true==false)=false:=rfl
theorem qzj:(false==true)=false:=rfl
theorem qAd:(false==false)=true:=rfl
theorem qru (cs:List AVal):wipe (.agg cs)=.agg (cs.map wipeCell):=rfl
theorem qpo (xs:List AVal) (o:Option (Option Nat)):wipe (.list xs o)=.list xs none:=rfl
theorem qpm (b:Bool):wipe (.bool b)=.bool b:=rfl
theorem qrv (k:IntKind) (n:Int):wipe (.int k n)=.int k n:=rfl
theorem qws (b:ByteArray):wipe (.str b)=.str b:=rfl
theorem qkT (cs:List AVal):wipeR (.tuple cs)=.tuple (cs.map wipe):=rfl
theorem qpj (cs:List AVal):wipeR (.agg cs)=.agg (cs.map wipeCell):=rfl
theorem qgv (xs:List AVal) (o:Option (Option Nat)):wipeR (.list xs o)=.list xs none:=rfl
theorem qml (b:Bool):wipeR (.bool b)=.bool b:=rfl
theorem qpk (k:IntKind) (n:Int):wipeR (.int k n)=.int k n:=rfl
theorem quQ (b:ByteArray):wipeR (.str b)=.str b:=rfl
theorem qrx (a:Option (Nat × Nat)):wipe (.ptr a)=.ptr a:=rfl
theorem qds (cs:List AVal) (n:Nat):wipe (.vptr cs n)=.vptr cs n:=rfl
theorem qrw (a:Option Nat):wipe (.map a)=.map a:=rfl
theorem qpn (f:Nat) (a b:List AVal):wipe (.func f a b)=.func f a b:=rfl
theorem qwr (a b c:Nat):wipe (.ref a b c)=.ref a b c:=rfl
theorem qmk (xs:List AVal) (o:Option (Option Nat)):wipeCell (.list xs o)=.list xs none:=rfl
theorem qsu (b:Bool):wipeCell (.bool b)=.bool b:=rfl
theorem qpi (k:IntKind) (n:Int):wipeCell (.int k n)=.int k n:=rfl
theorem quP (b:ByteArray):wipeCell (.str b)=.str b:=rfl
theorem qaS (xs:List AVal):qaB (.list xs none)=qaw xs:=by simp[qaB]
theorem qfk (xs:List AVal):qaB (.list xs (some none))=qaw xs:=by simp[qaB]
theorem qfl (xs:List AVal) (i:Nat):qaB (.list xs (some (some i)))=false:=by simp[qaB]
theorem qj6 (b:Bool):qaB (.bool b)=true:=rfl
theorem qh8 (k:IntKind) (n:Int):qaB (.int k n)=true:=rfl
theorem qrY (b:ByteArray):qaB (.str b)=true:=rfl
theorem qlJ (cs:List AVal):qaB (.agg cs)=qaw cs:=rfl
theorem qfG (cs:List AVal):qaB (.tuple cs)=qaw cs:=rfl
theorem qj7 (f:Nat) (a b:List AVal):qaB (.func f a b)=(qaw a && qaw b):=rfl
theorem qj9 (cs:List AVal) (n:Nat):qaB (.vptr cs n)=qaw cs:=rfl
theorem qlL (a:Nat × Nat):qaB (.ptr (some a))=false:=rfl
theorem qlK (a:Nat):qaB (.map (some a))=false:=rfl
theorem qj8:qaB .junk=true:=rfl
theorem qgY:qaw []=true:=rfl
theorem qfF (v:AVal) (vs:List AVal):qaw (v::vs)=(qaB v && qaw vs):=rfl
theorem qef (a b:List AVal):qaw (a++b)=(qaw a && qaw b):=by
 induction a with
 | nil=>rfl
 | cons x xs ih=>rw[List.cons_append,qaw,qaw,ih,Bool.and_assoc]
theorem qdU {α:Type} (f:α→AVal) (h:∀ a,qaB (f a)=true) (l:List α):qaw (l.map f)=true:=by
 induction l with
 | nil=>rfl
 | cons x xs ih=>rw[List.map_cons,qaw,h,ih];rfl
theorem all_map {α:Type} (f:α→AVal) (n:Nat) (h:∀ a,(acells (f a)).length=n) (l:List α):((l.map f).all fun v=>decide ((acells v).length=n))=true:=by
 rw[List.all_eq_true]
 intro x hx
 obtain⟨a,_,rfl⟩:=List.mem_map.1 hx
 simp[h a]
theorem qlV (n:Nat) (acc:List Nat):qdo n [] acc=acc:=rfl
theorem qkm (n i:Nat) (is acc:List Nat):qdo n (i::is) acc=qdo n is (if n≤i∧i∉acc then acc++[i] else acc):=rfl
theorem qqN (n:Nat) (l:List Nat) (i:Nat):qeq n l i=if i<n then some i else qax i l n:=rfl
noncomputable def qa1 (pure:Nat→Bool) (call:CallT) (b:Nat) (keep fk:List Nat) (body:ACode) (s:St):Option (AExit × St) :=
 match qaY pure call body s with
 | some (.normal,s')=>some (.normal,gc b keep s')
 | some (e,s')=>some (gcE b fk (e,s'))
 | none=>none
theorem qoR (pure:Nat→Bool) (call:CallT) (b:Nat) (keep fk:List Nat) (body:ACode) (s:St):qa1 pure call b keep fk body s=match qaY pure call body s with
 | some (.normal,s')=>some (.normal,gc b keep s')
 | some (e,s')=>some (gcE b fk (e,s'))
 | none=>none:=rfl
noncomputable def qa2 (pure:Nat→Bool) (call:CallT) (b:Nat) (keep fk:List Nat) (id:Nat) (body:ACode) (s:St):Option (AExit × St) :=
 (match (match qaY pure call body s with
   | some (.normal,s')=>qkf (fun s1=>qaY pure call body (gc b keep s1)) s'
   | r=>r) with
  | some (.exit id',s')=>if id'=id then some (AExit.normal,s') else some (AExit.exit id',s')
  | r=>r).map (gcE b fk)
theorem qlv (pure:Nat→Bool) (call:CallT) (keep fk:List Nat) (id:Nat) (body:ACode) (tm:Tmps) (h:Heap) :
  qaY pure call (.frame fk (.block id (.gloop keep body))) ⟨tm,h⟩=qa2 pure call h.length keep fk id body (gc h.length keep ⟨tm,h⟩):=by
 unfold qa2
 simp only[qaY]
 rw[qq8]
 rfl
section
variable {pure:Nat→Bool} {call:CallT} {b:Nat} {keep fk:List Nat} {id:Nat} {body:ACode}
theorem qdM {s s1:St} (h:qa1 pure call b keep fk body s=some (.normal,s1)):qa2 pure call b keep fk id body s=qa2 pure call b keep fk id body s1:=by
 unfold qa1 at h
 unfold qa2
 cases hx:qaY pure call body s with
 | none=>rw[hx] at h;cases h
 | some x =>
   obtain⟨e,s'⟩:=x
   rw[hx] at h
   cases e with
   | normal =>
     simp only[Option.some.injEq,Prod.mk.injEq,true_and] at h
     dsimp only
     rw[qq8,h]
     rfl
   | panic v=>simp[gcE] at h
   | exit i=>simp[gcE] at h
   | ret=>simp[gcE] at h
theorem qb4 {s s1:St} (h:qa1 pure call b keep fk body s=some (.exit id,s1)):qa2 pure call b keep fk id body s=some (.normal,s1):=by
 unfold qa1 at h
 unfold qa2
 cases hx:qaY pure call body s with
 | none=>rw[hx] at h;cases h
 | some x =>
   obtain⟨e,s'⟩:=x
   rw[hx] at h
   cases e with
   | normal=>simp at h
   | panic v=>simp[gcE] at h
   | exit i =>
     simp only[gcE,Option.some.injEq,Prod.mk.injEq,AExit.exit.injEq] at h
     obtain⟨rfl,rfl⟩:=h
     simp[gcE]
   | ret=>simp[gcE] at h
theorem qkh {s s1:St} (h:qa1 pure call b keep fk body s=some (.ret,s1)):qa2 pure call b keep fk id body s=some (.ret,s1):=by
 unfold qa1 at h
 unfold qa2
 cases hx:qaY pure call body s with
 | none=>rw[hx] at h;cases h
 | some x =>
   obtain⟨e,s'⟩:=x
   rw[hx] at h
   cases e with
   | normal=>simp at h
   | panic v=>simp[gcE] at h
   | exit i=>simp[gcE] at h
   | ret =>
     simp only[gcE,Option.some.injEq,Prod.mk.injEq,true_and] at h
     subst h
     rfl
def qbQ:List Int→Int
 | []=>0
 | e::es=>if e=0 then qbQ es else e
def qaF {α β:Type} (g:Nat→α→Option β):List α→Nat→Option β
 | [],_=>none
 | x::xs,i=>match g i x with | some r=>some r | none=>qaF g xs (i+1)
theorem qpV (C:Nat→St) (n:Nat) {T:St} (hstep:∀ i,i<n→qa1 pure call b keep fk body (C i)=some (.normal,C (i+1)))
  (hend:qa1 pure call b keep fk body (C n)=some (.exit id,T)):qa2 pure call b keep fk id body (C 0)=some (.normal,T):=by
 have key:∀ k i,i+k=n→qa2 pure call b keep fk id body (C i)=some (.normal,T):=by
  intro k
  induction k with
  | zero=>intro i hi;rw[Nat.add_zero] at hi;subst hi;exact qb4 hend
  | succ k ih=>intro i hi;rw[qdM (hstep i (by omega))];exact ih (i+1) (by omega)
 exact key n 0 (by omega)
def qbf {β:Type} (R:β→St) (T:St):Option β→AExit × St
 | some r=>(.ret,R r)
 | none=>(.normal,T)
theorem qfK (C:Nat→St) (n:Nat) (Q:Nat→Option (AExit × St)) {T:St}
  (hstep:∀ i,i<n→(qa1 pure call b keep fk body (C i)=some (.normal,C (i+1))∧Q i=Q (i+1))∨∃ s',qa1 pure call b keep fk body (C i)=some (.ret,s')∧Q i=some (.ret,s'))
  (hend:qa1 pure call b keep fk body (C n)=some (.exit id,T)) (hQ:Q n=some (.normal,T)):qa2 pure call b keep fk id body (C 0)=Q 0:=by
 have key:∀ k i,i+k=n→qa2 pure call b keep fk id body (C i)=Q i:=by
  intro k
  induction k with
  | zero=>intro i hi;rw[Nat.add_zero] at hi;subst hi;rw[qb4 hend,hQ]
  | succ k ih =>
    intro i hi
    rcases hstep i (by omega) with ⟨h1,h2⟩ | ⟨s',h1,h2⟩
    ·rw[qdM h1,h2];exact ih (i+1) (by omega)
    ·rw[qkh h1,h2]
 exact key n 0 (by omega)
theorem qtO {α:Type} (xs:List α) (g:α→Int) (C:Nat→St) (T:St) (R:Int→St)
  (h0:∀ (i:Nat) (hi:i<xs.length),g xs[i]=0→qa1 pure call b keep fk body (C i)=some (.normal,C (i+1)))
  (h1:∀ (i:Nat) (hi:i<xs.length),g xs[i]≠0→qa1 pure call b keep fk body (C i)=some (.ret,R (g xs[i])))
  (hend:qa1 pure call b keep fk body (C xs.length)=some (.exit id,T)) :
  qa2 pure call b keep fk id body (C 0)=some (if qbQ (xs.map g)=0 then (.normal,T) else (.ret,R (qbQ (xs.map g)))):=by
 refine qfK C xs.length (fun i=>some (if qbQ ((xs.drop i).map g)=0 then (.normal,T) else (.ret,R (qbQ ((xs.drop i).map g))))) ?_ hend (by simp[qbQ])
 intro i hi
 have hdrop:xs.drop i=xs[i]::xs.drop (i+1):=List.drop_eq_getElem_cons hi
 rw[hdrop]
 simp only[List.map_cons,qbQ]
 by_cases he:g xs[i]=0
 ·left
  rw[if_pos he]
  exact⟨h0 i hi he,rfl⟩
 ·right
  rw[if_neg he,if_neg he]
  exact⟨_,h1 i hi he,rfl⟩
theorem qfJ {α:Type} (xs:List α) (p:α→Bool) (C:Nat→St) (T R:St)
  (h0:∀ (i:Nat) (hi:i<xs.length),p xs[i]=false→qa1 pure call b keep fk body (C i)=some (.normal,C (i+1)))
  (h1:∀ (i:Nat) (hi:i<xs.length),p xs[i]=true→qa1 pure call b keep fk body (C i)=some (.ret,R))
  (hend:qa1 pure call b keep fk body (C xs.length)=some (.exit id,T)) :
  qa2 pure call b keep fk id body (C 0)=some (if xs.any p=true then (.ret,R) else (.normal,T)):=by
 refine qfK C xs.length (fun i=>some (if (xs.drop i).any p=true then (.ret,R) else (.normal,T))) ?_ hend (by simp)
 intro i hi
 have hdrop:xs.drop i=xs[i]::xs.drop (i+1):=List.drop_eq_getElem_cons hi
 rw[hdrop]
 simp only[List.any_cons]
 by_cases he:p xs[i]=true
 ·right
  simp only[he,Bool.true_or,if_true]
  exact⟨_,h1 i hi he,rfl⟩
 ·left
  have he':p xs[i]=false:=by simpa using he
  simp only[he',Bool.false_or,and_true]
  exact h0 i hi he'
theorem qbN {α β:Type} (xs:List α) (g:Nat→α→Option β) (C:Nat→St) (T:St) (R:β→St)
  (h0:∀ (i:Nat) (hi:i<xs.length),g i xs[i]=none→qa1 pure call b keep fk body (C i)=some (.normal,C (i+1)))
  (h1:∀ (i:Nat) (hi:i<xs.length) (r:β),g i xs[i]=some r→qa1 pure call b keep fk body (C i)=some (.ret,R r))
  (hend:qa1 pure call b keep fk body (C xs.length)=some (.exit id,T)) :
  qa2 pure call b keep fk id body (C 0)=some (qbf R T (qaF g xs 0)):=by
 refine qfK C xs.length (fun i=>some (qbf R T (qaF g (xs.drop i) i))) ?_ hend (by simp[qaF,qbf])
 intro i hi
 have hdrop:xs.drop i=xs[i]::xs.drop (i+1):=List.drop_eq_getElem_cons hi
 rw[hdrop]
 simp only[qaF]
 cases he:g i xs[i] with
 | none =>
   left
   simp only[and_true]
   exact h0 i hi he
 | some r =>
   right
   exact⟨_,h1 i hi r he,rfl⟩
end
theorem qb3 {n:Int} (h1 : -2 ^ 63≤n) (h2:n<2 ^ 63):IntKind.i64.wrap n=n:=by
 have h:IntKind.i64.wrap n=(if (true && decide (n % 2 ^ 64≥2 ^ (64-1)))=true then n % 2 ^ 64-2 ^ 64 else n % 2 ^ 64):=rfl
 rw[h]
 by_cases hc:n % 2 ^ 64≥2 ^ (64-1)
 ·rw[if_pos (by simp only[Bool.true_and,decide_eq_true_eq];exact hc)]
  omega
 ·rw[if_neg (by simp only[Bool.true_and,decide_eq_true_eq];exact hc)]
  omega
set_option linter.defProp false in
def ev_:=And.intro @qnG <| And.intro @qqz <| And.intro @qnF <| And.intro @qrd <| And.intro @qos <| And.intro @qrb <| And.intro @qoq <| And.intro @qnD <| And.intro @qqB <| And.intro @qnC <| And.intro @qlu <| And.intro @qnE <| And.intro @qqA <| And.intro @qre <| And.intro @qlZ <| And.intro @qt2 <| And.intro @qwS <| And.intro @qrt <| And.intro @qn1 <| And.intro @qpT <| And.intro @qlg <| And.intro @qlh <| And.intro @qjo <| And.intro @qlj <| And.intro @qjq <| And.intro @qli <| And.intro @qjn <| And.intro @qlv <| And.intro @qzx <| And.intro @qlN <| And.intro @qka <| And.intro @qqM <| And.intro @qlV <| And.intro @qkm <| And.intro @qqN <| And.intro @qoM <| And.intro @qrl <| And.intro @qoO <| And.intro @qoN <| And.intro @qnU <| And.intro @qqR <| And.intro @qnW <| And.intro @qnV <| And.intro @qs5 <| And.intro @qrc <| And.intro @qor <| And.intro @qru <| And.intro @qpo <| And.intro @qpm <| And.intro @qrv <| And.intro @qkT <| And.intro @qpj <| And.intro @qgv <| And.intro @qml <| And.intro @qpk <| And.intro @qrx <| And.intro @qds <| And.intro @qrw <| And.intro @qpn <| And.intro @qmk <| And.intro @qpi <| And.intro @qaS <| And.intro @qfk <| And.intro @qfl <| And.intro @qj6 <| And.intro @qh8 <| And.intro @qlJ <| And.intro @qfG <| And.intro @qj7 <| And.intro @qj9 <| And.intro @qlL <| And.intro @qlK <| And.intro @qj8 <| And.intro @qgY <| And.intro @qfF <| And.intro @qef <| And.intro @qzk <| And.intro @qzj <| And.intro @beq_self_eq_true.{0} <| And.intro @Option.map_some.{0,0} <| And.intro @Option.map_none.{0,0} <| And.intro @Option.getD_some.{0} <| And.intro @Option.getD_none.{0} <| And.intro @List.map_cons.{0,0} <| And.intro @List.map_nil.{0,0} <| And.intro @List.flatMap_cons.{0,0} <| And.intro @List.flatMap_nil.{0,0} <| And.intro @List.length_cons.{0} <| And.intro @List.length_nil.{0} <| And.intro @List.length_append.{0} <| And.intro @List.length_map.{0,0} <| And.intro @List.cons_append.{0} <| And.intro @List.nil_append.{0} <| And.intro @List.append_nil.{0} <| And.intro @List.append_assoc.{0} <| And.intro @List.getElem?_nil.{0} <| And.intro @List.getElem?_cons_zero.{0} <| And.intro @List.getElem?_cons_succ.{0} <| And.intro @List.set_cons_zero.{0} <| And.intro @List.set_cons_succ.{0} <| And.intro @List.take_succ_cons.{0} <| And.intro @List.take_zero.{0} <| And.intro @List.drop_succ_cons.{0} <| And.intro @List.drop_zero.{0} <| And.intro @List.take_nil.{0} <| And.intro @List.drop_nil.{0} <| And.intro @List.all_cons.{0} <| And.intro @List.all_nil.{0} <| And.intro @List.mem_cons.{0} <| And.intro @List.not_mem_nil.{0} <| And.intro @Bool.and_true <| And.intro @Bool.true_and <| And.intro @Bool.and_false <| And.intro @Bool.false_and <| And.intro @Bool.or_true <| And.intro @Bool.true_or <| And.intro @Bool.or_false <| And.intro @Bool.false_or <| And.intro @Bool.not_true <| And.intro @Bool.not_false <| And.intro @Bool.false_eq_true <| And.intro @Bool.true_eq_false <| And.intro @and_true <| And.intro @true_and <| And.intro @and_false <| And.intro @false_and <| And.intro @or_true <| And.intro @or_false <| And.intro @not_true_eq_false <| And.intro @not_false_eq_true <| And.intro @decide_true <| And.intro @decide_false <| And.intro @and_self <| And.intro @Nat.le_refl <| And.intro @Nat.zero_le <| And.intro @Nat.add_zero <| And.intro @Nat.zero_add <| And.intro @Int.toNat_natCast <| And.intro @Int.natCast_nonneg <| And.intro @List.cons_ne_nil.{0} <| And.intro @qoR <| And.intro @qok <| And.intro @qiu <| And.intro @qjH <| And.intro @qnB <| And.intro @qnJ <| And.intro @List.map_append.{0,0} <| And.intro @qwD <| And.intro @Int.cast_ofNat_Int <| And.intro @qjM <| And.intro @qnH <| And.intro @qlD <| And.intro @qqL <| And.intro @qtr <| And.intro @Option.isSome_some.{0} <| And.intro @Option.isSome_none.{0} <| And.intro @qgB <| And.intro @qrh <| And.intro @ql9 <| And.intro @qtu <| And.intro @qmf <| And.intro @qoo <| And.intro @qlo <| And.intro @ql3 <| And.intro @qwL <| And.intro @qks <| @qjw
end Go.Abs
