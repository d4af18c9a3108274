/-
  Evaluating the abstract machine: the laws by which a simp set steps through code. Conditions: none.
-/
import Derived.Test.YtpchghpipgpkfaaDoorAbsB
set_option linter.unusedVariables false
namespace Go.Abs
theorem qww (tm:Tmps) (d t:Nat) (v:AVal):upd tm (some d) v t=if t=d then v else tm t:=rfl
theorem qrf (tm:Tmps) (v:AVal):upd tm none v=tm:=rfl
theorem qn1 (args:List AVal) (i:Nat):qdT args i=(args[i]?).getD (.tuple []):=rfl
theorem qtB (pure:Nat→Bool) (call:CallT) (s:St):qcd pure call [] s=some (.normal,s):=rfl
theorem qq4 (pure:Nat→Bool) (call:CallT) (d:Option Nat) (o:AOp) (r:List Step) (tm:Tmps) (h:Heap) :
  qcd pure call (⟨d,none,o⟩::r) ⟨tm,h⟩=match aOp pure call o tm h with | some (.val v,h')=>qcd pure call r ⟨upd tm d v,h'⟩ | some (.panic v,h')=>some (.panic v,⟨tm,h'⟩) | none=>none:=rfl
theorem qlT (pure:Nat→Bool) (call:CallT) (d:Option Nat) (g:Option Nat × Bool) (o:AOp) (r:List Step) (tm:Tmps) (h:Heap) :
  qcd pure call (⟨d,some g,o⟩::r) ⟨tm,h⟩=match qae (some g) tm with
   | some true=>(match aOp pure call o tm h with | some (.val v,h')=>qcd pure call r ⟨upd tm d v,h'⟩ | some (.panic v,h')=>some (.panic v,⟨tm,h'⟩) | none=>none)
   | some false=>qcd pure call r ⟨upd tm d (.tuple []),h⟩
   | none=>none:=rfl
theorem qq3 (pure:Nat→Bool) (call:CallT) (s:St):qd1 pure call [] s=some (.normal,s):=rfl
theorem qot (pure:Nat→Bool) (call:CallT) (d:Option Nat) (o:AOp) (r:List Step) (tm:Tmps) (h:Heap) :
  qd1 pure call (⟨d,none,o⟩::r) ⟨tm,h⟩=match qhG pure call o tm h with | some (.val v,h')=>qd1 pure call r ⟨upd tm d v,h'⟩ | some (.panic v,h')=>some (.panic v,⟨tm,h'⟩) | none=>none:=rfl
theorem qtx (pure:Nat→Bool) (call:CallT) (k:Nat) (args:List Opd) (tm:Tmps) (h:Heap):qhG pure call (.pcall k args) tm h=qmA call k (args.map (opd tm)) h:=rfl
theorem qq1 (pure:Nat→Bool) (call:CallT) (x:Opd) (tm:Tmps) (h:Heap):qhG pure call (.move x) tm h=some (.val (opd tm x),h):=rfl
theorem qtw (pure:Nat→Bool) (call:CallT) (n:Nat) (a:Opd) (tm:Tmps) (h:Heap):qhG pure call (.loadN n a) tm h=aOp pure call (.loadN n a) tm h:=rfl
theorem qor (pure:Nat→Bool) (call:CallT) (n:Nat) (a:Opd) (tm:Tmps) (h:Heap):qhG pure call (.field n a) tm h=aOp pure call (.field n a) tm h:=rfl
theorem qpU (pure:Nat→Bool) (call:CallT) (n:Nat) (a:Opd) (tm:Tmps) (h:Heap):qhG pure call (.extract n a) tm h=aOp pure call (.extract n a) tm h:=rfl
def qnx (l:List Step) (tm:Tmps) (hs:List Heap) (i lo hi:Nat):Prop :=
 match l[i]? with
 | some ⟨some d,g,o⟩=>qae g tm=some true→∀ h∈(hs.drop lo).take (hi+1-lo),aOp (fun _=>false) qex o tm h=some (.val (tm d),h)
 | _=>True
def qfr (l:List Step) (tm:Tmps) (hs:List Heap):List (Nat × Nat × Nat)→Prop
 | []=>True
 | c::cs=>qnx l tm hs c.1 c.2.1 c.2.2∧qfr l tm hs cs
theorem qsB {l:List Step} {tm:Tmps} {hs:List Heap} {c:Nat × Nat × Nat} (h:qnx l tm hs c.1 c.2.1 c.2.2):qju l tm hs c:=by
 intro s d h1 h2 h3 k hp hk1 hk2 hk
 unfold qnx at h
 obtain⟨d',g,o⟩:=s
 dsimp only at h2
 subst h2
 rw[h1] at h
 refine h h3 hp ?_
 refine List.mem_of_getElem? (i:=k-c.2.1) ?_
 rw[List.getElem?_take,if_pos (by omega),List.getElem?_drop,show c.2.1+(k-c.2.1)=k by omega]
 exact hk
theorem qlg {l:List Step} {tm:Tmps} {hs:List Heap}:∀ {cs:List (Nat × Nat × Nat)},qfr l tm hs cs→∀ c∈cs,qju l tm hs c
 | [],_=>by simp
 | c :: cs,h => by
   intro c' hc
   rcases List.mem_cons.1 hc with rfl | hc
   ·exact qsB h.1
   ·exact qlg h.2 c' hc
theorem qwS {pure:Nat→Bool} {call:CallT} {l:List Step} {cs:List (Nat × Nat × Nat)} {s:St} {tm:Tmps} {hs:List Heap} {h:Heap}
  (hr:qc6 pure call l s.tm [] s.h=some (tm,hs,h)) (hc:qfr l tm hs cs):qgz pure call l cs s=some (.normal,⟨tm,h⟩):=by
 unfold qgz
 rw[hr]
 exact if_pos (qlg hc)
noncomputable def qp8 (pure:Nat→Bool) (call:CallT) (l:List Step) (cs:List (Nat × Nat × Nat)) (s:St):Option (AExit × St):=qgz pure call l cs s
open Classical in
noncomputable def qsK (pure:Nat→Bool) (call:CallT) (l:List Step) (cs:List (Nat × Nat × Nat)) (s:St) (r:Option (Tmps × List Heap × Heap)):Option (AExit × St) :=
 match r with
 | some (tm,hs,h)=>if qfr l tm hs cs then some (.normal,⟨tm,h⟩) else qp8 pure call l cs s
 | none=>qp8 pure call l cs s
theorem qsL (pure:Nat→Bool) (call:CallT) (l:List Step) (cs:List (Nat × Nat × Nat)) (s:St):qgz pure call l cs s=qsK pure call l cs s (qc6 pure call l s.tm [] s.h):=by
 unfold qsK
 split
 ·rename_i tm hs h hr
  split
  ·rename_i hc
   exact qwS hr hc
  ·rfl
 ·rfl
open Classical in
theorem qnI (pure:Nat→Bool) (call:CallT) (l:List Step) (cs:List (Nat × Nat × Nat)) (s:St) (tm:Tmps) (hs:List Heap) (h:Heap) :
  qsK pure call l cs s (some (tm,hs,h))=if qfr l tm hs cs then some (.normal,⟨tm,h⟩) else qp8 pure call l cs s:=rfl
theorem qq2 (pure:Nat→Bool) (call:CallT) (tm:Tmps) (hs:List Heap) (h:Heap):qc6 pure call [] tm hs h=some (tm,hs++[h],h):=rfl
theorem qos (pure:Nat→Bool) (call:CallT) (d:Option Nat) (g:Option (Option Nat × Bool)) (o:AOp) (r:List Step) (tm:Tmps) (hs:List Heap) (h:Heap) :
  qc6 pure call (⟨d,g,o⟩::r) tm hs h=match qae g tm with
   | some true=>(match aOp pure call o tm h with | some (.val v,h')=>qc6 pure call r (upd tm d v) (if qaB o=true then hs++[h] else hs) h' | _=>none)
   | some false=>qc6 pure call r (upd tm d (.tuple [])) (if qaB o=true then hs++[h] else hs) h
   | none=>none:=rfl
theorem qqy {h:Heap} {v:AVal} (hv:qax (wipeR v)=true):qeo h v=wipeR v:=if_pos hv
theorem qpG {pure:Nat→Bool} {call:CallT} {f:Nat} {args:List AVal} {h:Heap} (hd:qas (args.map wipe)=false):qb8 pure call f args h=qiH call f args h:=by
 unfold qb8
 rw[if_neg (by rw[hd];exact fun hx=>by cases hx.2)]
noncomputable def pcall (L:Lib) (f:Nat) (args:List AVal) (h:Heap):Option (ARes × Heap) :=
 match call L f args [] with
 | some (.val v,h2)=>if qax (qeo h2 v)=true then some (.val (qeo h2 v),h) else none
 | some (.panic v,h2)=>if qax (qeo h2 v)=true then some (.panic (qeo h2 v),h) else none
 | none=>none
theorem qan (L:Lib) (hp:∀ f,L.pure f=true) (f:Nat) (args:List AVal) (h:Heap) :
  qb8 L.pure (call L) f args h=if qas (args.map wipe)=true then pcall L f (args.map wipe) h else qiH (call L) f args h:=by
 unfold qb8 pcall
 by_cases hd:qas (args.map wipe)=true
 ·rw[if_pos ⟨hp f,hd⟩,if_pos hd]
  cases call L f (args.map wipe) [] with
  | none=>rfl
  | some x=>obtain⟨v,h'⟩:=x;cases v<;>rfl
 ·rw[if_neg (fun hx=>hd hx.2),if_neg hd]
theorem qvU {L:Lib} {f:Nat} {fn:AFn} {args:List AVal} {v:AVal} (h':Heap) (hs:L.summ f=none) (hf:L.fns f=some fn)
  (hr:qap fn.results (qaS L.pure (call L) fn.body ⟨qdT args,[]⟩)=some (.val v,h')) (hv:qax (wipeR v)=true) (h:Heap):pcall L f args h=some (.val (wipeR v),h):=by
 unfold pcall
 rw[qaM hs hf hr]
 dsimp only
 rw[qqy hv,if_pos hv]
theorem qb5 {L:Lib} {f:Nat} {args:List AVal} {v u:AVal} {h':Heap} (hr:call L f args []=some (.val v,h')) (hu:qeo h' v=u) (hd:qax u=true) (h:Heap):pcall L f args h=some (.val u,h):=by
 unfold pcall
 rw[hr]
 dsimp only
 rw[hu,if_pos hd]
theorem qkg {h:Heap} {v u:AVal} (hp:qfD u=true) (hd:qeo h v=u):v=u:=by
 unfold qeo at hd
 split at hd
 ·cases v<;>simp only[wipeR,wipe,wipeCell] at hd<;>subst hd<;>first | rfl | (simp[qfD] at hp)
 ·rename_i hn
  exfalso
  unfold viewV at hd
  rw[qaV] at hd
  split at hd
  ·rename_i hdd
   exact hn (by cases v<;>simp only[wipeR,wipe,wipeCell] at hd ⊢ <;> first | (subst hd;first | rfl | (simp[qfD] at hp;done)) | (exfalso;revert hp;rw[← hd];simp[qfD]))
  ·unfold qck at hd
   cases v<;>(try dsimp only at hd)<;>(repeat' (first | (simp only[wipeR,wipe,wipeCell] at hd;subst hd;simp[qfD] at hp;done) | split at hd))
theorem qgR {L:Lib} {f:Nat} {args args':List AVal} {h:Heap} {u:AVal} (ha:args.map (lookV h)=args') (hd:qas args'=true) (hp:qfD u=true) (hc:pcall L f args' h=some (.val u,h)):qiJ (call L) f args h=some (.val u,h):=by
 unfold pcall at hc
 unfold qiJ
 rw[ha,if_pos hd]
 split at hc
 ·rename_i v h2 he
  rw[he]
  dsimp only
  split at hc
  ·simp only[Option.some.injEq,Prod.mk.injEq,ARes.val.injEq,and_true] at hc
   rw[qkg hp hc,if_pos hp]
  ·cases hc
 ·split at hc
  ·simp at hc
  ·cases hc
 ·cases hc
def kt:List Nat→List AVal→Tmps
 | k::ks,v::vs,t=>if t=k then v else kt ks vs t
 | _,_,_=>.junk
theorem qpN (k:Nat) (ks:List Nat) (v:AVal) (vs:List AVal) (t:Nat):kt (k::ks) (v::vs) t=if t=k then v else kt ks vs t:=rfl
theorem qwo (ks:List Nat) (t:Nat):kt ks [] t=.junk:=by cases ks<;>rfl
theorem qte (g:Nat→AVal):∀ (keep:List Nat),kt keep (keep.map g)=fun t=>if t∈keep then g t else .junk
 | []=>by funext t;simp[kt]
 | k :: ks => by
   funext t
   rw[List.map_cons,qpN,qte g ks]
   by_cases h:t=k<;>simp[h]
theorem qlE:qlD []=false:=rfl
theorem qjY (k:Nat) (ks:List Nat):qlD (k::ks)=decide (k=1000000):=rfl
theorem qy7 (b:Nat) (keep:List Nat) (tm:Tmps) (h:Heap):gc b keep ⟨tm,h⟩ =
  if qlD keep=true then ⟨kt (keep.drop 1) ((keep.drop 1).map tm),h⟩
  else if b≤h.length then ⟨kt keep (keep.map fun t=>ren (qeq b (qgn b keep ⟨tm,h⟩)) (tm t)),
   (h.take b).map (qej (qeq b (qgn b keep ⟨tm,h⟩)))++(qgn b keep ⟨tm,h⟩).map fun id=>qej (qeq b (qgn b keep ⟨tm,h⟩)) ((h[id]?).getD .gone)⟩ else ⟨tm,h⟩:=by
 unfold gc gc1 qAb
 rw[qte,qte]
theorem qqH (b:Nat) (keep:List Nat) (tm:Tmps) (h:Heap):qgn b keep ⟨tm,h⟩=qci b (keep.flatMap (fun t=>qaW (tm t))++(h.take b).flatMap qkK) []:=rfl
section
variable (pure:Nat→Bool) (call:CallT)
theorem qnF (s:St):qaS pure call .skip s=some (.normal,s):=rfl
theorem qqu (l:List Step) (s:St):qaS pure call (.ops l) s=qcd pure call l s:=rfl
theorem qnE (l:List Step) (s:St):qaS pure call (.kops l) s=qd1 pure call l s:=rfl
theorem qnC (l:List Step) (cs:List (Nat × Nat × Nat)) (s:St):qaS pure call (.draw l cs) s=qgz pure call l cs s:=rfl
theorem qqw (a b:ACode) (s:St):qaS pure call (.seq a b) s=match qaS pure call a s with | some (.normal,s')=>qaS pure call b s' | r=>r:=rfl
theorem qnB (c:Opd) (a b:ACode) (s:St):qaS pure call (.cond c a b) s=match opd s.tm c with | .bool t=>if t then qaS pure call a s else qaS pure call b s | _=>none:=rfl
theorem qlj (id:Nat) (c:ACode) (s:St):qaS pure call (.block id c) s=match qaS pure call c s with | some (.exit id',s')=>if id'=id then some (.normal,s') else some (.exit id',s') | r=>r:=rfl
theorem qgr (k:List Nat) (a b:ACode) (s:St):qaS pure call (.frame k (.seq a b)) s=(qaS pure call (.seq a b) s).map (gcE s.h.length k):=rfl
theorem qjA (t:Nat) (c:ACode) (s:St):qaS pure call (.freeze t c) s=qaS pure call c (qeZ t s):=rfl
theorem qnG (c:ACode) (s:St):qaS pure call (.view c) s=qaS pure call c (qo7 s):=rfl
theorem qnD (id:Nat) (s:St):qaS pure call (.exit id) s=some (.exit id,s):=rfl
theorem qqv (s:St):qaS pure call .ret s=some (.ret,s):=rfl
end
def qdb (b:Nat):Nat→Option (Option Nat)
 | 0=>some none
 | _+1=>some (some b)
def qbA (sz:Nat):Nat→Heap
 | 0=>[]
 | n+1=>[.tail (n+1) sz]
theorem qbP (b:Nat):qdb b 0=some none:=rfl
theorem qez (b n:Nat):qdb b (n+1)=some (some b):=rfl
theorem qbE (sz:Nat):qbA sz 0=[]:=rfl
theorem qdZ (sz n:Nat):qbA sz (n+1)=[.tail (n+1) sz]:=rfl
theorem qcs {b n:Nat} (h:0<n):qdb b n=some (some b):=by cases n with | zero=>omega | succ n=>rfl
theorem qb0 {sz n:Nat} (h:0<n):qbA sz n=[.tail n sz]:=by cases n with | zero=>omega | succ n=>rfl
theorem qeA (b sz n:Nat):(qdb b n=some none∧qbA sz n=[])∨(qdb b n=some (some b)∧qbA sz n=[.tail n sz]):=by
 cases n with
 | zero=>exact .inl ⟨rfl,rfl⟩
 | succ n=>exact .inr ⟨rfl,rfl⟩
def qAg (id sz:Nat) (cs:List AVal) (tm:Tmps):Tmps:=fun i=>frz id sz cs (tm i)
theorem qs1 (id sz:Nat) (cs:List AVal) (tm:Tmps) (i:Nat):qAg id sz cs tm i=frz id sz cs (tm i):=rfl
theorem qqG (id sz:Nat) (cs:List AVal) (tm:Tmps) (h:Heap):qiE id sz cs ⟨tm,h⟩=if qas cs=true∧cs.all leaf=true then ⟨qAg id sz cs tm,(h.set id .gone).map (qiF id sz cs)⟩ else ⟨tm,h⟩:=rfl
theorem qlt (t:Nat) (tm:Tmps) (h:Heap):qeZ t ⟨tm,h⟩=match tm t with
 | .ptr (some (id,0))=>(match h[id]? with | some (.box cs)=>qiE id 0 (cs.map wipeCell) ⟨tm,h⟩ | _=>⟨tm,h⟩)
 | .vec id _=>(match h[id]? with | some (.vec cs sz)=>qiE id sz (cs.map wipeCell) ⟨tm,h⟩ | _=>⟨tm,h⟩)
 | _=>⟨tm,h⟩:=rfl
theorem qnU:qkK .gone=[]:=rfl
theorem qqJ (cs:List AVal):qkK (.box cs)=cs.flatMap qaW:=rfl
theorem qnW (n sz:Nat):qkK (.tail n sz)=[]:=rfl
theorem qnV:qkK (.map [])=[]:=rfl
theorem qoG (ρ:Nat→Option Nat):qej ρ .gone=.gone:=rfl
theorem qra (ρ:Nat→Option Nat) (cs:List AVal):qej ρ (.box cs)=.box (cs.map (ren ρ)):=rfl
theorem qoI (ρ:Nat→Option Nat) (n sz:Nat):qej ρ (.tail n sz)=.tail n sz:=rfl
theorem qoH (ρ:Nat→Option Nat):qej ρ (.map [])=.map []:=rfl
theorem qmP (call:CallT) (f:Nat) (args:List AVal) (h:Heap):qiH call f args h=if (qbu args h).all (fun i=>decide (i<h.length))=true then
  match call f (args.map (ren fun i=>qav i (qbu args h) 0)) (qcB (qbu args h) h) with
  | some (r,h2)=>some (qpu (qbu args h) (qoo (qbu args h).length r h2) h.length r,qei (qbu args h) (qoo (qbu args h).length r h2) h h2)
  | none=>none
 else none:=rfl
theorem qj7 (k:Nat) (v:AVal) (h2:Heap):qoo k (.val v) h2=qci k (qaW v++(h2.take k).flatMap qkK) []:=rfl
theorem qlb (l nl:List Nat) (n j:Nat):qbW l nl n j=if j<l.length then l[j]? else (qav j nl 0).map (n+·):=rfl
theorem qh2 (args:List AVal) (h:Heap):qbu args h=grow h (grow h (grow h (qci 0 (args.flatMap qaW) []))):=rfl
theorem qpL (h:Heap) (l:List Nat):grow h l=qci 0 (l.flatMap fun i=>qkK ((h[i]?).getD .gone)) l:=rfl
theorem qh6 (l:List Nat) (h:Heap):qcB l h=l.map fun i=>qej (fun i=>qav i l 0) ((h[i]?).getD .gone):=rfl
def pb (l nl:List Nat) (n:Nat) (h2:Heap):Heap→Nat→Heap
 | [],_=>[]
 | o::os,i=>(match qav i l 0 with | some j=>qej (qbW l nl n) ((h2[j]?).getD .gone) | none=>o)::pb l nl n h2 os (i+1)
theorem qws (l nl:List Nat) (n:Nat) (h2:Heap) (i:Nat):pb l nl n h2 [] i=[]:=rfl
theorem qke (l nl:List Nat) (n:Nat) (h2:Heap) (o:AObj) (os:Heap) (i:Nat):pb l nl n h2 (o::os) i=(match qav i l 0 with | some j=>qej (qbW l nl n) ((h2[j]?).getD .gone) | none=>o)::pb l nl n h2 os (i+1):=rfl
theorem qkf (l nl:List Nat) (n:Nat) (h2:Heap):∀ (h:Heap) (k:Nat),(pb l nl n h2 h k).length=h.length
 | [],k=>rfl
 | o::os,k=>by rw[qke,List.length_cons,List.length_cons,qkf l nl n h2 os]
theorem qtE (l nl:List Nat) (n:Nat) (h2:Heap):∀ (h:Heap) (k i:Nat) (o:AObj),h[i]? = some o→(pb l nl n h2 h k)[i]? = some (match qav (k+i) l 0 with | some j=>qej (qbW l nl n) ((h2[j]?).getD .gone) | none=>o)
 | [],k,i,o,e=>by simp at e
 | x :: os,k,0,o,e => by
   simp at e
   subst e
   rw[qke,List.getElem?_cons_zero,Nat.add_zero]
 | x :: os,k,i + 1,o,e => by
   rw[qke,List.getElem?_cons_succ,qtE l nl n h2 os (k+1) i o (by simpa using e)]
   rw[show k+1+i=k+(i+1) by omega]
theorem qh0 (l nl:List Nat) (h h2:Heap):qei l nl h h2=pb l nl h.length h2 h 0++nl.map fun j=>qej (qbW l nl h.length) ((h2[j]?).getD .gone):=by
 unfold qei
 congr 1
 refine List.ext_getElem? fun i=>?_
 by_cases hi:i<h.length
 ·rw[qtE l nl _ h2 h 0 i h[i] (List.getElem?_eq_getElem hi),Nat.zero_add]
  rw[List.getElem?_map,List.getElem?_range hi]
  simp only[Option.map_some,List.getElem?_eq_getElem hi,Option.getD_some]
  cases qav i l 0<;>rfl
 ·rw[List.getElem?_eq_none (by simp;omega),List.getElem?_eq_none (by rw[qkf];omega)]
theorem qgB (l nl:List Nat) (n:Nat) (v:AVal):qpu l nl n (.val v)=.val (ren (qbW l nl n) v):=rfl
theorem qk3 (cs:List AVal):acells (.agg cs)=cs:=rfl
theorem qpn (b:Bool):acells (.bool b)=[.bool b]:=rfl
theorem qk4 (k:IntKind) (n:Int):acells (.int k n)=[.int k n]:=rfl
theorem qrn (b:ByteArray):acells (.str b)=[.str b]:=rfl
theorem qjc (xs:List AVal) (o:Option (Option Nat)):acells (.list xs o)=[.list xs o]:=rfl
theorem qk6 (a:Option (Nat × Nat)):acells (.ptr a)=[.ptr a]:=rfl
theorem qje (cs:List AVal) (n:Nat):acells (.vptr cs n)=[.vptr cs n]:=rfl
theorem qk5 (a:Option Nat):acells (.map a)=[.map a]:=rfl
theorem qjb (f:Nat) (a b:List AVal):acells (.func f a b)=[.func f a b]:=rfl
theorem qrm (a b c:Nat):acells (.ref a b c)=[.ref a b c]:=rfl
theorem qnj (cs:List AVal):acells (.tuple cs)=[.tuple cs]:=rfl
theorem qol:qe3=1073741824:=rfl
theorem qno {α:Type} (p:α→Prop) (a:α) (l:List α):(∀ x∈a::l,p x)↔p a∧∀ x∈l,p x:=List.forall_mem_cons
theorem qpp {α:Type} (p:α→Prop):(∀ x∈([]:List α),p x)↔True:=by simp
theorem qih (l:List Step) (tm:Tmps) (hs:List Heap) (c:Nat × Nat × Nat) (cs:List (Nat × Nat × Nat)):qfr l tm hs (c::cs)=(qnx l tm hs c.1 c.2.1 c.2.2∧qfr l tm hs cs):=rfl
theorem qjv (l:List Step) (tm:Tmps) (hs:List Heap):qfr l tm hs []=True:=rfl
theorem qny (l:List Step) (tm:Tmps) (hs:List Heap) (i lo hi:Nat):qnx l tm hs i lo hi=match l[i]? with
 | some ⟨some d,g,o⟩=>qae g tm=some true→∀ h∈(hs.drop lo).take (hi+1-lo),aOp (fun _=>false) qex o tm h=some (.val (tm d),h)
 | _=>True:=rfl
theorem qzS:(true==true)=true:=rfl
theorem qyY:(true==false)=false:=rfl
theorem qyX:(false==true)=false:=rfl
theorem qzR:(false==false)=true:=rfl
theorem qrh (cs:List AVal):wipe (.agg cs)=.agg (cs.map wipeCell):=rfl
theorem qpi (xs:List AVal) (o:Option (Option Nat)):wipe (.list xs o)=.list xs none:=rfl
theorem qpg (b:Bool):wipe (.bool b)=.bool b:=rfl
theorem qri (k:IntKind) (n:Int):wipe (.int k n)=.int k n:=rfl
theorem qwe (b:ByteArray):wipe (.str b)=.str b:=rfl
theorem qkH (cs:List AVal):wipeR (.tuple cs)=.tuple (cs.map wipe):=rfl
theorem qpe (cs:List AVal):wipeR (.agg cs)=.agg (cs.map wipeCell):=rfl
theorem qgm (xs:List AVal) (o:Option (Option Nat)):wipeR (.list xs o)=.list xs none:=rfl
theorem qmc (b:Bool):wipeR (.bool b)=.bool b:=rfl
theorem qpf (k:IntKind) (n:Int):wipeR (.int k n)=.int k n:=rfl
theorem qur (b:ByteArray):wipeR (.str b)=.str b:=rfl
theorem qrk (a:Option (Nat × Nat)):wipe (.ptr a)=.ptr a:=rfl
theorem qeG (cs:List AVal) (n:Nat):wipe (.vptr cs n)=.vptr cs n:=rfl
theorem qrj (a:Option Nat):wipe (.map a)=.map a:=rfl
theorem qph (f:Nat) (a b:List AVal):wipe (.func f a b)=.func f a b:=rfl
theorem qwd (a b c:Nat):wipe (.ref a b c)=.ref a b c:=rfl
theorem qmb (xs:List AVal) (o:Option (Option Nat)):wipeCell (.list xs o)=.list xs none:=rfl
theorem qsc (b:Bool):wipeCell (.bool b)=.bool b:=rfl
theorem qpd (k:IntKind) (n:Int):wipeCell (.int k n)=.int k n:=rfl
theorem quq (b:ByteArray):wipeCell (.str b)=.str b:=rfl
theorem qaT (xs:List AVal):qax (.list xs none)=qas xs:=by simp[qax]
theorem qfe (xs:List AVal):qax (.list xs (some none))=qas xs:=by simp[qax]
theorem qff (xs:List AVal) (i:Nat):qax (.list xs (some (some i)))=false:=by simp[qax]
theorem qjT (b:Bool):qax (.bool b)=true:=rfl
theorem qhT (k:IntKind) (n:Int):qax (.int k n)=true:=rfl
theorem qrI (b:ByteArray):qax (.str b)=true:=rfl
theorem qlA (cs:List AVal):qax (.agg cs)=qas cs:=rfl
theorem qfB (cs:List AVal):qax (.tuple cs)=qas cs:=rfl
theorem qjU (f:Nat) (a b:List AVal):qax (.func f a b)=(qas a && qas b):=rfl
theorem qjW (cs:List AVal) (n:Nat):qax (.vptr cs n)=qas cs:=rfl
theorem qlC (a:Nat × Nat):qax (.ptr (some a))=false:=rfl
theorem qlB (a:Nat):qax (.map (some a))=false:=rfl
theorem qjV:qax .junk=true:=rfl
theorem qgM:qas []=true:=rfl
theorem qfA (v:AVal) (vs:List AVal):qas (v::vs)=(qax v && qas vs):=rfl
theorem qee (a b:List AVal):qas (a++b)=(qas a && qas b):=by
 induction a with
 | nil=>rfl
 | cons x xs ih=>rw[List.cons_append,qas,qas,ih,Bool.and_assoc]
theorem qe1 {α:Type} (f:α→AVal) (h:∀ a,qax (f a)=true) (l:List α):qas (l.map f)=true:=by
 induction l with
 | nil=>rfl
 | cons x xs ih=>rw[List.map_cons,qas,h,ih];rfl
theorem all_map {α:Type} (f:α→AVal) (n:Nat) (h:∀ a,(acells (f a)).length=n) (l:List α):((l.map f).all fun v=>decide ((acells v).length=n))=true:=by
 rw[List.all_eq_true]
 intro x hx
 obtain⟨a,_,rfl⟩:=List.mem_map.1 hx
 simp[h a]
theorem qlM (n:Nat) (acc:List Nat):qci n [] acc=acc:=rfl
theorem qj6 (n i:Nat) (is acc:List Nat):qci n (i::is) acc=qci n is (if n≤i∧i∉acc then acc++[i] else acc):=rfl
theorem qqI (n:Nat) (l:List Nat) (i:Nat):qeq n l i=if i<n then some i else qav i l n:=rfl
noncomputable def qa8 (pure:Nat→Bool) (call:CallT) (b:Nat) (keep fk:List Nat) (body:ACode) (s:St):Option (AExit × St) :=
 match qaS pure call body s with
 | some (.normal,s')=>some (.normal,gc b keep s')
 | some (e,s')=>some (gcE b fk (e,s'))
 | none=>none
theorem qoK (pure:Nat→Bool) (call:CallT) (b:Nat) (keep fk:List Nat) (body:ACode) (s:St):qa8 pure call b keep fk body s=match qaS pure call body s with
 | some (.normal,s')=>some (.normal,gc b keep s')
 | some (e,s')=>some (gcE b fk (e,s'))
 | none=>none:=rfl
noncomputable def qbd (pure:Nat→Bool) (call:CallT) (b:Nat) (keep fk:List Nat) (id:Nat) (body:ACode) (s:St):Option (AExit × St) :=
 (match (match qaS pure call body s with
   | some (.normal,s')=>qj2 (fun s1=>qaS pure call body (gc b keep s1)) s'
   | r=>r) with
  | some (.exit id',s')=>if id'=id then some (AExit.normal,s') else some (AExit.exit id',s')
  | r=>r).map (gcE b fk)
theorem qlk (pure:Nat→Bool) (call:CallT) (keep fk:List Nat) (id:Nat) (body:ACode) (tm:Tmps) (h:Heap) :
  qaS pure call (.frame fk (.block id (.gloop keep body))) ⟨tm,h⟩=qbd pure call h.length keep fk id body (gc h.length keep ⟨tm,h⟩):=by
 unfold qbd
 simp only[qaS]
 rw[qqY]
 rfl
section
variable {pure:Nat→Bool} {call:CallT} {b:Nat} {keep fk:List Nat} {id:Nat} {body:ACode}
theorem qev {s s1:St} (h:qa8 pure call b keep fk body s=some (.normal,s1)):qbd pure call b keep fk id body s=qbd pure call b keep fk id body s1:=by
 unfold qa8 at h
 unfold qbd
 cases hx:qaS pure call body s with
 | none=>rw[hx] at h;cases h
 | some x =>
   obtain⟨e,s'⟩:=x
   rw[hx] at h
   cases e with
   | normal =>
     simp only[Option.some.injEq,Prod.mk.injEq,true_and] at h
     dsimp only
     rw[qqY,h]
     rfl
   | panic v=>simp[gcE] at h
   | exit i=>simp[gcE] at h
   | ret=>simp[gcE] at h
theorem qet {s s1:St} (h:qa8 pure call b keep fk body s=some (.exit id,s1)):qbd pure call b keep fk id body s=some (.normal,s1):=by
 unfold qa8 at h
 unfold qbd
 cases hx:qaS pure call body s with
 | none=>rw[hx] at h;cases h
 | some x =>
   obtain⟨e,s'⟩:=x
   rw[hx] at h
   cases e with
   | normal=>simp at h
   | panic v=>simp[gcE] at h
   | exit i =>
     simp only[gcE,Option.some.injEq,Prod.mk.injEq,AExit.exit.injEq] at h
     obtain⟨rfl,rfl⟩:=h
     simp[gcE]
   | ret=>simp[gcE] at h
theorem qj4 {s s1:St} (h:qa8 pure call b keep fk body s=some (.ret,s1)):qbd pure call b keep fk id body s=some (.ret,s1):=by
 unfold qa8 at h
 unfold qbd
 cases hx:qaS pure call body s with
 | none=>rw[hx] at h;cases h
 | some x =>
   obtain⟨e,s'⟩:=x
   rw[hx] at h
   cases e with
   | normal=>simp at h
   | panic v=>simp[gcE] at h
   | exit i=>simp[gcE] at h
   | ret =>
     simp only[gcE,Option.some.injEq,Prod.mk.injEq,true_and] at h
     subst h
     rfl
def qbG:List Int→Int
 | []=>0
 | e::es=>if e=0 then qbG es else e
def qaI {α β:Type} (g:Nat→α→Option β):List α→Nat→Option β
 | [],_=>none
 | x::xs,i=>match g i x with | some r=>some r | none=>qaI g xs (i+1)
theorem qj3 (C:Nat→St) (n:Nat) {T:St} (hstep:∀ i,i<n→qa8 pure call b keep fk body (C i)=some (.normal,C (i+1)))
  (hend:qa8 pure call b keep fk body (C n)=some (.exit id,T)):qbd pure call b keep fk id body (C 0)=some (.normal,T):=by
 have key:∀ k i,i+k=n→qbd pure call b keep fk id body (C i)=some (.normal,T):=by
  intro k
  induction k with
  | zero=>intro i hi;rw[Nat.add_zero] at hi;subst hi;exact qet hend
  | succ k ih=>intro i hi;rw[qev (hstep i (by omega))];exact ih (i+1) (by omega)
 exact key n 0 (by omega)
def qbx {β:Type} (R:β→St) (T:St):Option β→AExit × St
 | some r=>(.ret,R r)
 | none=>(.normal,T)
theorem qfF (C:Nat→St) (n:Nat) (Q:Nat→Option (AExit × St)) {T:St}
  (hstep:∀ i,i<n→(qa8 pure call b keep fk body (C i)=some (.normal,C (i+1))∧Q i=Q (i+1))∨∃ s',qa8 pure call b keep fk body (C i)=some (.ret,s')∧Q i=some (.ret,s'))
  (hend:qa8 pure call b keep fk body (C n)=some (.exit id,T)) (hQ:Q n=some (.normal,T)):qbd pure call b keep fk id body (C 0)=Q 0:=by
 have key:∀ k i,i+k=n→qbd pure call b keep fk id body (C i)=Q i:=by
  intro k
  induction k with
  | zero=>intro i hi;rw[Nat.add_zero] at hi;subst hi;rw[qet hend,hQ]
  | succ k ih =>
    intro i hi
    rcases hstep i (by omega) with ⟨h1,h2⟩ | ⟨s',h1,h2⟩
    ·rw[qev h1,h2];exact ih (i+1) (by omega)
    ·rw[qj4 h1,h2]
 exact key n 0 (by omega)
theorem qto {α:Type} (xs:List α) (g:α→Int) (C:Nat→St) (T:St) (R:Int→St)
  (h0:∀ (i:Nat) (hi:i<xs.length),g xs[i]=0→qa8 pure call b keep fk body (C i)=some (.normal,C (i+1)))
  (h1:∀ (i:Nat) (hi:i<xs.length),g xs[i]≠0→qa8 pure call b keep fk body (C i)=some (.ret,R (g xs[i])))
  (hend:qa8 pure call b keep fk body (C xs.length)=some (.exit id,T)) :
  qbd pure call b keep fk id body (C 0)=some (if qbG (xs.map g)=0 then (.normal,T) else (.ret,R (qbG (xs.map g)))):=by
 refine qfF C xs.length (fun i=>some (if qbG ((xs.drop i).map g)=0 then (.normal,T) else (.ret,R (qbG ((xs.drop i).map g))))) ?_ hend (by simp[qbG])
 intro i hi
 have hdrop:xs.drop i=xs[i]::xs.drop (i+1):=List.drop_eq_getElem_cons hi
 rw[hdrop]
 simp only[List.map_cons,qbG]
 by_cases he:g xs[i]=0
 ·left
  rw[if_pos he]
  exact⟨h0 i hi he,rfl⟩
 ·right
  rw[if_neg he,if_neg he]
  exact⟨_,h1 i hi he,rfl⟩
theorem qfE {α:Type} (xs:List α) (p:α→Bool) (C:Nat→St) (T R:St)
  (h0:∀ (i:Nat) (hi:i<xs.length),p xs[i]=false→qa8 pure call b keep fk body (C i)=some (.normal,C (i+1)))
  (h1:∀ (i:Nat) (hi:i<xs.length),p xs[i]=true→qa8 pure call b keep fk body (C i)=some (.ret,R))
  (hend:qa8 pure call b keep fk body (C xs.length)=some (.exit id,T)) :
  qbd pure call b keep fk id body (C 0)=some (if xs.any p=true then (.ret,R) else (.normal,T)):=by
 refine qfF C xs.length (fun i=>some (if (xs.drop i).any p=true then (.ret,R) else (.normal,T))) ?_ hend (by simp)
 intro i hi
 have hdrop:xs.drop i=xs[i]::xs.drop (i+1):=List.drop_eq_getElem_cons hi
 rw[hdrop]
 simp only[List.any_cons]
 by_cases he:p xs[i]=true
 ·right
  simp only[he,Bool.true_or,if_true]
  exact⟨_,h1 i hi he,rfl⟩
 ·left
  have he':p xs[i]=false:=by simpa using he
  simp only[he',Bool.false_or,and_true]
  exact h0 i hi he'
theorem qcO {α β:Type} (xs:List α) (g:Nat→α→Option β) (C:Nat→St) (T:St) (R:β→St)
  (h0:∀ (i:Nat) (hi:i<xs.length),g i xs[i]=none→qa8 pure call b keep fk body (C i)=some (.normal,C (i+1)))
  (h1:∀ (i:Nat) (hi:i<xs.length) (r:β),g i xs[i]=some r→qa8 pure call b keep fk body (C i)=some (.ret,R r))
  (hend:qa8 pure call b keep fk body (C xs.length)=some (.exit id,T)) :
  qbd pure call b keep fk id body (C 0)=some (qbx R T (qaI g xs 0)):=by
 refine qfF C xs.length (fun i=>some (qbx R T (qaI g (xs.drop i) i))) ?_ hend (by simp[qaI,qbx])
 intro i hi
 have hdrop:xs.drop i=xs[i]::xs.drop (i+1):=List.drop_eq_getElem_cons hi
 rw[hdrop]
 simp only[qaI]
 cases he:g i xs[i] with
 | none =>
   left
   simp only[and_true]
   exact h0 i hi he
 | some r =>
   right
   exact⟨_,h1 i hi r he,rfl⟩
end
theorem qcl {n:Int} (h1 : -2 ^ 63≤n) (h2:n<2 ^ 63):IntKind.i64.wrap n=n:=by
 have h:IntKind.i64.wrap n=(if (true && decide (n % 2 ^ 64≥2 ^ (64-1)))=true then n % 2 ^ 64-2 ^ 64 else n % 2 ^ 64):=rfl
 rw[h]
 by_cases hc:n % 2 ^ 64≥2 ^ (64-1)
 ·rw[if_pos (by simp only[Bool.true_and,decide_eq_true_eq];exact hc)]
  omega
 ·rw[if_neg (by simp only[Bool.true_and,decide_eq_true_eq];exact hc)]
  omega
set_option linter.defProp false in
def ev_:=And.intro @qnF <| And.intro @qqu <| And.intro @qnE <| And.intro @qq3 <| And.intro @qot <| And.intro @qq1 <| And.intro @qor <| And.intro @qnC <| And.intro @qqw <| And.intro @qnB <| And.intro @qlj <| And.intro @qnD <| And.intro @qqv <| And.intro @qq4 <| And.intro @qlT <| And.intro @qtB <| And.intro @qww <| And.intro @qrf <| And.intro @qn1 <| And.intro @qpN <| And.intro @qk3 <| And.intro @qk4 <| And.intro @qjc <| And.intro @qk6 <| And.intro @qje <| And.intro @qk5 <| And.intro @qjb <| And.intro @qlk <| And.intro @qy7 <| And.intro @qlE <| And.intro @qjY <| And.intro @qqH <| And.intro @qlM <| And.intro @qj6 <| And.intro @qqI <| And.intro @qoG <| And.intro @qra <| And.intro @qoI <| And.intro @qoH <| And.intro @qnU <| And.intro @qqJ <| And.intro @qnW <| And.intro @qnV <| And.intro @qsL <| And.intro @qq2 <| And.intro @qos <| And.intro @qrh <| And.intro @qpi <| And.intro @qpg <| And.intro @qri <| And.intro @qkH <| And.intro @qpe <| And.intro @qgm <| And.intro @qmc <| And.intro @qpf <| And.intro @qrk <| And.intro @qeG <| And.intro @qrj <| And.intro @qph <| And.intro @qmb <| And.intro @qpd <| And.intro @qaT <| And.intro @qfe <| And.intro @qff <| And.intro @qjT <| And.intro @qhT <| And.intro @qlA <| And.intro @qfB <| And.intro @qjU <| And.intro @qjW <| And.intro @qlC <| And.intro @qlB <| And.intro @qjV <| And.intro @qgM <| And.intro @qfA <| And.intro @qee <| And.intro @qyY <| And.intro @qyX <| And.intro @beq_self_eq_true.{0} <| And.intro @Option.map_some.{0,0} <| And.intro @Option.map_none.{0,0} <| And.intro @Option.getD_some.{0} <| And.intro @Option.getD_none.{0} <| And.intro @List.map_cons.{0,0} <| And.intro @List.map_nil.{0,0} <| And.intro @List.flatMap_cons.{0,0} <| And.intro @List.flatMap_nil.{0,0} <| And.intro @List.length_cons.{0} <| And.intro @List.length_nil.{0} <| And.intro @List.length_append.{0} <| And.intro @List.length_map.{0,0} <| And.intro @List.cons_append.{0} <| And.intro @List.nil_append.{0} <| And.intro @List.append_nil.{0} <| And.intro @List.append_assoc.{0} <| And.intro @List.getElem?_nil.{0} <| And.intro @List.getElem?_cons_zero.{0} <| And.intro @List.getElem?_cons_succ.{0} <| And.intro @List.set_cons_zero.{0} <| And.intro @List.set_cons_succ.{0} <| And.intro @List.take_succ_cons.{0} <| And.intro @List.take_zero.{0} <| And.intro @List.drop_succ_cons.{0} <| And.intro @List.drop_zero.{0} <| And.intro @List.take_nil.{0} <| And.intro @List.drop_nil.{0} <| And.intro @List.all_cons.{0} <| And.intro @List.all_nil.{0} <| And.intro @List.mem_cons.{0} <| And.intro @List.not_mem_nil.{0} <| And.intro @Bool.and_true <| And.intro @Bool.true_and <| And.intro @Bool.and_false <| And.intro @Bool.false_and <| And.intro @Bool.or_true <| And.intro @Bool.true_or <| And.intro @Bool.or_false <| And.intro @Bool.false_or <| And.intro @Bool.not_true <| And.intro @Bool.not_false <| And.intro @Bool.false_eq_true <| And.intro @Bool.true_eq_false <| And.intro @and_true <| And.intro @true_and <| And.intro @and_false <| And.intro @false_and <| And.intro @or_true <| And.intro @or_false <| And.intro @not_true_eq_false <| And.intro @not_false_eq_true <| And.intro @decide_true <| And.intro @decide_false <| And.intro @and_self <| And.intro @Nat.le_refl <| And.intro @Nat.zero_le <| And.intro @Nat.add_zero <| And.intro @Nat.zero_add <| And.intro @Int.toNat_natCast <| And.intro @Int.natCast_nonneg <| And.intro @List.cons_ne_nil.{0} <| And.intro @qoK <| And.intro @qol <| And.intro @qih <| And.intro @qjv <| And.intro @qny <| And.intro @qnI <| And.intro @List.map_append.{0,0} <| And.intro @qwo <| And.intro @Int.cast_ofNat_Int <| And.intro @qjA <| And.intro @qnG <| And.intro @qlt <| And.intro @qqG <| And.intro @qs1 <| And.intro @Option.isSome_some.{0} <| And.intro @Option.isSome_none.{0} <| And.intro @qgr <| And.intro @qmP <| And.intro @qh2 <| And.intro @qpL <| And.intro @qh6 <| And.intro @qj7 <| And.intro @qlb <| And.intro @qh0 <| And.intro @qws <| And.intro @qke <| @qgB
end Go.Abs
