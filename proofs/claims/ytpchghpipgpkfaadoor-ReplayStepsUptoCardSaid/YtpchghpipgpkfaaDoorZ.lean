/-
  A machine that computes what the abstract machine says, for examples that are fixed: what it finds, the abstract machine finds. Conditions: none.
-/
import Derived.Test.YtpchghpipgpkfaaDoorAbsB
set_option linter.unusedVariables false
set_option linter.unusedSimpArgs false
namespace Go.Abs
mutual
def eqV:AVal→AVal→Bool
 | .junk,.junk=>true
 | .bool a,.bool b=>a==b
 | .int k n,.int k' n'=>decide (k=k') && decide (n=n')
 | .str a,.str b=>decide (a=b)
 | .list xs o,.list ys o'=>qqA xs ys && decide (o=o')
 | .ref a b c,.ref a' b' c'=>decide (a=a') && decide (b=b') && decide (c=c')
 | .vec a b,.vec a' b'=>decide (a=a') && decide (b=b')
 | .ptr a,.ptr b=>decide (a=b)
 | .vptr cs o,.vptr cs' o'=>qqA cs cs' && decide (o=o')
 | .map a,.map b=>decide (a=b)
 | .func f a b,.func f' a' b'=>decide (f=f') && qqA a a' && qqA b b'
 | .nilFunc,.nilFunc=>true
 | .iface t v,.iface t' v'=>decide (t=t') && eqV v v'
 | .nilIface,.nilIface=>true
 | .agg cs,.agg cs'=>qqA cs cs'
 | .tuple cs,.tuple cs'=>qqA cs cs'
 | _,_=>false
def qqA:List AVal→List AVal→Bool
 | [],[]=>true
 | x::xs,y::ys=>eqV x y && qqA xs ys
 | _,_=>false
end
mutual
theorem qju:∀ {x y:AVal},eqV x y=true→x=y:=by
 intro x y h
 cases x<;>cases y<;>simp only[eqV,Bool.and_eq_true,decide_eq_true_eq,beq_iff_eq,Bool.false_eq_true] at h
 case junk.junk=>rfl
 case bool.bool=>rw[h]
 case int.int=>rw[h.1,h.2]
 case str.str=>rw[h]
 case list.list=>rw[qeE h.1,h.2]
 case ref.ref=>rw[h.1.1,h.1.2,h.2]
 case vec.vec=>rw[h.1,h.2]
 case ptr.ptr=>rw[h]
 case vptr.vptr=>rw[qeE h.1,h.2]
 case map.map=>rw[h]
 case func.func=>rw[h.1.1,qeE h.1.2,qeE h.2]
 case nilFunc.nilFunc=>rfl
 case iface.iface=>rw[h.1,qju h.2]
 case nilIface.nilIface=>rfl
 case agg.agg=>rw[qeE h]
 case tuple.tuple=>rw[qeE h]
theorem qeE:∀ {xs ys:List AVal},qqA xs ys=true→xs=ys
 | [],[],_=>rfl
 | x :: xs,y :: ys,h => by
   rw[qqA,Bool.and_eq_true] at h
   rw[qju h.1,qeE h.2]
 | [],y::ys,h=>by simp[qqA] at h
 | x::xs,[],h=>by simp[qqA] at h
end
def qyo:List (AVal × AVal)→List (AVal × AVal)→Bool
 | [],[]=>true
 | x::xs,y::ys=>eqV x.1 y.1 && eqV x.2 y.2 && qyo xs ys
 | _,_=>false
theorem qr4:∀ {xs ys:List (AVal × AVal)},qyo xs ys=true→xs=ys
 | [],[],_=>rfl
 | x :: xs,y :: ys,h => by
   rw[qyo,Bool.and_eq_true,Bool.and_eq_true] at h
   obtain⟨⟨h1,h2⟩,h3⟩:=h
   obtain⟨a,b⟩:=x
   obtain⟨c,d⟩:=y
   have g1:=qju h1
   have g2:=qju h2
   dsimp only at g1 g2
   rw[g1,g2,qr4 h3]
 | [],y::ys,h=>by simp[qyo] at h
 | x::xs,[],h=>by simp[qyo] at h
def eqO:AObj→AObj→Bool
 | .gone,.gone=>true
 | .box a,.box b=>qqA a b
 | .map a,.map b=>qyo a b
 | .tail a b,.tail c d=>decide (a=c) && decide (b=d)
 | .vec a b,.vec c d=>qqA a c && decide (b=d)
 | _,_=>false
theorem qyC:∀ {x y:AObj},eqO x y=true→x=y:=by
 intro x y h
 cases x<;>cases y<;>simp only[eqO,Bool.and_eq_true,decide_eq_true_eq,Bool.false_eq_true] at h
 case gone.gone=>rfl
 case box.box=>rw[qeE h]
 case map.map=>rw[qr4 h]
 case tail.tail=>rw[h.1,h.2]
 case vec.vec=>rw[qeE h.1,h.2]
def eqH:Heap→Heap→Bool
 | [],[]=>true
 | x::xs,y::ys=>eqO x y && eqH xs ys
 | _,_=>false
theorem qr5:∀ {xs ys:Heap},eqH xs ys=true→xs=ys
 | [],[],_=>rfl
 | x :: xs,y :: ys,h => by
   rw[eqH,Bool.and_eq_true] at h
   rw[qyC h.1,qr5 h.2]
 | [],y::ys,h=>by simp[eqH] at h
 | x::xs,[],h=>by simp[eqH] at h
structure CS where
 l:List (Nat × AVal)
 d:AVal
 h:Heap
def CS.tm (s:CS):Tmps:=fun t=>(s.l.lookup t).getD s.d
def CS.st (s:CS):St:=⟨s.tm,s.h⟩
def CS.put (s:CS) (d:Option Nat) (v:AVal) (h:Heap):CS :=
 match d with
 | none=>⟨s.l,s.d,h⟩
 | some t=>⟨(t,v)::s.l,s.d,h⟩
theorem qo5 (t:Nat) (v:AVal) (l:List (Nat × AVal)) (d:AVal) (h:Heap):(CS.mk ((t,v)::l) d h).tm=fun i=>if i=t then v else (CS.mk l d h).tm i:=by
 funext i
 unfold CS.tm
 dsimp only
 rw[List.lookup_cons]
 by_cases hi:i=t
 ·subst hi
  simp
 ·rw[if_neg hi]
  have:(i==t)=false:=by simpa using hi
  rw[this]
theorem qgu (s:CS) (d:Option Nat) (v:AVal) (h:Heap):(s.put d v h).st=⟨upd s.tm d v,h⟩:=by
 cases d with
 | none=>rfl
 | some t =>
   unfold CS.put CS.st
   dsimp only
   rw[qo5]
   rfl
def CS.mapV (f:AVal→AVal) (g:Heap) (s:CS):CS:=⟨s.l.map fun p=>(p.1,f p.2),f s.d,g⟩
theorem qsH (f:AVal→AVal) (g:Heap) (s:CS):(s.mapV f g).st=⟨fun i=>f (s.tm i),g⟩:=by
 unfold CS.mapV CS.st
 dsimp only
 congr 1
 funext i
 unfold CS.tm
 dsimp only
 induction s.l with
 | nil=>rfl
 | cons p l ih =>
   obtain⟨t,v⟩:=p
   rw[List.map_cons,List.lookup_cons,List.lookup_cons]
   cases (i==t) with
   | true=>rfl
   | false=>exact ih
def CS.only (keep:List Nat) (f:Nat→AVal) (h:Heap):CS:=⟨keep.map fun t=>(t,f t),.junk,h⟩
theorem qoP (keep:List Nat) (f:Nat→AVal) (h:Heap):(CS.only keep f h).st=⟨fun t=>if t∈keep then f t else .junk,h⟩:=by
 unfold CS.only CS.st
 congr 1
 induction keep with
 | nil=>funext i;rfl
 | cons k ks ih =>
   rw[List.map_cons,qo5,ih]
   funext i
   by_cases hi:i=k
   ·subst hi
    simp
   ·simp[hi]
def cgc (n:Nat) (keep:List Nat) (s:CS):CS :=
 if qk6 keep=true then CS.only (keep.drop 1) s.tm s.h
 else if n≤s.h.length then
  (match qgi n keep s.st with
  | ids=>CS.only keep (fun t=>ren (qei n ids) (s.tm t)) ((s.h.take n).map (qex (qei n ids))++ids.map fun id=>qex (qei n ids) ((s.h[id]?).getD .gone)))
 else s
theorem qkT (n:Nat) (keep:List Nat) (s:CS):(cgc n keep s).st=gc n keep s.st:=by
 unfold cgc gc
 split
 ·rw[qoP]
  rfl
 ·show CS.st (if n≤s.h.length then _ else _)=if n≤s.h.length then _ else _
  split
  ·rw[qoP]
   rfl
  ·rfl
def qyn (n:Nat) (keep:List Nat) (r:AExit × CS):AExit × CS :=
 match r.1 with
 | .panic _=>r
 | e=>(e,cgc n keep r.2)
def qrl (r:AExit × CS):AExit × St:=(r.1,r.2.st)
theorem qov (n:Nat) (keep:List Nat) (r:AExit × CS):qrl (qyn n keep r)=gcE n keep (qrl r):=by
 obtain⟨e,s⟩:=r
 cases e<;>unfold qyn gcE qrl<;>dsimp only<;>rw[qkT]
def Sim (x:Option (AExit × CS)) (y:Option (AExit × St)):Prop:=∀ r,x=some r→y=some (qrl r)
theorem Sim.map_gc {x:Option (AExit × CS)} {y:Option (AExit × St)} (h:Sim x y) (n:Nat) (keep:List Nat):Sim (x.map (qyn n keep)) (y.map (gcE n keep)):=by
 intro r hr
 obtain⟨q,hq,rfl⟩:=Option.map_eq_some_iff.1 hr
 rw[h q hq,Option.map_some,qov]
theorem Sim.le {x:Option (AExit × CS)} {y z:Option (AExit × St)} (h:Sim x y) (hl:Le y z):Sim x z:=fun r hr=>hl _ (h r hr)
def qt9 (pure:Nat→Bool) (call:CallT):List Step→CS→Option (AExit × CS)
 | [],s=>some (.normal,s)
 | o :: rest,s =>
   match qaf o.guard s.tm with
   | some true =>
     (match aOp pure call o.op s.tm s.h with
     | some (.val v,h)=>qt9 pure call rest (s.put o.dst v h)
     | some (.panic v,h)=>some (.panic v,s.put none .junk h)
     | none=>none)
   | some false=>qt9 pure call rest (s.put o.dst (.tuple []) s.h)
   | none=>none
theorem qfM (pure:Nat→Bool) (call:CallT):∀ (l:List Step) (s:CS),Sim (qt9 pure call l s) (qb2 pure call l s.st)
 | [],s => fun r hr => by
   simp only[qt9,Option.some.injEq] at hr
   subst hr
   rfl
 | o :: rest,s => fun r hr => by
   rw[qt9] at hr
   unfold qb2
   show (match qaf o.guard s.tm with | some true=>_ | some false=>_ | none=>_)=_
   cases hw:qaf o.guard s.tm with
   | none=>rw[hw] at hr;cases hr
   | some b =>
     rw[hw] at hr
     cases b with
     | false =>
       dsimp only at hr ⊢
       have:=qfM pure call rest _ r hr
       rw[qgu] at this
       exact this
     | true =>
       dsimp only at hr ⊢
       show (match aOp pure call o.op s.tm s.h with | some (.val v,h)=>_ | some (.panic v,h)=>_ | none=>_)=_
       cases ho:aOp pure call o.op s.tm s.h with
       | none=>rw[ho] at hr;cases hr
       | some q =>
         rw[ho] at hr
         obtain⟨q,h'⟩:=q
         cases q with
         | val v =>
           dsimp only at hr ⊢
           have:=qfM pure call rest _ r hr
           rw[qgu] at this
           exact this
         | panic v =>
           dsimp only at hr ⊢
           injection hr with hr
           rw[← hr]
           rfl
def qqm (pure:Nat→Bool) (call:CallT):List Step→CS→Option (AExit × CS)
 | [],s=>some (.normal,s)
 | o :: rest,s =>
   match qaf o.guard s.tm with
   | some true =>
     (match qiH pure call o.op s.tm s.h with
     | some (.val v,h)=>qqm pure call rest (s.put o.dst v h)
     | some (.panic v,h)=>some (.panic v,s.put none .junk h)
     | none=>none)
   | some false=>qqm pure call rest (s.put o.dst (.tuple []) s.h)
   | none=>none
theorem qjk (pure:Nat→Bool) (call:CallT):∀ (l:List Step) (s:CS),Sim (qqm pure call l s) (qdY pure call l s.st)
 | [],s => fun r hr => by
   simp only[qqm,Option.some.injEq] at hr
   subst hr
   rfl
 | o :: rest,s => fun r hr => by
   rw[qqm] at hr
   unfold qdY
   show (match qaf o.guard s.tm with | some true=>_ | some false=>_ | none=>_)=_
   cases hw:qaf o.guard s.tm with
   | none=>rw[hw] at hr;cases hr
   | some b =>
     rw[hw] at hr
     cases b with
     | false =>
       dsimp only at hr ⊢
       have:=qjk pure call rest _ r hr
       rw[qgu] at this
       exact this
     | true =>
       dsimp only at hr ⊢
       show (match qiH pure call o.op s.tm s.h with | some (.val v,h)=>_ | some (.panic v,h)=>_ | none=>_)=_
       cases ho:qiH pure call o.op s.tm s.h with
       | none=>rw[ho] at hr;cases hr
       | some q =>
         rw[ho] at hr
         obtain⟨q,h'⟩:=q
         cases q with
         | val v =>
           dsimp only at hr ⊢
           have:=qjk pure call rest _ r hr
           rw[qgu] at this
           exact this
         | panic v =>
           dsimp only at hr ⊢
           injection hr with hr
           rw[← hr]
           rfl
def qql (pure:Nat→Bool) (call:CallT):List Step→CS→List Heap→Option (CS × List Heap)
 | [],s,hs=>some (s,hs++[s.h])
 | o :: rest,s,hs =>
   match qaf o.guard s.tm with
   | some true =>
     (match aOp pure call o.op s.tm s.h with
     | some (.val v,h')=>qql pure call rest (s.put o.dst v h') (if qaA o.op=true then hs++[s.h] else hs)
     | _=>none)
   | some false=>qql pure call rest (s.put o.dst (.tuple []) s.h) (if qaA o.op=true then hs++[s.h] else hs)
   | none=>none
theorem qjj (pure:Nat→Bool) (call:CallT):∀ (l:List Step) (s:CS) (hs:List Heap) (s':CS) (hs':List Heap),qql pure call l s hs=some (s',hs')→qcW pure call l s.tm hs s.h=some (s'.tm,hs',s'.h)
 | [],s,hs,s',hs',hr => by
   simp only[qql,Option.some.injEq,Prod.mk.injEq] at hr
   obtain⟨rfl,rfl⟩:=hr
   rfl
 | o :: rest,s,hs,s',hs',hr => by
   rw[qql] at hr
   unfold qcW
   cases hw:qaf o.guard s.tm with
   | none=>rw[hw] at hr;cases hr
   | some b =>
     rw[hw] at hr
     cases b with
     | false =>
       dsimp only at hr ⊢
       have:=qjj pure call rest _ _ s' hs' hr
       have hp:=qgu s o.dst (.tuple []) s.h
       unfold CS.st at hp
       injection hp with hp1 hp2
       rw[hp1,hp2] at this
       exact this
     | true =>
       dsimp only at hr ⊢
       cases ho:aOp pure call o.op s.tm s.h with
       | none=>rw[ho] at hr;cases hr
       | some q =>
         rw[ho] at hr
         obtain⟨q,h'⟩:=q
         cases q with
         | val v =>
           dsimp only at hr ⊢
           have:=qjj pure call rest _ _ s' hs' hr
           have hp:=qgu s o.dst v h'
           unfold CS.st at hp
           injection hp with hp1 hp2
           rw[hp1,hp2] at this
           exact this
         | panic v=>cases hr
def qpJ:AExit→Bool
 | .normal=>true
 | _=>false
theorem qm4 {e:AExit} (h:qpJ e=true):e=.normal:=by cases e<;>simp[qpJ] at h;rfl
def qrD (l:List Step) (tm:Tmps) (hs:List Heap) (c:Nat × Nat × Nat):Bool :=
 match l[c.1]? with
 | some ⟨some d,g,o⟩ =>
   (match qaf g tm with
   | some true=>((hs.drop c.2.1).take (c.2.2+1-c.2.1)).all fun h=>match aOp (fun _=>false) qeo o tm h with | some (.val v,h')=>eqV v (tm d) && eqH h' h | _=>false
   | _=>true)
 | _=>true
theorem qrE {l:List Step} {tm:Tmps} {hs:List Heap} {c:Nat × Nat × Nat} (h:qrD l tm hs c=true):qjn l tm hs c:=by
 intro s d h1 h2 h3 k hp hk1 hk2 hk
 unfold qrD at h
 obtain⟨d',g,o⟩:=s
 dsimp only at h2
 subst h2
 dsimp only at h3
 rw[h1] at h
 dsimp only at h
 rw[h3] at h
 dsimp only at h
 rw[List.all_eq_true] at h
 have hm:hp∈(hs.drop c.2.1).take (c.2.2+1-c.2.1):=by
  refine List.mem_of_getElem? (i:=k-c.2.1) ?_
  rw[List.getElem?_take,if_pos (by omega),List.getElem?_drop,show c.2.1+(k-c.2.1)=k by omega]
  exact hk
 have:=h hp hm
 dsimp only
 split at this
 ·rename_i v h' he
  rw[Bool.and_eq_true] at this
  rw[he,qju this.1,qr5 this.2]
 ·cases this
def qyl (pure:Nat→Bool) (call:CallT) (l:List Step) (checks:List (Nat × Nat × Nat)) (s:CS):Option (AExit × CS) :=
 match qql pure call l s [] with
 | some (s',hs)=>if checks.all (qrD l s'.tm hs)=true then some (.normal,s') else none
 | none=>none
theorem qtR (pure:Nat→Bool) (call:CallT) (l:List Step) (checks:List (Nat × Nat × Nat)) (s:CS):Sim (qyl pure call l checks s) (qgx pure call l checks s.st):=by
 intro r hr
 unfold qyl at hr
 unfold qgx
 split at hr
 ·rename_i s' hs he
  have h1:=qjj pure call l s [] s' hs he
  show (match qcW pure call l s.tm [] s.h with | some (tm,hs,h)=>_ | none=>_)=_
  rw[h1]
  dsimp only
  split at hr
  ·rename_i hc
   rw[if_pos fun c hc'=>qrE (List.all_eq_true.1 hc c hc')]
   injection hr with hr
   rw[← hr]
   rfl
  ·cases hr
 ·cases hr
def eqR (n:Nat) (keep:List Nat) (a b:AExit × CS):Bool :=
 qpJ a.1 && qpJ b.1 && !(qk6 keep) && decide (n≤a.2.h.length) && decide (n≤b.2.h.length) &&
  keep.all (fun t=>eqV ((cgc n keep a.2).tm t) ((cgc n keep b.2).tm t)) && eqH (cgc n keep a.2).h (cgc n keep b.2).h
theorem qyD {n:Nat} {keep:List Nat} {a b:AExit × CS} (h:eqR n keep a b=true):gcE n keep (qrl a)=gcE n keep (qrl b):=by
 unfold eqR at h
 simp only[Bool.and_eq_true,decide_eq_true_eq,Bool.not_eq_true'] at h
 obtain⟨⟨⟨⟨⟨⟨h1,h2⟩,h3⟩,h4⟩,h5⟩,h6⟩,h7⟩:=h
 obtain⟨e1,s1⟩:=a
 obtain⟨e2,s2⟩:=b
 dsimp only at *
 have e1':=qm4 h1
 have e2':=qm4 h2
 subst e1'
 subst e2'
 unfold gcE qrl
 dsimp only
 rw[← qkT,← qkT]
 have hh:=qr5 h7
 have ht:(cgc n keep s1).tm=(cgc n keep s2).tm:=by
  funext t
  by_cases hk:t∈keep
  ·exact qju (List.all_eq_true.1 h6 t hk)
  ·have g:∀ s:CS,n≤s.h.length→(cgc n keep s).tm t=.junk:=by
    intro s hs
    have:=qoP keep (fun t=>ren (qei n (qgi n keep s.st)) (s.tm t)) ((s.h.take n).map (qex (qei n (qgi n keep s.st)))++(qgi n keep s.st).map fun id=>qex (qei n (qgi n keep s.st)) ((s.h[id]?).getD .gone))
    unfold CS.st at this
    injection this with this _
    unfold cgc
    rw[h3,if_neg (by simp),if_pos hs]
    exact (congrFun this t).trans (if_neg hk)
   rw[g s1 h4,g s2 h5]
 unfold CS.st
 rw[hh,ht]
def qzp (keep:List Nat) (l:List Step) (needs:List (List Nat)) (s:CS):Option (AExit × CS) :=
 match qmk l needs with
 | []=>none
 | σ :: rest =>
   match qt9 (fun _=>false) qeo σ s with
   | some r=>if (rest.all fun σ'=>match qt9 (fun _=>false) qeo σ' s with | some r'=>eqR s.h.length keep r' r | none=>false)=true then some (qyn s.h.length keep r) else none
   | none=>none
theorem qt7 (keep:List Nat) (l:List Step) (needs:List (List Nat)) (s:CS):Sim (qzp keep l needs s) (qtX keep l needs s.st):=by
 intro r hr
 unfold qzp at hr
 unfold qtX
 split at hr
 ·cases hr
 ·rename_i σ rest hl
  split at hr
  ·rename_i r0 h0
   split at hr
   ·rename_i ha
    injection hr with hr
    have key:∀ σ'∈qmk l needs,(qb2 (fun _=>false) qeo σ' s.st).map (gcE s.h.length keep)=some (qrl r):=by
     intro σ' hσ
     rw[hl] at hσ
     rcases List.mem_cons.1 hσ with rfl | hσ
     ·rw[qfM _ _ _ _ _ h0,← hr,qov]
      rfl
     ·have:=List.all_eq_true.1 ha σ' hσ
      split at this
      ·rename_i r' he
       rw[qfM _ _ _ _ _ he,Option.map_some,qyD this,← hr,qov]
      ·cases this
    have hex:∃ r,∀ σ∈qmk l needs,(qb2 (fun _=>false) qeo σ s.st).map (gcE s.st.h.length keep)=some r:=⟨_,key⟩
    rw[dif_pos hex]
    have h1:=Classical.choose_spec hex σ (by rw[hl];simp)
    have h2:=key σ (by rw[hl];simp)
    exact h1.symm.trans h2
   ·cases hr
  ·cases hr
def qpu (id sz:Nat) (cs:List AVal) (s:CS):CS :=
 if qaw cs=true∧cs.all leaf=true then s.mapV (frz id sz cs) ((s.h.set id .gone).map (qjJ id sz cs)) else s
theorem qmK (id sz:Nat) (cs:List AVal) (s:CS):(qpu id sz cs s).st=qiC id sz cs s.st:=by
 unfold qpu qiC
 split
 ·rw[qsH]
  rfl
 ·rfl
def qlK (t:Nat) (s:CS):CS :=
 match s.tm t with
 | .ptr (some (id,0))=>(match s.h[id]? with | some (.box cs)=>qpu id 0 (cs.map wipeCell) s | _=>s)
 | .vec id _=>(match s.h[id]? with | some (.vec cs sz)=>qpu id sz (cs.map wipeCell) s | _=>s)
 | _=>s
theorem qqq (t:Nat) (s:CS):(qlK t s).st=qeM t s.st:=by
 unfold qlK qeM
 show CS.st _=match s.tm t with | .ptr (some (id,0))=>(match s.h[id]? with | some (.box cs)=>qiC id 0 (cs.map wipeCell) s.st | _=>s.st) | .vec id _=>(match s.h[id]? with | some (.vec cs sz)=>qiC id sz (cs.map wipeCell) s.st | _=>s.st) | _=>s.st
 split
 ·split
  ·exact qmK _ _ _ _
  ·rfl
 ·split
  ·exact qmK _ _ _ _
  ·rfl
 ·rfl
def quh (s:CS):CS:=s.mapV (viewV s.h) (s.h.map fun _=>.gone)
theorem qui (s:CS):(quh s).st=qn1 s.st:=by
 unfold quh qn1
 rw[qsH]
 rfl
def qrH (body:CS→Option (AExit × CS)):Nat→CS→Option (AExit × CS)
 | 0,_=>none
 | n + 1,s =>
   match body s with
   | some (.normal,s')=>qrH body n s'
   | r=>r
theorem qji {b1:CS→Option (AExit × CS)} {b2:St→Option (AExit × St)} (hb:∀ s,Sim (b1 s) (b2 s.st)):∀ n s,Sim (qrH b1 n s) (qds b2 n s.st)
 | 0,s=>fun r hr=>by cases hr
 | n + 1,s => fun r hr => by
   rw[qrH] at hr
   rw[qds]
   cases hx:b1 s with
   | none=>rw[hx] at hr;cases hr
   | some x =>
     rw[hb s x hx]
     rw[hx] at hr
     obtain⟨e,s'⟩:=x
     cases e with
     | normal=>exact qji hb n s' r hr
     | _=>injection hr with hr;rw[← hr];rfl
def qg0 (id:Nat) (r:Option (AExit × CS)):Option (AExit × CS) :=
 match r with
 | some (.exit id',s')=>if id'=id then some (.normal,s') else some (.exit id',s')
 | r=>r
theorem qhI {id:Nat} {x:Option (AExit × CS)} {y:Option (AExit × St)} (h:Sim x y):Sim (qg0 id x) (qdq id y):=by
 intro r hr
 cases hx:x with
 | none=>rw[hx] at hr;cases hr
 | some q =>
   rw[h q hx]
   rw[hx] at hr
   obtain⟨e,s'⟩:=q
   cases e with
   | exit id' =>
     unfold qg0 at hr
     unfold qdq qrl
     dsimp only at hr ⊢
     split at hr
     ·rename_i hid
      rw[if_pos hid]
      injection hr with hr
      rw[← hr]
     ·rename_i hid
      rw[if_neg hid]
      injection hr with hr
      rw[← hr]
   | _=>injection hr with hr;rw[← hr];rfl
def qwg (run:CS→Option (AExit × CS)) (r:Option (AExit × CS)):Option (AExit × CS) :=
 match r with
 | some (.normal,s2)=>run s2
 | r=>r
theorem qmJ {r1:CS→Option (AExit × CS)} {r2:St→Option (AExit × St)} (hr:∀ s,Sim (r1 s) (r2 s.st)) {x:Option (AExit × CS)} {y:Option (AExit × St)} (h:Sim x y):Sim (qwg r1 x) (qki r2 y):=by
 intro r hq
 cases hx:x with
 | none=>rw[hx] at hq;cases hq
 | some q =>
   rw[h q hx]
   rw[hx] at hq
   obtain⟨e,s'⟩:=q
   cases e with
   | normal=>exact hr s' r hq
   | _=>injection hq with hq;rw[← hq];rfl
def qpr (ops:List Step→CS→Option (AExit × CS)) (n:Nat) (k:RangeK) (runB:CS→Option (AExit × CS)) (e:AVal × AVal) (s:CS):Option (AExit × CS) :=
 if qpK n k s.st=true then
  match ops k.r1 (s.put (some k.dn) (.tuple [.bool true,e.1,e.2]) s.h) with
  | some (.normal,s1) =>
    if qpK n k s1.st=true then
     (match opd s1.tm k.c with
     | .bool true=>qg0 k.id2 (qwg runB (ops k.r2 (s1.put k.de (.tuple [e.1,e.2]) s1.h)))
     | _=>none)
    else none
  | _=>none
 else none
theorem qqo {o1:List Step→CS→Option (AExit × CS)} {o2:List Step→St→Option (AExit × St)} (ho:∀ l s,Sim (o1 l s) (o2 l s.st)) {b1:CS→Option (AExit × CS)} {b2:St→Option (AExit × St)} (hb:∀ s,Sim (b1 s) (b2 s.st)) (n:Nat) (k:RangeK) (e:AVal × AVal) (s:CS) :
  Sim (qpr o1 n k b1 e s) (qbg o2 n k b2 e s.st):=by
 intro r hr
 unfold qpr at hr
 unfold qbg
 split at hr
 case isFalse=>cases hr
 rename_i hit
 rw[if_pos hit]
 have hp:=qgu s (some k.dn) (.tuple [.bool true,e.1,e.2]) s.h
 split at hr
 case h_2=>cases hr
 rename_i s1 h1
 have g1:=ho _ _ _ h1
 rw[hp] at g1
 show (match o2 k.r1 ⟨upd s.tm (some k.dn) (.tuple [.bool true,e.1,e.2]),s.h⟩ with | some (.normal,s1)=>_ | _=>none)=_
 rw[g1]
 dsimp only[qrl]
 split at hr
 case isFalse=>cases hr
 rename_i hit2
 rw[if_pos hit2]
 split at hr
 case h_2=>cases hr
 rename_i hc
 show (match opd s1.tm k.c with | .bool true=>_ | _=>none)=_
 rw[hc]
 dsimp only
 have hp2:=qgu s1 k.de (.tuple [e.1,e.2]) s1.h
 have g2:=ho k.r2 (s1.put k.de (.tuple [e.1,e.2]) s1.h)
 rw[hp2] at g2
 exact qhI (qmJ hb g2) r hr
def qzo (ops:List Step→CS→Option (AExit × CS)) (n:Nat) (k:RangeK) (s:CS):Option (AExit × CS) :=
 if qpK n k s.st=true then
  match ops k.r1 (s.put (some k.dn) (.tuple [.bool false]) s.h) with
  | some (.normal,s1)=>(match opd s1.tm k.c with | .bool false=>some (.normal,s1) | _=>none)
  | _=>none
 else none
theorem qt6 {o1:List Step→CS→Option (AExit × CS)} {o2:List Step→St→Option (AExit × St)} (ho:∀ l s,Sim (o1 l s) (o2 l s.st)) (n:Nat) (k:RangeK) (s:CS):Sim (qzo o1 n k s) (qbF o2 n k s.st):=by
 intro r hr
 unfold qzo at hr
 unfold qbF
 split at hr
 case isFalse=>cases hr
 rename_i hit
 rw[if_pos hit]
 have hp:=qgu s (some k.dn) (.tuple [.bool false]) s.h
 split at hr
 case h_2=>cases hr
 rename_i s1 h1
 have g1:=ho _ _ _ h1
 rw[hp] at g1
 show (match o2 k.r1 ⟨upd s.tm (some k.dn) (.tuple [.bool false]),s.h⟩ with | some (.normal,s1)=>_ | _=>none)=_
 rw[g1]
 dsimp only[qrl]
 split at hr
 case h_2=>cases hr
 rename_i hc
 show (match opd s1.tm k.c with | .bool false=>_ | _=>none)=_
 rw[hc]
 injection hr with hr
 rw[← hr]
def qwf (ops:List Step→CS→Option (AExit × CS)) (n:Nat) (k:RangeK) (runB:CS→Option (AExit × CS)):List (AVal × AVal)→CS→Option (AExit × CS)
 | [],s=>qzo ops n k (cgc (n+1) k.kr s)
 | e :: es,s =>
   match qpr ops n k runB e (cgc (n+1) k.kr s) with
   | some (.normal,s')=>qwf ops n k runB es s'
   | r=>qg0 k.id r
theorem qps {o1:List Step→CS→Option (AExit × CS)} {o2:List Step→St→Option (AExit × St)} (ho:∀ l s,Sim (o1 l s) (o2 l s.st)) {b1:CS→Option (AExit × CS)} {b2:St→Option (AExit × St)} (hb:∀ s,Sim (b1 s) (b2 s.st)) (n:Nat) (k:RangeK) :
  ∀ (es:List (AVal × AVal)) (s:CS),Sim (qwf o1 n k b1 es s) (qbh o2 n k b2 es s.st)
 | [],s => fun r hr => by
   rw[qwf] at hr
   rw[qbh,← qkT]
   exact qt6 ho n k _ r hr
 | e :: es,s => fun r hr => by
   rw[qwf] at hr
   rw[qbh,← qkT]
   cases hx:qpr o1 n k b1 e (cgc (n+1) k.kr s) with
   | none=>rw[hx] at hr;cases hr
   | some x =>
     have g:=qqo ho hb n k e _ x hx
     rw[g]
     rw[hx] at hr
     obtain⟨q,s'⟩:=x
     cases q with
     | normal=>exact qps ho hb n k es s' r hr
     | exit j=>exact qhI (x:=some (.exit j,s')) (y:=some (.exit j,s'.st)) (fun r hr=>by injection hr with hr;rw[← hr];rfl) r hr
     | ret=>injection hr with hr;rw[← hr];rfl
     | panic v=>injection hr with hr;rw[← hr];rfl
def qos (ops:List Step→CS→Option (AExit × CS)) (k:RangeK) (runB runC:CS→Option (AExit × CS)) (s:CS):Option (AExit × CS) :=
 match ops k.pre s with
 | some (.normal,s1) =>
   (match qcp k.str (opd s1.tm k.m) s1.h with
   | some es=>if k.str=true∨es.length≤1 then
    (match qwf ops s1.h.length k runB es (s1.put (some k.it) (.ptr (some (s1.h.length,0))) (qkC (opd s1.tm k.m) s1.h)) with
    | some (.normal,s2)=>runC ⟨s2.l,s2.d,qcf (opd s1.tm k.m) s1.h s2.h⟩
    | some (e,s2)=>some (e,⟨s2.l,s2.d,qcf (opd s1.tm k.m) s1.h s2.h⟩)
    | none=>none).map (qyn s.h.length k.keep) else none
   | none=>none)
 | _=>none
theorem qqn {o1:List Step→CS→Option (AExit × CS)} {o2:List Step→St→Option (AExit × St)} (ho:∀ l s,Sim (o1 l s) (o2 l s.st)) {b1 c1:CS→Option (AExit × CS)} {b2 c2:St→Option (AExit × St)} (hb:∀ s,Sim (b1 s) (b2 s.st)) (hc:∀ s,Sim (c1 s) (c2 s.st)) (k:RangeK) (s:CS) :
  Sim (qos o1 k b1 c1 s) (qj7 o2 k b2 c2 s.st):=by
 intro r hr
 unfold qos at hr
 rw[qet]
 split at hr
 case h_2=>cases hr
 rename_i s1 he
 have g1:=ho _ _ _ he
 rw[g1]
 dsimp only[qrl]
 split at hr
 case h_2=>cases hr
 rename_i es hes
 show (match qcp k.str (opd s1.tm k.m) s1.h with | some es=>_ | none=>none)=_
 rw[hes]
 dsimp only
 split at hr
 case isFalse=>cases hr
 rename_i hcc
 refine (qcu (qbK _ _)).2 fun es' hoo=>?_
 have hes':es'=es:=by
  unfold qcc at hoo
  rcases hcc with hcc | hcc
  ·rw[if_pos hcc] at hoo
   exact hoo
  ·split at hoo
   ·exact hoo
   ·match es,hcc,hoo with
    | [],_,hoo=>exact List.perm_nil.1 hoo
    | [x],_,hoo=>exact List.perm_singleton.1 hoo
 rw[hes']
 unfold qcm
 refine Sim.map_gc (x:=match qwf o1 s1.h.length k b1 es (s1.put (some k.it) (.ptr (some (s1.h.length,0))) (qkC (opd s1.tm k.m) s1.h)) with
    | some (.normal,s2)=>c1 ⟨s2.l,s2.d,qcf (opd s1.tm k.m) s1.h s2.h⟩
    | some (e,s2)=>some (e,⟨s2.l,s2.d,qcf (opd s1.tm k.m) s1.h s2.h⟩)
    | none=>none) (fun q hq=>?_) s.h.length k.keep r hr
 have hp:=qgu s1 (some k.it) (.ptr (some (s1.h.length,0))) (qkC (opd s1.tm k.m) s1.h)
 cases hx:qwf o1 s1.h.length k b1 es (s1.put (some k.it) (.ptr (some (s1.h.length,0))) (qkC (opd s1.tm k.m) s1.h)) with
 | none=>rw[hx] at hq;cases hq
 | some x =>
   have g:=qps ho hb s1.h.length k es _ x hx
   rw[hp] at g
   show (match qbh o2 s1.h.length k b2 es ⟨upd s1.tm (some k.it) (.ptr (some (s1.h.length,0))),qkC (opd s1.tm k.m) s1.h⟩ with
    | some (.normal,s2)=>c2 ⟨s2.tm,qcf (opd s1.tm k.m) s1.h s2.h⟩
    | some (e,s2)=>some (e,⟨s2.tm,qcf (opd s1.tm k.m) s1.h s2.h⟩)
    | none=>none)=_
   rw[g]
   rw[hx] at hq
   obtain⟨e,s2⟩:=x
   cases e with
   | normal=>exact hc _ q hq
   | _=>injection hq with hq;rw[← hq];rfl
def qgB (pure:Nat→Bool) (call:CallT) (n:Nat):ACode→CS→Option (AExit × CS)
 | .skip,s=>some (.normal,s)
 | .ops l,s=>qt9 pure call l s
 | .draw l cs,s=>qyl pure call l cs s
 | .kops l,s=>qqm pure call l s
 | .view c,s=>qgB pure call n c (quh s)
 | .mdraw k l ns,s=>qzp k l ns s
 | .seq a b,s=>qwg (qgB pure call n b) (qgB pure call n a s)
 | .cond c a b,s=>(match opd s.tm c with | .bool t=>if t then qgB pure call n a s else qgB pure call n b s | _=>none)
 | .block id c,s=>qg0 id (qgB pure call n c s)
 | .loop c,s=>qrH (qgB pure call n c) n s
 | .gloop k c,s=>qrH (fun s1=>qgB pure call n c (cgc s.h.length k s1)) n s
 | .frame k c,s=>(qgB pure call n c s).map (qyn s.h.length k)
 | .freeze t c,s=>qgB pure call n c (qlK t s)
 | .range k b c,s=>qos (qt9 pure call) k (qgB pure call n b) (qgB pure call n c) s
 | .exit id,s=>some (.exit id,s)
 | .ret,s=>some (.ret,s)
 | .stuck,_=>none
theorem qmm (e:AExit) (s:CS):Sim (some (e,s)) (some (e,s.st)):=fun r hr=>by
 injection hr with hr
 rw[← hr]
 rfl
theorem qrF (pure:Nat→Bool) (call:CallT) (n:Nat):∀ (c:ACode) (s:CS),Sim (qgB pure call n c s) (qaJ pure call n c s.st):=by
 intro c
 induction c with
 | skip=>intro s;exact qmm _ _
 | ops l=>intro s;exact qfM pure call l s
 | draw l cs=>intro s;exact qtR pure call l cs s
 | kops l=>intro s;exact qjk pure call l s
 | mdraw k l ns=>intro s;exact qt7 k l ns s
 | seq a b iha ihb=>intro s;exact qmJ ihb (iha s)
 | cond c a b iha ihb =>
   intro s r hr
   rw[qgB] at hr
   rw[qaJ]
   show (match opd s.tm c with | .bool t=>_ | _=>none)=_
   split at hr
   ·rename_i t ht
    cases t with
    | true=>exact iha s r hr
    | false=>exact ihb s r hr
   ·cases hr
 | block id c ih=>intro s;exact qhI (ih s)
 | loop c ih=>intro s;exact qji ih n s
 | gloop k c ih =>
   intro s
   refine qji (fun s1=>?_) n s
   have:=ih (cgc s.h.length k s1)
   rw[qkT] at this
   exact this
 | freeze t c ih =>
   intro s
   have:=ih (qlK t s)
   rw[qqq] at this
   exact this
 | view c ih =>
   intro s
   have:=ih (quh s)
   rw[qui] at this
   exact this
 | range k b c ihb ihc=>intro s;exact qqn (fun l s=>qfM pure call l s) ihb ihc k s
 | frame k c ih=>intro s;exact (ih s).map_gc _ _
 | exit id=>intro s;exact qmm _ _
 | ret=>intro s;exact qmm _ _
 | stuck=>intro s r hr;cases hr
def qvN (rs:List ARVar) (r:Option (AExit × CS)):Option (ARes × Heap) :=
 match r with
 | some (.normal,s) | some (.ret,s)=>(match qac s.tm s.h rs with | some vs=>some (.val (qaj vs),s.h) | none=>none)
 | some (.panic v,s)=>some (.panic v,s.h)
 | _=>none
theorem qrG {rs:List ARVar} {x:Option (AExit × CS)} {y:Option (AExit × St)} (h:Sim x y):Le (qvN rs x) (qao rs y):=by
 intro r hr
 cases hx:x with
 | none=>rw[hx] at hr;cases hr
 | some q =>
   rw[h q hx]
   rw[hx] at hr
   obtain⟨e,s⟩:=q
   cases e<;>exact hr
def qoF (args:List AVal):Nat→List (Nat × AVal)
 | i => match args with
   | []=>[]
   | v::vs=>(i,v)::qoF vs (i+1)
theorem quP (h:Heap) (args:List AVal):(CS.mk (qoF args 0) (.tuple []) h).st=⟨qdQ args,h⟩:=by
 have key:∀ (args:List AVal) (k:Nat),(CS.mk (qoF args k) (.tuple []) h).tm=fun i=>if k≤i then (args[i-k]?).getD (.tuple []) else .tuple []:=by
  intro args
  induction args with
  | nil=>intro k;funext i;simp[qoF,CS.tm]
  | cons v vs ih =>
    intro k
    rw[qoF,qo5,ih]
    funext i
    by_cases hi:i=k
    ·subst hi
     simp
    ·rw[if_neg hi]
     dsimp only
     by_cases hk:k≤i
     ·rw[if_pos hk,if_pos (by omega)]
      have:i-k=i-(k+1)+1:=by omega
      rw[this,List.getElem?_cons_succ]
     ·rw[if_neg hk,if_neg (by omega)]
 unfold CS.st
 rw[key]
 congr 1
def qrj (T:Nat→Option AFn) (P:Nat→List AVal→Heap→Option (ARes × Heap)):Nat→CallT
 | 0,_,_,_=>none
 | n + 1,f,args,h =>
   match T f with
   | some fn=>qvN fn.results (qgB (fun _=>true) (qrj T P n) n fn.body ⟨qoF args 0,.tuple [],h⟩)
   | none=>P f args h
theorem qvK {L:Lib} (hp:∀ f,L.pure f=true) (hs:∀ f,L.fns f≠none→L.summ f=none) (T:Nat→Option AFn) (P:Nat→List AVal→Heap→Option (ARes × Heap)) (hT:∀ f fn,T f=some fn→L.fns f=some fn)
  (hP:∀ f a h r,P f a h=some r→call L f a h=some r):∀ n f a h,Le (qrj T P n f a h) (call L f a h):=by
 have hpp:(fun _=>true)=L.pure:=by funext f;exact (hp f).symm
 intro n
 induction n with
 | zero=>intro f a h r hr;cases hr
 | succ n ih =>
   intro f a h r hr
   rw[qrj] at hr
   split at hr
   ·rename_i fn hf
    refine qaD (hs f (by rw[hT f fn hf];simp)) (hT f fn hf) ?_
    rw[hpp] at hr
    have g:=qrF L.pure (qrj T P n) n fn.body ⟨qoF a 0,.tuple [],h⟩
    rw[quP] at g
    exact qrG (g.le (qmv ih n fn.body _)) r hr
   ·exact hP f a h r hr
def quS (v:AVal):Option (ARes × Heap)→Bool
 | some (.val u,_)=>eqV u v
 | _=>false
theorem quT {v:AVal} {r:Option (ARes × Heap)} (h:quS v r=true):∃ H,r=some (.val v,H):=by
 unfold quS at h
 split at h
 ·rename_i u H
  exact⟨H,by rw[qju h]⟩
 ·cases h
end Go.Abs
