/-
  A machine that computes what the abstract machine says, for examples that are fixed: what it finds, the abstract machine finds. Conditions: none.
-/
import Derived.Test.YtjbgooldkkbdmaaDoorAbsB
set_option linter.unusedVariables false
set_option linter.unusedSimpArgs false
namespace Go.Abs
mutual
def eqV:AVal→AVal→Bool
 | .junk,.junk=>true
 | .bool a,.bool b=>a==b
 | .int k n,.int k' n'=>decide (k=k') && decide (n=n')
 | .str a,.str b=>decide (a=b)
 | .list xs o,.list ys o'=>qpP xs ys && decide (o=o')
 | .ref a b c,.ref a' b' c'=>decide (a=a') && decide (b=b') && decide (c=c')
 | .vec a b,.vec a' b'=>decide (a=a') && decide (b=b')
 | .ptr a,.ptr b=>decide (a=b)
 | .vptr cs o,.vptr cs' o'=>qpP cs cs' && decide (o=o')
 | .map a,.map b=>decide (a=b)
 | .func f a b,.func f' a' b'=>decide (f=f') && qpP a a' && qpP b b'
 | .nilFunc,.nilFunc=>true
 | .iface t v,.iface t' v'=>decide (t=t') && eqV v v'
 | .nilIface,.nilIface=>true
 | .agg cs,.agg cs'=>qpP cs cs'
 | .tuple cs,.tuple cs'=>qpP cs cs'
 | _,_=>false
def qpP:List AVal→List AVal→Bool
 | [],[]=>true
 | x::xs,y::ys=>eqV x y && qpP xs ys
 | _,_=>false
end
mutual
theorem qi3:∀ {x y:AVal},eqV x y=true→x=y:=by
 intro x y h
 cases x<;>cases y<;>simp only[eqV,Bool.and_eq_true,decide_eq_true_eq,beq_iff_eq,Bool.false_eq_true] at h
 case junk.junk=>rfl
 case bool.bool=>rw[h]
 case int.int=>rw[h.1,h.2]
 case str.str=>rw[h]
 case list.list=>rw[qeI h.1,h.2]
 case ref.ref=>rw[h.1.1,h.1.2,h.2]
 case vec.vec=>rw[h.1,h.2]
 case ptr.ptr=>rw[h]
 case vptr.vptr=>rw[qeI h.1,h.2]
 case map.map=>rw[h]
 case func.func=>rw[h.1.1,qeI h.1.2,qeI h.2]
 case nilFunc.nilFunc=>rfl
 case iface.iface=>rw[h.1,qi3 h.2]
 case nilIface.nilIface=>rfl
 case agg.agg=>rw[qeI h]
 case tuple.tuple=>rw[qeI h]
theorem qeI:∀ {xs ys:List AVal},qpP xs ys=true→xs=ys
 | [],[],_=>rfl
 | x :: xs,y :: ys,h => by
   rw[qpP,Bool.and_eq_true] at h
   rw[qi3 h.1,qeI h.2]
 | [],y::ys,h=>by simp[qpP] at h
 | x::xs,[],h=>by simp[qpP] at h
end
def qwS:List (AVal × AVal)→List (AVal × AVal)→Bool
 | [],[]=>true
 | x::xs,y::ys=>eqV x.1 y.1 && eqV x.2 y.2 && qwS xs ys
 | _,_=>false
theorem qrh:∀ {xs ys:List (AVal × AVal)},qwS xs ys=true→xs=ys
 | [],[],_=>rfl
 | x :: xs,y :: ys,h => by
   rw[qwS,Bool.and_eq_true,Bool.and_eq_true] at h
   obtain⟨⟨h1,h2⟩,h3⟩:=h
   obtain⟨a,b⟩:=x
   obtain⟨c,d⟩:=y
   have g1:=qi3 h1
   have g2:=qi3 h2
   dsimp only at g1 g2
   rw[g1,g2,qrh h3]
 | [],y::ys,h=>by simp[qwS] at h
 | x::xs,[],h=>by simp[qwS] at h
def eqO:AObj→AObj→Bool
 | .gone,.gone=>true
 | .box a,.box b=>qpP a b
 | .map a,.map b=>qwS a b
 | .tail a b,.tail c d=>decide (a=c) && decide (b=d)
 | .vec a b,.vec c d=>qpP a c && decide (b=d)
 | _,_=>false
theorem qw7:∀ {x y:AObj},eqO x y=true→x=y:=by
 intro x y h
 cases x<;>cases y<;>simp only[eqO,Bool.and_eq_true,decide_eq_true_eq,Bool.false_eq_true] at h
 case gone.gone=>rfl
 case box.box=>rw[qeI h]
 case map.map=>rw[qrh h]
 case tail.tail=>rw[h.1,h.2]
 case vec.vec=>rw[qeI h.1,h.2]
def eqH:Heap→Heap→Bool
 | [],[]=>true
 | x::xs,y::ys=>eqO x y && eqH xs ys
 | _,_=>false
theorem qri:∀ {xs ys:Heap},eqH xs ys=true→xs=ys
 | [],[],_=>rfl
 | x :: xs,y :: ys,h => by
   rw[eqH,Bool.and_eq_true] at h
   rw[qw7 h.1,qri h.2]
 | [],y::ys,h=>by simp[eqH] at h
 | x::xs,[],h=>by simp[eqH] at h
structure CS where
 l:List (Nat × AVal)
 d:AVal
 h:Heap
def CS.tm (s:CS):Tmps:=fun t=>(s.l.lookup t).getD s.d
def CS.st (s:CS):St:=⟨s.tm,s.h⟩
def CS.put (s:CS) (d:Option Nat) (v:AVal) (h:Heap):CS :=
 match d with
 | none=>⟨s.l,s.d,h⟩
 | some t=>⟨(t,v)::s.l,s.d,h⟩
theorem qoo (t:Nat) (v:AVal) (l:List (Nat × AVal)) (d:AVal) (h:Heap):(CS.mk ((t,v)::l) d h).tm=fun i=>if i=t then v else (CS.mk l d h).tm i:=by
 funext i
 unfold CS.tm
 dsimp only
 rw[List.lookup_cons]
 by_cases hi:i=t
 ·subst hi
  simp
 ·rw[if_neg hi]
  have:(i==t)=false:=by simpa using hi
  rw[this]
theorem qge (s:CS) (d:Option Nat) (v:AVal) (h:Heap):(s.put d v h).st=⟨upd s.tm d v,h⟩:=by
 cases d with
 | none=>rfl
 | some t =>
   unfold CS.put CS.st
   dsimp only
   rw[qoo]
   rfl
def CS.mapV (f:AVal→AVal) (g:Heap) (s:CS):CS:=⟨s.l.map fun p=>(p.1,f p.2),f s.d,g⟩
theorem qrO (f:AVal→AVal) (g:Heap) (s:CS):(s.mapV f g).st=⟨fun i=>f (s.tm i),g⟩:=by
 unfold CS.mapV CS.st
 dsimp only
 congr 1
 funext i
 unfold CS.tm
 dsimp only
 induction s.l with
 | nil=>rfl
 | cons p l ih =>
   obtain⟨t,v⟩:=p
   rw[List.map_cons,List.lookup_cons,List.lookup_cons]
   cases (i==t) with
   | true=>rfl
   | false=>exact ih
def CS.only (keep:List Nat) (f:Nat→AVal) (h:Heap):CS:=⟨keep.map fun t=>(t,f t),.junk,h⟩
theorem qn8 (keep:List Nat) (f:Nat→AVal) (h:Heap):(CS.only keep f h).st=⟨fun t=>if t∈keep then f t else .junk,h⟩:=by
 unfold CS.only CS.st
 congr 1
 induction keep with
 | nil=>funext i;rfl
 | cons k ks ih =>
   rw[List.map_cons,qoo,ih]
   funext i
   by_cases hi:i=k
   ·subst hi
    simp
   ·simp[hi]
def cgc (n:Nat) (keep:List Nat) (s:CS):CS :=
 if qkx keep=true then CS.only (keep.drop 1) s.tm s.h
 else if n≤s.h.length then
  (match qf4 n keep s.st with
  | ids=>CS.only keep (fun t=>ren (qel n ids) (s.tm t)) ((s.h.take n).map (qeb (qel n ids))++ids.map fun id=>qeb (qel n ids) ((s.h[id]?).getD .gone)))
 else s
theorem qkk (n:Nat) (keep:List Nat) (s:CS):(cgc n keep s).st=gc n keep s.st:=by
 unfold cgc gc
 split
 ·rw[qn8]
  rfl
 ·show CS.st (if n≤s.h.length then _ else _)=if n≤s.h.length then _ else _
  split
  ·rw[qn8]
   rfl
  ·rfl
def qwR (n:Nat) (keep:List Nat) (r:AExit × CS):AExit × CS :=
 match r.1 with
 | .panic _=>r
 | e=>(e,cgc n keep r.2)
def qqy (r:AExit × CS):AExit × St:=(r.1,r.2.st)
theorem qnL (n:Nat) (keep:List Nat) (r:AExit × CS):qqy (qwR n keep r)=gcE n keep (qqy r):=by
 obtain⟨e,s⟩:=r
 cases e<;>unfold qwR gcE qqy<;>dsimp only<;>rw[qkk]
def Sim (x:Option (AExit × CS)) (y:Option (AExit × St)):Prop:=∀ r,x=some r→y=some (qqy r)
theorem Sim.map_gc {x:Option (AExit × CS)} {y:Option (AExit × St)} (h:Sim x y) (n:Nat) (keep:List Nat):Sim (x.map (qwR n keep)) (y.map (gcE n keep)):=by
 intro r hr
 obtain⟨q,hq,rfl⟩:=Option.map_eq_some_iff.1 hr
 rw[h q hq,Option.map_some,qnL]
theorem Sim.le {x:Option (AExit × CS)} {y z:Option (AExit × St)} (h:Sim x y) (hl:Le y z):Sim x z:=fun r hr=>hl _ (h r hr)
def qth (pure:Nat→Bool) (call:CallT):List Step→CS→Option (AExit × CS)
 | [],s=>some (.normal,s)
 | o :: rest,s =>
   match qaf o.guard s.tm with
   | some true =>
     (match aOp pure call o.op s.tm s.h with
     | some (.val v,h)=>qth pure call rest (s.put o.dst v h)
     | some (.panic v,h)=>some (.panic v,s.put none .junk h)
     | none=>none)
   | some false=>qth pure call rest (s.put o.dst (.tuple []) s.h)
   | none=>none
theorem qfE (pure:Nat→Bool) (call:CallT):∀ (l:List Step) (s:CS),Sim (qth pure call l s) (qcd pure call l s.st)
 | [],s => fun r hr => by
   simp only[qth,Option.some.injEq] at hr
   subst hr
   rfl
 | o :: rest,s => fun r hr => by
   rw[qth] at hr
   unfold qcd
   show (match qaf o.guard s.tm with | some true=>_ | some false=>_ | none=>_)=_
   cases hw:qaf o.guard s.tm with
   | none=>rw[hw] at hr;cases hr
   | some b =>
     rw[hw] at hr
     cases b with
     | false =>
       dsimp only at hr ⊢
       have:=qfE pure call rest _ r hr
       rw[qge] at this
       exact this
     | true =>
       dsimp only at hr ⊢
       show (match aOp pure call o.op s.tm s.h with | some (.val v,h)=>_ | some (.panic v,h)=>_ | none=>_)=_
       cases ho:aOp pure call o.op s.tm s.h with
       | none=>rw[ho] at hr;cases hr
       | some q =>
         rw[ho] at hr
         obtain⟨q,h'⟩:=q
         cases q with
         | val v =>
           dsimp only at hr ⊢
           have:=qfE pure call rest _ r hr
           rw[qge] at this
           exact this
         | panic v =>
           dsimp only at hr ⊢
           injection hr with hr
           rw[← hr]
           rfl
def qpB (pure:Nat→Bool) (call:CallT):List Step→CS→Option (AExit × CS)
 | [],s=>some (.normal,s)
 | o :: rest,s =>
   match qaf o.guard s.tm with
   | some true =>
     (match qih pure call o.op s.tm s.h with
     | some (.val v,h)=>qpB pure call rest (s.put o.dst v h)
     | some (.panic v,h)=>some (.panic v,s.put none .junk h)
     | none=>none)
   | some false=>qpB pure call rest (s.put o.dst (.tuple []) s.h)
   | none=>none
theorem qiR (pure:Nat→Bool) (call:CallT):∀ (l:List Step) (s:CS),Sim (qpB pure call l s) (qdV pure call l s.st)
 | [],s => fun r hr => by
   simp only[qpB,Option.some.injEq] at hr
   subst hr
   rfl
 | o :: rest,s => fun r hr => by
   rw[qpB] at hr
   unfold qdV
   show (match qaf o.guard s.tm with | some true=>_ | some false=>_ | none=>_)=_
   cases hw:qaf o.guard s.tm with
   | none=>rw[hw] at hr;cases hr
   | some b =>
     rw[hw] at hr
     cases b with
     | false =>
       dsimp only at hr ⊢
       have:=qiR pure call rest _ r hr
       rw[qge] at this
       exact this
     | true =>
       dsimp only at hr ⊢
       show (match qih pure call o.op s.tm s.h with | some (.val v,h)=>_ | some (.panic v,h)=>_ | none=>_)=_
       cases ho:qih pure call o.op s.tm s.h with
       | none=>rw[ho] at hr;cases hr
       | some q =>
         rw[ho] at hr
         obtain⟨q,h'⟩:=q
         cases q with
         | val v =>
           dsimp only at hr ⊢
           have:=qiR pure call rest _ r hr
           rw[qge] at this
           exact this
         | panic v =>
           dsimp only at hr ⊢
           injection hr with hr
           rw[← hr]
           rfl
def qpA (pure:Nat→Bool) (call:CallT):List Step→CS→List Heap→Option (CS × List Heap)
 | [],s,hs=>some (s,hs++[s.h])
 | o :: rest,s,hs =>
   match qaf o.guard s.tm with
   | some true =>
     (match aOp pure call o.op s.tm s.h with
     | some (.val v,h')=>qpA pure call rest (s.put o.dst v h') (if qbd o.op=true then hs++[s.h] else hs)
     | _=>none)
   | some false=>qpA pure call rest (s.put o.dst (.tuple []) s.h) (if qbd o.op=true then hs++[s.h] else hs)
   | none=>none
theorem qiQ (pure:Nat→Bool) (call:CallT):∀ (l:List Step) (s:CS) (hs:List Heap) (s':CS) (hs':List Heap),qpA pure call l s hs=some (s',hs')→qc4 pure call l s.tm hs s.h=some (s'.tm,hs',s'.h)
 | [],s,hs,s',hs',hr => by
   simp only[qpA,Option.some.injEq,Prod.mk.injEq] at hr
   obtain⟨rfl,rfl⟩:=hr
   rfl
 | o :: rest,s,hs,s',hs',hr => by
   rw[qpA] at hr
   unfold qc4
   cases hw:qaf o.guard s.tm with
   | none=>rw[hw] at hr;cases hr
   | some b =>
     rw[hw] at hr
     cases b with
     | false =>
       dsimp only at hr ⊢
       have:=qiQ pure call rest _ _ s' hs' hr
       have hp:=qge s o.dst (.tuple []) s.h
       unfold CS.st at hp
       injection hp with hp1 hp2
       rw[hp1,hp2] at this
       exact this
     | true =>
       dsimp only at hr ⊢
       cases ho:aOp pure call o.op s.tm s.h with
       | none=>rw[ho] at hr;cases hr
       | some q =>
         rw[ho] at hr
         obtain⟨q,h'⟩:=q
         cases q with
         | val v =>
           dsimp only at hr ⊢
           have:=qiQ pure call rest _ _ s' hs' hr
           have hp:=qge s o.dst v h'
           unfold CS.st at hp
           injection hp with hp1 hp2
           rw[hp1,hp2] at this
           exact this
         | panic v=>cases hr
def qoZ:AExit→Bool
 | .normal=>true
 | _=>false
theorem qms {e:AExit} (h:qoZ e=true):e=.normal:=by cases e<;>simp[qoZ] at h;rfl
def qqT (l:List Step) (tm:Tmps) (hs:List Heap) (c:Nat × Nat × Nat):Bool :=
 match l[c.1]? with
 | some ⟨some d,g,o⟩ =>
   (match qaf g tm with
   | some true=>((hs.drop c.2.1).take (c.2.2+1-c.2.1)).all fun h=>match aOp (fun _=>false) qes o tm h with | some (.val v,h')=>eqV v (tm d) && eqH h' h | _=>false
   | _=>true)
 | _=>true
theorem qqU {l:List Step} {tm:Tmps} {hs:List Heap} {c:Nat × Nat × Nat} (h:qqT l tm hs c=true):qiV l tm hs c:=by
 intro s d h1 h2 h3 k hp hk1 hk2 hk
 unfold qqT at h
 obtain⟨d',g,o⟩:=s
 dsimp only at h2
 subst h2
 dsimp only at h3
 rw[h1] at h
 dsimp only at h
 rw[h3] at h
 dsimp only at h
 rw[List.all_eq_true] at h
 have hm:hp∈(hs.drop c.2.1).take (c.2.2+1-c.2.1):=by
  refine List.mem_of_getElem? (i:=k-c.2.1) ?_
  rw[List.getElem?_take,if_pos (by omega),List.getElem?_drop,show c.2.1+(k-c.2.1)=k by omega]
  exact hk
 have:=h hp hm
 dsimp only
 split at this
 ·rename_i v h' he
  rw[Bool.and_eq_true] at this
  rw[he,qi3 this.1,qri this.2]
 ·cases this
def qwP (pure:Nat→Bool) (call:CallT) (l:List Step) (checks:List (Nat × Nat × Nat)) (s:CS):Option (AExit × CS) :=
 match qpA pure call l s [] with
 | some (s',hs)=>if checks.all (qqT l s'.tm hs)=true then some (.normal,s') else none
 | none=>none
theorem qsZ (pure:Nat→Bool) (call:CallT) (l:List Step) (checks:List (Nat × Nat × Nat)) (s:CS):Sim (qwP pure call l checks s) (qgg pure call l checks s.st):=by
 intro r hr
 unfold qwP at hr
 unfold qgg
 split at hr
 ·rename_i s' hs he
  have h1:=qiQ pure call l s [] s' hs he
  show (match qc4 pure call l s.tm [] s.h with | some (tm,hs,h)=>_ | none=>_)=_
  rw[h1]
  dsimp only
  split at hr
  ·rename_i hc
   rw[if_pos fun c hc'=>qqU (List.all_eq_true.1 hc c hc')]
   injection hr with hr
   rw[← hr]
   rfl
  ·cases hr
 ·cases hr
def eqR (n:Nat) (keep:List Nat) (a b:AExit × CS):Bool :=
 qoZ a.1 && qoZ b.1 && !(qkx keep) && decide (n≤a.2.h.length) && decide (n≤b.2.h.length) &&
  keep.all (fun t=>eqV ((cgc n keep a.2).tm t) ((cgc n keep b.2).tm t)) && eqH (cgc n keep a.2).h (cgc n keep b.2).h
theorem qw8 {n:Nat} {keep:List Nat} {a b:AExit × CS} (h:eqR n keep a b=true):gcE n keep (qqy a)=gcE n keep (qqy b):=by
 unfold eqR at h
 simp only[Bool.and_eq_true,decide_eq_true_eq,Bool.not_eq_true'] at h
 obtain⟨⟨⟨⟨⟨⟨h1,h2⟩,h3⟩,h4⟩,h5⟩,h6⟩,h7⟩:=h
 obtain⟨e1,s1⟩:=a
 obtain⟨e2,s2⟩:=b
 dsimp only at *
 have e1':=qms h1
 have e2':=qms h2
 subst e1'
 subst e2'
 unfold gcE qqy
 dsimp only
 rw[← qkk,← qkk]
 have hh:=qri h7
 have ht:(cgc n keep s1).tm=(cgc n keep s2).tm:=by
  funext t
  by_cases hk:t∈keep
  ·exact qi3 (List.all_eq_true.1 h6 t hk)
  ·have g:∀ s:CS,n≤s.h.length→(cgc n keep s).tm t=.junk:=by
    intro s hs
    have:=qn8 keep (fun t=>ren (qel n (qf4 n keep s.st)) (s.tm t)) ((s.h.take n).map (qeb (qel n (qf4 n keep s.st)))++(qf4 n keep s.st).map fun id=>qeb (qel n (qf4 n keep s.st)) ((s.h[id]?).getD .gone))
    unfold CS.st at this
    injection this with this _
    unfold cgc
    rw[h3,if_neg (by simp),if_pos hs]
    exact (congrFun this t).trans (if_neg hk)
   rw[g s1 h4,g s2 h5]
 unfold CS.st
 rw[hh,ht]
def qx2 (keep:List Nat) (l:List Step) (needs:List (List Nat)) (s:CS):Option (AExit × CS) :=
 match qlF l needs with
 | []=>none
 | σ :: rest =>
   match qth (fun _=>false) qes σ s with
   | some r=>if (rest.all fun σ'=>match qth (fun _=>false) qes σ' s with | some r'=>eqR s.h.length keep r' r | none=>false)=true then some (qwR s.h.length keep r) else none
   | none=>none
theorem qtf (keep:List Nat) (l:List Step) (needs:List (List Nat)) (s:CS):Sim (qx2 keep l needs s) (qs5 keep l needs s.st):=by
 intro r hr
 unfold qx2 at hr
 unfold qs5
 split at hr
 ·cases hr
 ·rename_i σ rest hl
  split at hr
  ·rename_i r0 h0
   split at hr
   ·rename_i ha
    injection hr with hr
    have key:∀ σ'∈qlF l needs,(qcd (fun _=>false) qes σ' s.st).map (gcE s.h.length keep)=some (qqy r):=by
     intro σ' hσ
     rw[hl] at hσ
     rcases List.mem_cons.1 hσ with rfl | hσ
     ·rw[qfE _ _ _ _ _ h0,← hr,qnL]
      rfl
     ·have:=List.all_eq_true.1 ha σ' hσ
      split at this
      ·rename_i r' he
       rw[qfE _ _ _ _ _ he,Option.map_some,qw8 this,← hr,qnL]
      ·cases this
    have hex:∃ r,∀ σ∈qlF l needs,(qcd (fun _=>false) qes σ s.st).map (gcE s.st.h.length keep)=some r:=⟨_,key⟩
    rw[dif_pos hex]
    have h1:=Classical.choose_spec hex σ (by rw[hl];simp)
    have h2:=key σ (by rw[hl];simp)
    exact h1.symm.trans h2
   ·cases hr
  ·cases hr
def qoI (id sz:Nat) (cs:List AVal) (s:CS):CS :=
 if qao cs=true∧cs.all leaf=true then s.mapV (frz id sz cs) ((s.h.set id .gone).map (qjV id sz cs)) else s
theorem ql6 (id sz:Nat) (cs:List AVal) (s:CS):(qoI id sz cs s).st=qia id sz cs s.st:=by
 unfold qoI qia
 split
 ·rw[qrO]
  rfl
 ·rfl
def qlb (t:Nat) (s:CS):CS :=
 match s.tm t with
 | .ptr (some (id,0))=>(match s.h[id]? with | some (.box cs)=>qoI id 0 (cs.map wipeCell) s | _=>s)
 | .vec id _=>(match s.h[id]? with | some (.vec cs sz)=>qoI id sz (cs.map wipeCell) s | _=>s)
 | _=>s
theorem qpF (t:Nat) (s:CS):(qlb t s).st=qeR t s.st:=by
 unfold qlb qeR
 show CS.st _=match s.tm t with | .ptr (some (id,0))=>(match s.h[id]? with | some (.box cs)=>qia id 0 (cs.map wipeCell) s.st | _=>s.st) | .vec id _=>(match s.h[id]? with | some (.vec cs sz)=>qia id sz (cs.map wipeCell) s.st | _=>s.st) | _=>s.st
 split
 ·split
  ·exact ql6 _ _ _ _
  ·rfl
 ·split
  ·exact ql6 _ _ _ _
  ·rfl
 ·rfl
def qtq (s:CS):CS:=s.mapV (viewV s.h) (s.h.map fun _=>.gone)
theorem qtr (s:CS):(qtq s).st=qnl s.st:=by
 unfold qtq qnl
 rw[qrO]
 rfl
def qqX (body:CS→Option (AExit × CS)):Nat→CS→Option (AExit × CS)
 | 0,_=>none
 | n + 1,s =>
   match body s with
   | some (.normal,s')=>qqX body n s'
   | r=>r
theorem qiP {b1:CS→Option (AExit × CS)} {b2:St→Option (AExit × St)} (hb:∀ s,Sim (b1 s) (b2 s.st)):∀ n s,Sim (qqX b1 n s) (qdq b2 n s.st)
 | 0,s=>fun r hr=>by cases hr
 | n + 1,s => fun r hr => by
   rw[qqX] at hr
   rw[qdq]
   cases hx:b1 s with
   | none=>rw[hx] at hr;cases hr
   | some x =>
     rw[hb s x hx]
     rw[hx] at hr
     obtain⟨e,s'⟩:=x
     cases e with
     | normal=>exact qiP hb n s' r hr
     | _=>injection hr with hr;rw[← hr];rfl
def qgI (id:Nat) (r:Option (AExit × CS)):Option (AExit × CS) :=
 match r with
 | some (.exit id',s')=>if id'=id then some (.normal,s') else some (.exit id',s')
 | r=>r
theorem qhi {id:Nat} {x:Option (AExit × CS)} {y:Option (AExit × St)} (h:Sim x y):Sim (qgI id x) (qdo id y):=by
 intro r hr
 cases hx:x with
 | none=>rw[hx] at hr;cases hr
 | some q =>
   rw[h q hx]
   rw[hx] at hr
   obtain⟨e,s'⟩:=q
   cases e with
   | exit id' =>
     unfold qgI at hr
     unfold qdo qqy
     dsimp only at hr ⊢
     split at hr
     ·rename_i hid
      rw[if_pos hid]
      injection hr with hr
      rw[← hr]
     ·rename_i hid
      rw[if_neg hid]
      injection hr with hr
      rw[← hr]
   | _=>injection hr with hr;rw[← hr];rfl
def qvi (run:CS→Option (AExit × CS)) (r:Option (AExit × CS)):Option (AExit × CS) :=
 match r with
 | some (.normal,s2)=>run s2
 | r=>r
theorem ql5 {r1:CS→Option (AExit × CS)} {r2:St→Option (AExit × St)} (hr:∀ s,Sim (r1 s) (r2 s.st)) {x:Option (AExit × CS)} {y:Option (AExit × St)} (h:Sim x y):Sim (qvi r1 x) (qjL r2 y):=by
 intro r hq
 cases hx:x with
 | none=>rw[hx] at hq;cases hq
 | some q =>
   rw[h q hx]
   rw[hx] at hq
   obtain⟨e,s'⟩:=q
   cases e with
   | normal=>exact hr s' r hq
   | _=>injection hq with hq;rw[← hq];rfl
def qoG (ops:List Step→CS→Option (AExit × CS)) (n:Nat) (k:RangeK) (runB:CS→Option (AExit × CS)) (e:AVal × AVal) (s:CS):Option (AExit × CS) :=
 if qo0 n k s.st=true then
  match ops k.r1 (s.put (some k.dn) (.tuple [.bool true,e.1,e.2]) s.h) with
  | some (.normal,s1) =>
    if qo0 n k s1.st=true then
     (match opd s1.tm k.c with
     | .bool true=>qgI k.id2 (qvi runB (ops k.r2 (s1.put k.de (.tuple [e.1,e.2]) s1.h)))
     | _=>none)
    else none
  | _=>none
 else none
theorem qpD {o1:List Step→CS→Option (AExit × CS)} {o2:List Step→St→Option (AExit × St)} (ho:∀ l s,Sim (o1 l s) (o2 l s.st)) {b1:CS→Option (AExit × CS)} {b2:St→Option (AExit × St)} (hb:∀ s,Sim (b1 s) (b2 s.st)) (n:Nat) (k:RangeK) (e:AVal × AVal) (s:CS) :
  Sim (qoG o1 n k b1 e s) (qa8 o2 n k b2 e s.st):=by
 intro r hr
 unfold qoG at hr
 unfold qa8
 split at hr
 case isFalse=>cases hr
 rename_i hit
 rw[if_pos hit]
 have hp:=qge s (some k.dn) (.tuple [.bool true,e.1,e.2]) s.h
 split at hr
 case h_2=>cases hr
 rename_i s1 h1
 have g1:=ho _ _ _ h1
 rw[hp] at g1
 show (match o2 k.r1 ⟨upd s.tm (some k.dn) (.tuple [.bool true,e.1,e.2]),s.h⟩ with | some (.normal,s1)=>_ | _=>none)=_
 rw[g1]
 dsimp only[qqy]
 split at hr
 case isFalse=>cases hr
 rename_i hit2
 rw[if_pos hit2]
 split at hr
 case h_2=>cases hr
 rename_i hc
 show (match opd s1.tm k.c with | .bool true=>_ | _=>none)=_
 rw[hc]
 dsimp only
 have hp2:=qge s1 k.de (.tuple [e.1,e.2]) s1.h
 have g2:=ho k.r2 (s1.put k.de (.tuple [e.1,e.2]) s1.h)
 rw[hp2] at g2
 exact qhi (ql5 hb g2) r hr
def qx1 (ops:List Step→CS→Option (AExit × CS)) (n:Nat) (k:RangeK) (s:CS):Option (AExit × CS) :=
 if qo0 n k s.st=true then
  match ops k.r1 (s.put (some k.dn) (.tuple [.bool false]) s.h) with
  | some (.normal,s1)=>(match opd s1.tm k.c with | .bool false=>some (.normal,s1) | _=>none)
  | _=>none
 else none
theorem qte {o1:List Step→CS→Option (AExit × CS)} {o2:List Step→St→Option (AExit × St)} (ho:∀ l s,Sim (o1 l s) (o2 l s.st)) (n:Nat) (k:RangeK) (s:CS):Sim (qx1 o1 n k s) (qbF o2 n k s.st):=by
 intro r hr
 unfold qx1 at hr
 unfold qbF
 split at hr
 case isFalse=>cases hr
 rename_i hit
 rw[if_pos hit]
 have hp:=qge s (some k.dn) (.tuple [.bool false]) s.h
 split at hr
 case h_2=>cases hr
 rename_i s1 h1
 have g1:=ho _ _ _ h1
 rw[hp] at g1
 show (match o2 k.r1 ⟨upd s.tm (some k.dn) (.tuple [.bool false]),s.h⟩ with | some (.normal,s1)=>_ | _=>none)=_
 rw[g1]
 dsimp only[qqy]
 split at hr
 case h_2=>cases hr
 rename_i hc
 show (match opd s1.tm k.c with | .bool false=>_ | _=>none)=_
 rw[hc]
 injection hr with hr
 rw[← hr]
def qvh (ops:List Step→CS→Option (AExit × CS)) (n:Nat) (k:RangeK) (runB:CS→Option (AExit × CS)):List (AVal × AVal)→CS→Option (AExit × CS)
 | [],s=>qx1 ops n k (cgc (n+1) k.kr s)
 | e :: es,s =>
   match qoG ops n k runB e (cgc (n+1) k.kr s) with
   | some (.normal,s')=>qvh ops n k runB es s'
   | r=>qgI k.id r
theorem qoH {o1:List Step→CS→Option (AExit × CS)} {o2:List Step→St→Option (AExit × St)} (ho:∀ l s,Sim (o1 l s) (o2 l s.st)) {b1:CS→Option (AExit × CS)} {b2:St→Option (AExit × St)} (hb:∀ s,Sim (b1 s) (b2 s.st)) (n:Nat) (k:RangeK) :
  ∀ (es:List (AVal × AVal)) (s:CS),Sim (qvh o1 n k b1 es s) (qa9 o2 n k b2 es s.st)
 | [],s => fun r hr => by
   rw[qvh] at hr
   rw[qa9,← qkk]
   exact qte ho n k _ r hr
 | e :: es,s => fun r hr => by
   rw[qvh] at hr
   rw[qa9,← qkk]
   cases hx:qoG o1 n k b1 e (cgc (n+1) k.kr s) with
   | none=>rw[hx] at hr;cases hr
   | some x =>
     have g:=qpD ho hb n k e _ x hx
     rw[g]
     rw[hx] at hr
     obtain⟨q,s'⟩:=x
     cases q with
     | normal=>exact qoH ho hb n k es s' r hr
     | exit j=>exact qhi (x:=some (.exit j,s')) (y:=some (.exit j,s'.st)) (fun r hr=>by injection hr with hr;rw[← hr];rfl) r hr
     | ret=>injection hr with hr;rw[← hr];rfl
     | panic v=>injection hr with hr;rw[← hr];rfl
def qnJ (ops:List Step→CS→Option (AExit × CS)) (k:RangeK) (runB runC:CS→Option (AExit × CS)) (s:CS):Option (AExit × CS) :=
 match ops k.pre s with
 | some (.normal,s1) =>
   (match qcF k.str (opd s1.tm k.m) s1.h with
   | some es=>if k.str=true∨es.length≤1 then
    (match qvh ops s1.h.length k runB es (s1.put (some k.it) (.ptr (some (s1.h.length,0))) (qj5 (opd s1.tm k.m) s1.h)) with
    | some (.normal,s2)=>runC ⟨s2.l,s2.d,qct (opd s1.tm k.m) s1.h s2.h⟩
    | some (e,s2)=>some (e,⟨s2.l,s2.d,qct (opd s1.tm k.m) s1.h s2.h⟩)
    | none=>none).map (qwR s.h.length k.keep) else none
   | none=>none)
 | _=>none
theorem qpC {o1:List Step→CS→Option (AExit × CS)} {o2:List Step→St→Option (AExit × St)} (ho:∀ l s,Sim (o1 l s) (o2 l s.st)) {b1 c1:CS→Option (AExit × CS)} {b2 c2:St→Option (AExit × St)} (hb:∀ s,Sim (b1 s) (b2 s.st)) (hc:∀ s,Sim (c1 s) (c2 s.st)) (k:RangeK) (s:CS) :
  Sim (qnJ o1 k b1 c1 s) (qjw o2 k b2 c2 s.st):=by
 intro r hr
 unfold qnJ at hr
 rw[qew]
 split at hr
 case h_2=>cases hr
 rename_i s1 he
 have g1:=ho _ _ _ he
 rw[g1]
 dsimp only[qqy]
 split at hr
 case h_2=>cases hr
 rename_i es hes
 show (match qcF k.str (opd s1.tm k.m) s1.h with | some es=>_ | none=>none)=_
 rw[hes]
 dsimp only
 split at hr
 case isFalse=>cases hr
 rename_i hcc
 refine (qcL (qbK _ _)).2 fun es' hoo=>?_
 have hes':es'=es:=by
  unfold qco at hoo
  rcases hcc with hcc | hcc
  ·rw[if_pos hcc] at hoo
   exact hoo
  ·split at hoo
   ·exact hoo
   ·match es,hcc,hoo with
    | [],_,hoo=>exact List.perm_nil.1 hoo
    | [x],_,hoo=>exact List.perm_singleton.1 hoo
 rw[hes']
 unfold qcz
 refine Sim.map_gc (x:=match qvh o1 s1.h.length k b1 es (s1.put (some k.it) (.ptr (some (s1.h.length,0))) (qj5 (opd s1.tm k.m) s1.h)) with
    | some (.normal,s2)=>c1 ⟨s2.l,s2.d,qct (opd s1.tm k.m) s1.h s2.h⟩
    | some (e,s2)=>some (e,⟨s2.l,s2.d,qct (opd s1.tm k.m) s1.h s2.h⟩)
    | none=>none) (fun q hq=>?_) s.h.length k.keep r hr
 have hp:=qge s1 (some k.it) (.ptr (some (s1.h.length,0))) (qj5 (opd s1.tm k.m) s1.h)
 cases hx:qvh o1 s1.h.length k b1 es (s1.put (some k.it) (.ptr (some (s1.h.length,0))) (qj5 (opd s1.tm k.m) s1.h)) with
 | none=>rw[hx] at hq;cases hq
 | some x =>
   have g:=qoH ho hb s1.h.length k es _ x hx
   rw[hp] at g
   show (match qa9 o2 s1.h.length k b2 es ⟨upd s1.tm (some k.it) (.ptr (some (s1.h.length,0))),qj5 (opd s1.tm k.m) s1.h⟩ with
    | some (.normal,s2)=>c2 ⟨s2.tm,qct (opd s1.tm k.m) s1.h s2.h⟩
    | some (e,s2)=>some (e,⟨s2.tm,qct (opd s1.tm k.m) s1.h s2.h⟩)
    | none=>none)=_
   rw[g]
   rw[hx] at hq
   obtain⟨e,s2⟩:=x
   cases e with
   | normal=>exact hc _ q hq
   | _=>injection hq with hq;rw[← hq];rfl
def qgl (pure:Nat→Bool) (call:CallT) (n:Nat):ACode→CS→Option (AExit × CS)
 | .skip,s=>some (.normal,s)
 | .ops l,s=>qth pure call l s
 | .draw l cs,s=>qwP pure call l cs s
 | .kops l,s=>qpB pure call l s
 | .view c,s=>qgl pure call n c (qtq s)
 | .mdraw k l ns,s=>qx2 k l ns s
 | .seq a b,s=>qvi (qgl pure call n b) (qgl pure call n a s)
 | .cond c a b,s=>(match opd s.tm c with | .bool t=>if t then qgl pure call n a s else qgl pure call n b s | _=>none)
 | .block id c,s=>qgI id (qgl pure call n c s)
 | .loop c,s=>qqX (qgl pure call n c) n s
 | .gloop k c,s=>qqX (fun s1=>qgl pure call n c (cgc s.h.length k s1)) n s
 | .frame k c,s=>(qgl pure call n c s).map (qwR s.h.length k)
 | .freeze t c,s=>qgl pure call n c (qlb t s)
 | .range k b c,s=>qnJ (qth pure call) k (qgl pure call n b) (qgl pure call n c) s
 | .exit id,s=>some (.exit id,s)
 | .ret,s=>some (.ret,s)
 | .stuck,_=>none
theorem qlH (e:AExit) (s:CS):Sim (some (e,s)) (some (e,s.st)):=fun r hr=>by
 injection hr with hr
 rw[← hr]
 rfl
theorem qqV (pure:Nat→Bool) (call:CallT) (n:Nat):∀ (c:ACode) (s:CS),Sim (qgl pure call n c s) (qax pure call n c s.st):=by
 intro c
 induction c with
 | skip=>intro s;exact qlH _ _
 | ops l=>intro s;exact qfE pure call l s
 | draw l cs=>intro s;exact qsZ pure call l cs s
 | kops l=>intro s;exact qiR pure call l s
 | mdraw k l ns=>intro s;exact qtf k l ns s
 | seq a b iha ihb=>intro s;exact ql5 ihb (iha s)
 | cond c a b iha ihb =>
   intro s r hr
   rw[qgl] at hr
   rw[qax]
   show (match opd s.tm c with | .bool t=>_ | _=>none)=_
   split at hr
   ·rename_i t ht
    cases t with
    | true=>exact iha s r hr
    | false=>exact ihb s r hr
   ·cases hr
 | block id c ih=>intro s;exact qhi (ih s)
 | loop c ih=>intro s;exact qiP ih n s
 | gloop k c ih =>
   intro s
   refine qiP (fun s1=>?_) n s
   have:=ih (cgc s.h.length k s1)
   rw[qkk] at this
   exact this
 | freeze t c ih =>
   intro s
   have:=ih (qlb t s)
   rw[qpF] at this
   exact this
 | view c ih =>
   intro s
   have:=ih (qtq s)
   rw[qtr] at this
   exact this
 | range k b c ihb ihc=>intro s;exact qpC (fun l s=>qfE pure call l s) ihb ihc k s
 | frame k c ih=>intro s;exact (ih s).map_gc _ _
 | exit id=>intro s;exact qlH _ _
 | ret=>intro s;exact qlH _ _
 | stuck=>intro s r hr;cases hr
def quU (rs:List ARVar) (r:Option (AExit × CS)):Option (ARes × Heap) :=
 match r with
 | some (.normal,s) | some (.ret,s)=>(match qad s.tm s.h rs with | some vs=>some (.val (qam vs),s.h) | none=>none)
 | some (.panic v,s)=>some (.panic v,s.h)
 | _=>none
theorem qqW {rs:List ARVar} {x:Option (AExit × CS)} {y:Option (AExit × St)} (h:Sim x y):Le (quU rs x) (qav rs y):=by
 intro r hr
 cases hx:x with
 | none=>rw[hx] at hr;cases hr
 | some q =>
   rw[h q hx]
   rw[hx] at hr
   obtain⟨e,s⟩:=q
   cases e<;>exact hr
def qnW (args:List AVal):Nat→List (Nat × AVal)
 | i => match args with
   | []=>[]
   | v::vs=>(i,v)::qnW vs (i+1)
theorem qtW (h:Heap) (args:List AVal):(CS.mk (qnW args 0) (.tuple []) h).st=⟨qe6 args,h⟩:=by
 have key:∀ (args:List AVal) (k:Nat),(CS.mk (qnW args k) (.tuple []) h).tm=fun i=>if k≤i then (args[i-k]?).getD (.tuple []) else .tuple []:=by
  intro args
  induction args with
  | nil=>intro k;funext i;simp[qnW,CS.tm]
  | cons v vs ih =>
    intro k
    rw[qnW,qoo,ih]
    funext i
    by_cases hi:i=k
    ·subst hi
     simp
    ·rw[if_neg hi]
     dsimp only
     by_cases hk:k≤i
     ·rw[if_pos hk,if_pos (by omega)]
      have:i-k=i-(k+1)+1:=by omega
      rw[this,List.getElem?_cons_succ]
     ·rw[if_neg hk,if_neg (by omega)]
 unfold CS.st
 rw[key]
 congr 1
def qqv (T:Nat→Option AFn) (P:Nat→List AVal→Heap→Option (ARes × Heap)):Nat→CallT
 | 0,_,_,_=>none
 | n + 1,f,args,h =>
   match T f with
   | some fn=>quU fn.results (qgl (fun _=>true) (qqv T P n) n fn.body ⟨qnW args 0,.tuple [],h⟩)
   | none=>P f args h
theorem quS {L:Lib} (hp:∀ f,L.pure f=true) (hs:∀ f,L.fns f≠none→L.summ f=none) (T:Nat→Option AFn) (P:Nat→List AVal→Heap→Option (ARes × Heap)) (hT:∀ f fn,T f=some fn→L.fns f=some fn)
  (hP:∀ f a h r,P f a h=some r→call L f a h=some r):∀ n f a h,Le (qqv T P n f a h) (call L f a h):=by
 have hpp:(fun _=>true)=L.pure:=by funext f;exact (hp f).symm
 intro n
 induction n with
 | zero=>intro f a h r hr;cases hr
 | succ n ih =>
   intro f a h r hr
   rw[qqv] at hr
   split at hr
   ·rename_i fn hf
    refine qcW (hs f (by rw[hT f fn hf];simp)) (hT f fn hf) ?_
    rw[hpp] at hr
    have g:=qqV L.pure (qqv T P n) n fn.body ⟨qnW a 0,.tuple [],h⟩
    rw[qtW] at g
    exact qqW (g.le (qlT ih n fn.body _)) r hr
   ·exact hP f a h r hr
def qtZ (v:AVal):Option (ARes × Heap)→Bool
 | some (.val u,_)=>eqV u v
 | _=>false
theorem qt0 {v:AVal} {r:Option (ARes × Heap)} (h:qtZ v r=true):∃ H,r=some (.val v,H):=by
 unfold qtZ at h
 split at h
 ·rename_i u H
  exact⟨H,by rw[qi3 h]⟩
 ·cases h
end Go.Abs
