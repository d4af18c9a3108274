/-
  A machine that computes what the abstract machine says, for examples that are fixed: what it finds, the abstract machine finds. Conditions: none.
-/
import Derived.Test.YtpchghpipgpkfaaDoorAbsB
set_option linter.unusedVariables false
set_option linter.unusedSimpArgs false
namespace Go.Abs
mutual
def eqV:AVal→AVal→Bool
 | .junk,.junk=>true
 | .bool a,.bool b=>a==b
 | .int k n,.int k' n'=>decide (k=k') && decide (n=n')
 | .str a,.str b=>decide (a=b)
 | .list xs o,.list ys o'=>qqu xs ys && decide (o=o')
 | .ref a b c,.ref a' b' c'=>decide (a=a') && decide (b=b') && decide (c=c')
 | .vec a b,.vec a' b'=>decide (a=a') && decide (b=b')
 | .ptr a,.ptr b=>decide (a=b)
 | .vptr cs o,.vptr cs' o'=>qqu cs cs' && decide (o=o')
 | .map a,.map b=>decide (a=b)
 | .func f a b,.func f' a' b'=>decide (f=f') && qqu a a' && qqu b b'
 | .nilFunc,.nilFunc=>true
 | .iface t v,.iface t' v'=>decide (t=t') && eqV v v'
 | .nilIface,.nilIface=>true
 | .agg cs,.agg cs'=>qqu cs cs'
 | .tuple cs,.tuple cs'=>qqu cs cs'
 | _,_=>false
def qqu:List AVal→List AVal→Bool
 | [],[]=>true
 | x::xs,y::ys=>eqV x y && qqu xs ys
 | _,_=>false
end
mutual
theorem qjg:∀ {x y:AVal},eqV x y=true→x=y:=by
 intro x y h
 cases x<;>cases y<;>simp only[eqV,Bool.and_eq_true,decide_eq_true_eq,beq_iff_eq,Bool.false_eq_true] at h
 case junk.junk=>rfl
 case bool.bool=>rw[h]
 case int.int=>rw[h.1,h.2]
 case str.str=>rw[h]
 case list.list=>rw[qew h.1,h.2]
 case ref.ref=>rw[h.1.1,h.1.2,h.2]
 case vec.vec=>rw[h.1,h.2]
 case ptr.ptr=>rw[h]
 case vptr.vptr=>rw[qew h.1,h.2]
 case map.map=>rw[h]
 case func.func=>rw[h.1.1,qew h.1.2,qew h.2]
 case nilFunc.nilFunc=>rfl
 case iface.iface=>rw[h.1,qjg h.2]
 case nilIface.nilIface=>rfl
 case agg.agg=>rw[qew h]
 case tuple.tuple=>rw[qew h]
theorem qew:∀ {xs ys:List AVal},qqu xs ys=true→xs=ys
 | [],[],_=>rfl
 | x :: xs,y :: ys,h => by
   rw[qqu,Bool.and_eq_true] at h
   rw[qjg h.1,qew h.2]
 | [],y::ys,h=>by simp[qqu] at h
 | x::xs,[],h=>by simp[qqu] at h
end
def qyb:List (AVal × AVal)→List (AVal × AVal)→Bool
 | [],[]=>true
 | x::xs,y::ys=>eqV x.1 y.1 && eqV x.2 y.2 && qyb xs ys
 | _,_=>false
theorem qrV:∀ {xs ys:List (AVal × AVal)},qyb xs ys=true→xs=ys
 | [],[],_=>rfl
 | x :: xs,y :: ys,h => by
   rw[qyb,Bool.and_eq_true,Bool.and_eq_true] at h
   obtain⟨⟨h1,h2⟩,h3⟩:=h
   obtain⟨a,b⟩:=x
   obtain⟨c,d⟩:=y
   have g1:=qjg h1
   have g2:=qjg h2
   dsimp only at g1 g2
   rw[g1,g2,qrV h3]
 | [],y::ys,h=>by simp[qyb] at h
 | x::xs,[],h=>by simp[qyb] at h
def eqO:AObj→AObj→Bool
 | .gone,.gone=>true
 | .box a,.box b=>qqu a b
 | .map a,.map b=>qyb a b
 | .tail a b,.tail c d=>decide (a=c) && decide (b=d)
 | .vec a b,.vec c d=>qqu a c && decide (b=d)
 | _,_=>false
theorem qyp:∀ {x y:AObj},eqO x y=true→x=y:=by
 intro x y h
 cases x<;>cases y<;>simp only[eqO,Bool.and_eq_true,decide_eq_true_eq,Bool.false_eq_true] at h
 case gone.gone=>rfl
 case box.box=>rw[qew h]
 case map.map=>rw[qrV h]
 case tail.tail=>rw[h.1,h.2]
 case vec.vec=>rw[qew h.1,h.2]
def eqH:Heap→Heap→Bool
 | [],[]=>true
 | x::xs,y::ys=>eqO x y && eqH xs ys
 | _,_=>false
theorem qrW:∀ {xs ys:Heap},eqH xs ys=true→xs=ys
 | [],[],_=>rfl
 | x :: xs,y :: ys,h => by
   rw[eqH,Bool.and_eq_true] at h
   rw[qyp h.1,qrW h.2]
 | [],y::ys,h=>by simp[eqH] at h
 | x::xs,[],h=>by simp[eqH] at h
structure CS where
 l:List (Nat × AVal)
 d:AVal
 h:Heap
def CS.tm (s:CS):Tmps:=fun t=>(s.l.lookup t).getD s.d
def CS.st (s:CS):St:=⟨s.tm,s.h⟩
def CS.put (s:CS) (d:Option Nat) (v:AVal) (h:Heap):CS :=
 match d with
 | none=>⟨s.l,s.d,h⟩
 | some t=>⟨(t,v)::s.l,s.d,h⟩
theorem qoY (t:Nat) (v:AVal) (l:List (Nat × AVal)) (d:AVal) (h:Heap):(CS.mk ((t,v)::l) d h).tm=fun i=>if i=t then v else (CS.mk l d h).tm i:=by
 funext i
 unfold CS.tm
 dsimp only
 rw[List.lookup_cons]
 by_cases hi:i=t
 ·subst hi
  simp
 ·rw[if_neg hi]
  have:(i==t)=false:=by simpa using hi
  rw[this]
theorem qgi (s:CS) (d:Option Nat) (v:AVal) (h:Heap):(s.put d v h).st=⟨upd s.tm d v,h⟩:=by
 cases d with
 | none=>rfl
 | some t =>
   unfold CS.put CS.st
   dsimp only
   rw[qoY]
   rfl
def CS.mapV (f:AVal→AVal) (g:Heap) (s:CS):CS:=⟨s.l.map fun p=>(p.1,f p.2),f s.d,g⟩
theorem qsy (f:AVal→AVal) (g:Heap) (s:CS):(s.mapV f g).st=⟨fun i=>f (s.tm i),g⟩:=by
 unfold CS.mapV CS.st
 dsimp only
 congr 1
 funext i
 unfold CS.tm
 dsimp only
 induction s.l with
 | nil=>rfl
 | cons p l ih =>
   obtain⟨t,v⟩:=p
   rw[List.map_cons,List.lookup_cons,List.lookup_cons]
   cases (i==t) with
   | true=>rfl
   | false=>exact ih
def CS.only (keep:List Nat) (f:Nat→AVal) (h:Heap):CS:=⟨keep.map fun t=>(t,f t),.junk,h⟩
theorem qoH (keep:List Nat) (f:Nat→AVal) (h:Heap):(CS.only keep f h).st=⟨fun t=>if t∈keep then f t else .junk,h⟩:=by
 unfold CS.only CS.st
 congr 1
 induction keep with
 | nil=>funext i;rfl
 | cons k ks ih =>
   rw[List.map_cons,qoY,ih]
   funext i
   by_cases hi:i=k
   ·subst hi
    simp
   ·simp[hi]
def cgc (n:Nat) (keep:List Nat) (s:CS):CS :=
 if qkV keep=true then CS.only (keep.drop 1) s.tm s.h
 else if n≤s.h.length then
  (match qf6 n keep s.st with
  | ids=>CS.only keep (fun t=>ren (qd8 n ids) (s.tm t)) ((s.h.take n).map (qeo (qd8 n ids))++ids.map fun id=>qeo (qd8 n ids) ((s.h[id]?).getD .gone)))
 else s
theorem qkH (n:Nat) (keep:List Nat) (s:CS):(cgc n keep s).st=gc n keep s.st:=by
 unfold cgc gc
 split
 ·rw[qoH]
  rfl
 ·show CS.st (if n≤s.h.length then _ else _)=if n≤s.h.length then _ else _
  split
  ·rw[qoH]
   rfl
  ·rfl
def qya (n:Nat) (keep:List Nat) (r:AExit × CS):AExit × CS :=
 match r.1 with
 | .panic _=>r
 | e=>(e,cgc n keep r.2)
def qrd (r:AExit × CS):AExit × St:=(r.1,r.2.st)
theorem qom (n:Nat) (keep:List Nat) (r:AExit × CS):qrd (qya n keep r)=gcE n keep (qrd r):=by
 obtain⟨e,s⟩:=r
 cases e<;>unfold qya gcE qrd<;>dsimp only<;>rw[qkH]
def Sim (x:Option (AExit × CS)) (y:Option (AExit × St)):Prop:=∀ r,x=some r→y=some (qrd r)
theorem Sim.map_gc {x:Option (AExit × CS)} {y:Option (AExit × St)} (h:Sim x y) (n:Nat) (keep:List Nat):Sim (x.map (qya n keep)) (y.map (gcE n keep)):=by
 intro r hr
 obtain⟨q,hq,rfl⟩:=Option.map_eq_some_iff.1 hr
 rw[h q hq,Option.map_some,qom]
theorem Sim.le {x:Option (AExit × CS)} {y z:Option (AExit × St)} (h:Sim x y) (hl:Le y z):Sim x z:=fun r hr=>hl _ (h r hr)
def qtY (pure:Nat→Bool) (call:CallT):List Step→CS→Option (AExit × CS)
 | [],s=>some (.normal,s)
 | o :: rest,s =>
   match qaf o.guard s.tm with
   | some true =>
     (match aOp pure call o.op s.tm s.h with
     | some (.val v,h)=>qtY pure call rest (s.put o.dst v h)
     | some (.panic v,h)=>some (.panic v,s.put none .junk h)
     | none=>none)
   | some false=>qtY pure call rest (s.put o.dst (.tuple []) s.h)
   | none=>none
theorem qfB (pure:Nat→Bool) (call:CallT):∀ (l:List Step) (s:CS),Sim (qtY pure call l s) (qb1 pure call l s.st)
 | [],s => fun r hr => by
   simp only[qtY,Option.some.injEq] at hr
   subst hr
   rfl
 | o :: rest,s => fun r hr => by
   rw[qtY] at hr
   unfold qb1
   show (match qaf o.guard s.tm with | some true=>_ | some false=>_ | none=>_)=_
   cases hw:qaf o.guard s.tm with
   | none=>rw[hw] at hr;cases hr
   | some b =>
     rw[hw] at hr
     cases b with
     | false =>
       dsimp only at hr ⊢
       have:=qfB pure call rest _ r hr
       rw[qgi] at this
       exact this
     | true =>
       dsimp only at hr ⊢
       show (match aOp pure call o.op s.tm s.h with | some (.val v,h)=>_ | some (.panic v,h)=>_ | none=>_)=_
       cases ho:aOp pure call o.op s.tm s.h with
       | none=>rw[ho] at hr;cases hr
       | some q =>
         rw[ho] at hr
         obtain⟨q,h'⟩:=q
         cases q with
         | val v =>
           dsimp only at hr ⊢
           have:=qfB pure call rest _ r hr
           rw[qgi] at this
           exact this
         | panic v =>
           dsimp only at hr ⊢
           injection hr with hr
           rw[← hr]
           rfl
def qqg (pure:Nat→Bool) (call:CallT):List Step→CS→Option (AExit × CS)
 | [],s=>some (.normal,s)
 | o :: rest,s =>
   match qaf o.guard s.tm with
   | some true =>
     (match qis pure call o.op s.tm s.h with
     | some (.val v,h)=>qqg pure call rest (s.put o.dst v h)
     | some (.panic v,h)=>some (.panic v,s.put none .junk h)
     | none=>none)
   | some false=>qqg pure call rest (s.put o.dst (.tuple []) s.h)
   | none=>none
theorem qi6 (pure:Nat→Bool) (call:CallT):∀ (l:List Step) (s:CS),Sim (qqg pure call l s) (qdL pure call l s.st)
 | [],s => fun r hr => by
   simp only[qqg,Option.some.injEq] at hr
   subst hr
   rfl
 | o :: rest,s => fun r hr => by
   rw[qqg] at hr
   unfold qdL
   show (match qaf o.guard s.tm with | some true=>_ | some false=>_ | none=>_)=_
   cases hw:qaf o.guard s.tm with
   | none=>rw[hw] at hr;cases hr
   | some b =>
     rw[hw] at hr
     cases b with
     | false =>
       dsimp only at hr ⊢
       have:=qi6 pure call rest _ r hr
       rw[qgi] at this
       exact this
     | true =>
       dsimp only at hr ⊢
       show (match qis pure call o.op s.tm s.h with | some (.val v,h)=>_ | some (.panic v,h)=>_ | none=>_)=_
       cases ho:qis pure call o.op s.tm s.h with
       | none=>rw[ho] at hr;cases hr
       | some q =>
         rw[ho] at hr
         obtain⟨q,h'⟩:=q
         cases q with
         | val v =>
           dsimp only at hr ⊢
           have:=qi6 pure call rest _ r hr
           rw[qgi] at this
           exact this
         | panic v =>
           dsimp only at hr ⊢
           injection hr with hr
           rw[← hr]
           rfl
def qqf (pure:Nat→Bool) (call:CallT):List Step→CS→List Heap→Option (CS × List Heap)
 | [],s,hs=>some (s,hs++[s.h])
 | o :: rest,s,hs =>
   match qaf o.guard s.tm with
   | some true =>
     (match aOp pure call o.op s.tm s.h with
     | some (.val v,h')=>qqf pure call rest (s.put o.dst v h') (if qaz o.op=true then hs++[s.h] else hs)
     | _=>none)
   | some false=>qqf pure call rest (s.put o.dst (.tuple []) s.h) (if qaz o.op=true then hs++[s.h] else hs)
   | none=>none
theorem qi5 (pure:Nat→Bool) (call:CallT):∀ (l:List Step) (s:CS) (hs:List Heap) (s':CS) (hs':List Heap),qqf pure call l s hs=some (s',hs')→qcR pure call l s.tm hs s.h=some (s'.tm,hs',s'.h)
 | [],s,hs,s',hs',hr => by
   simp only[qqf,Option.some.injEq,Prod.mk.injEq] at hr
   obtain⟨rfl,rfl⟩:=hr
   rfl
 | o :: rest,s,hs,s',hs',hr => by
   rw[qqf] at hr
   unfold qcR
   cases hw:qaf o.guard s.tm with
   | none=>rw[hw] at hr;cases hr
   | some b =>
     rw[hw] at hr
     cases b with
     | false =>
       dsimp only at hr ⊢
       have:=qi5 pure call rest _ _ s' hs' hr
       have hp:=qgi s o.dst (.tuple []) s.h
       unfold CS.st at hp
       injection hp with hp1 hp2
       rw[hp1,hp2] at this
       exact this
     | true =>
       dsimp only at hr ⊢
       cases ho:aOp pure call o.op s.tm s.h with
       | none=>rw[ho] at hr;cases hr
       | some q =>
         rw[ho] at hr
         obtain⟨q,h'⟩:=q
         cases q with
         | val v =>
           dsimp only at hr ⊢
           have:=qi5 pure call rest _ _ s' hs' hr
           have hp:=qgi s o.dst v h'
           unfold CS.st at hp
           injection hp with hp1 hp2
           rw[hp1,hp2] at this
           exact this
         | panic v=>cases hr
def qpC:AExit→Bool
 | .normal=>true
 | _=>false
theorem qmU {e:AExit} (h:qpC e=true):e=.normal:=by cases e<;>simp[qpC] at h;rfl
def qrv (l:List Step) (tm:Tmps) (hs:List Heap) (c:Nat × Nat × Nat):Bool :=
 match l[c.1]? with
 | some ⟨some d,g,o⟩ =>
   (match qaf g tm with
   | some true=>((hs.drop c.2.1).take (c.2.2+1-c.2.1)).all fun h=>match aOp (fun _=>false) qee o tm h with | some (.val v,h')=>eqV v (tm d) && eqH h' h | _=>false
   | _=>true)
 | _=>true
theorem qrw {l:List Step} {tm:Tmps} {hs:List Heap} {c:Nat × Nat × Nat} (h:qrv l tm hs c=true):qi9 l tm hs c:=by
 intro s d h1 h2 h3 k hp hk1 hk2 hk
 unfold qrv at h
 obtain⟨d',g,o⟩:=s
 dsimp only at h2
 subst h2
 dsimp only at h3
 rw[h1] at h
 dsimp only at h
 rw[h3] at h
 dsimp only at h
 rw[List.all_eq_true] at h
 have hm:hp∈(hs.drop c.2.1).take (c.2.2+1-c.2.1):=by
  refine List.mem_of_getElem? (i:=k-c.2.1) ?_
  rw[List.getElem?_take,if_pos (by omega),List.getElem?_drop,show c.2.1+(k-c.2.1)=k by omega]
  exact hk
 have:=h hp hm
 dsimp only
 split at this
 ·rename_i v h' he
  rw[Bool.and_eq_true] at this
  rw[he,qjg this.1,qrW this.2]
 ·cases this
def qx8 (pure:Nat→Bool) (call:CallT) (l:List Step) (checks:List (Nat × Nat × Nat)) (s:CS):Option (AExit × CS) :=
 match qqf pure call l s [] with
 | some (s',hs)=>if checks.all (qrv l s'.tm hs)=true then some (.normal,s') else none
 | none=>none
theorem qtG (pure:Nat→Bool) (call:CallT) (l:List Step) (checks:List (Nat × Nat × Nat)) (s:CS):Sim (qx8 pure call l checks s) (qgj pure call l checks s.st):=by
 intro r hr
 unfold qx8 at hr
 unfold qgj
 split at hr
 ·rename_i s' hs he
  have h1:=qi5 pure call l s [] s' hs he
  show (match qcR pure call l s.tm [] s.h with | some (tm,hs,h)=>_ | none=>_)=_
  rw[h1]
  dsimp only
  split at hr
  ·rename_i hc
   rw[if_pos fun c hc'=>qrw (List.all_eq_true.1 hc c hc')]
   injection hr with hr
   rw[← hr]
   rfl
  ·cases hr
 ·cases hr
def eqR (n:Nat) (keep:List Nat) (a b:AExit × CS):Bool :=
 qpC a.1 && qpC b.1 && !(qkV keep) && decide (n≤a.2.h.length) && decide (n≤b.2.h.length) &&
  keep.all (fun t=>eqV ((cgc n keep a.2).tm t) ((cgc n keep b.2).tm t)) && eqH (cgc n keep a.2).h (cgc n keep b.2).h
theorem qyq {n:Nat} {keep:List Nat} {a b:AExit × CS} (h:eqR n keep a b=true):gcE n keep (qrd a)=gcE n keep (qrd b):=by
 unfold eqR at h
 simp only[Bool.and_eq_true,decide_eq_true_eq,Bool.not_eq_true'] at h
 obtain⟨⟨⟨⟨⟨⟨h1,h2⟩,h3⟩,h4⟩,h5⟩,h6⟩,h7⟩:=h
 obtain⟨e1,s1⟩:=a
 obtain⟨e2,s2⟩:=b
 dsimp only at *
 have e1':=qmU h1
 have e2':=qmU h2
 subst e1'
 subst e2'
 unfold gcE qrd
 dsimp only
 rw[← qkH,← qkH]
 have hh:=qrW h7
 have ht:(cgc n keep s1).tm=(cgc n keep s2).tm:=by
  funext t
  by_cases hk:t∈keep
  ·exact qjg (List.all_eq_true.1 h6 t hk)
  ·have g:∀ s:CS,n≤s.h.length→(cgc n keep s).tm t=.junk:=by
    intro s hs
    have:=qoH keep (fun t=>ren (qd8 n (qf6 n keep s.st)) (s.tm t)) ((s.h.take n).map (qeo (qd8 n (qf6 n keep s.st)))++(qf6 n keep s.st).map fun id=>qeo (qd8 n (qf6 n keep s.st)) ((s.h[id]?).getD .gone))
    unfold CS.st at this
    injection this with this _
    unfold cgc
    rw[h3,if_neg (by simp),if_pos hs]
    exact (congrFun this t).trans (if_neg hk)
   rw[g s1 h4,g s2 h5]
 unfold CS.st
 rw[hh,ht]
def qzd (keep:List Nat) (l:List Step) (needs:List (List Nat)) (s:CS):Option (AExit × CS) :=
 match qma l needs with
 | []=>none
 | σ :: rest =>
   match qtY (fun _=>false) qee σ s with
   | some r=>if (rest.all fun σ'=>match qtY (fun _=>false) qee σ' s with | some r'=>eqR s.h.length keep r' r | none=>false)=true then some (qya s.h.length keep r) else none
   | none=>none
theorem qtW (keep:List Nat) (l:List Step) (needs:List (List Nat)) (s:CS):Sim (qzd keep l needs s) (qtM keep l needs s.st):=by
 intro r hr
 unfold qzd at hr
 unfold qtM
 split at hr
 ·cases hr
 ·rename_i σ rest hl
  split at hr
  ·rename_i r0 h0
   split at hr
   ·rename_i ha
    injection hr with hr
    have key:∀ σ'∈qma l needs,(qb1 (fun _=>false) qee σ' s.st).map (gcE s.h.length keep)=some (qrd r):=by
     intro σ' hσ
     rw[hl] at hσ
     rcases List.mem_cons.1 hσ with rfl | hσ
     ·rw[qfB _ _ _ _ _ h0,← hr,qom]
      rfl
     ·have:=List.all_eq_true.1 ha σ' hσ
      split at this
      ·rename_i r' he
       rw[qfB _ _ _ _ _ he,Option.map_some,qyq this,← hr,qom]
      ·cases this
    have hex:∃ r,∀ σ∈qma l needs,(qb1 (fun _=>false) qee σ s.st).map (gcE s.st.h.length keep)=some r:=⟨_,key⟩
    rw[dif_pos hex]
    have h1:=Classical.choose_spec hex σ (by rw[hl];simp)
    have h2:=key σ (by rw[hl];simp)
    exact h1.symm.trans h2
   ·cases hr
  ·cases hr
def qpn (id sz:Nat) (cs:List AVal) (s:CS):CS :=
 if qay cs=true∧cs.all leaf=true then s.mapV (frz id sz cs) ((s.h.set id .gone).map (qkg id sz cs)) else s
theorem qmA (id sz:Nat) (cs:List AVal) (s:CS):(qpn id sz cs s).st=qin id sz cs s.st:=by
 unfold qpn qin
 split
 ·rw[qsy]
  rfl
 ·rfl
def qlB (t:Nat) (s:CS):CS :=
 match s.tm t with
 | .ptr (some (id,0))=>(match s.h[id]? with | some (.box cs)=>qpn id 0 (cs.map wipeCell) s | _=>s)
 | .vec id _=>(match s.h[id]? with | some (.vec cs sz)=>qpn id sz (cs.map wipeCell) s | _=>s)
 | _=>s
theorem qqk (t:Nat) (s:CS):(qlB t s).st=qeE t s.st:=by
 unfold qlB qeE
 show CS.st _=match s.tm t with | .ptr (some (id,0))=>(match s.h[id]? with | some (.box cs)=>qin id 0 (cs.map wipeCell) s.st | _=>s.st) | .vec id _=>(match s.h[id]? with | some (.vec cs sz)=>qin id sz (cs.map wipeCell) s.st | _=>s.st) | _=>s.st
 split
 ·split
  ·exact qmA _ _ _ _
  ·rfl
 ·split
  ·exact qmA _ _ _ _
  ·rfl
 ·rfl
def qt6 (s:CS):CS:=s.mapV (viewV s.h) (s.h.map fun _=>.gone)
theorem qt7 (s:CS):(qt6 s).st=qnS s.st:=by
 unfold qt6 qnS
 rw[qsy]
 rfl
def qrz (body:CS→Option (AExit × CS)):Nat→CS→Option (AExit × CS)
 | 0,_=>none
 | n + 1,s =>
   match body s with
   | some (.normal,s')=>qrz body n s'
   | r=>r
theorem qi4 {b1:CS→Option (AExit × CS)} {b2:St→Option (AExit × St)} (hb:∀ s,Sim (b1 s) (b2 s.st)):∀ n s,Sim (qrz b1 n s) (qdi b2 n s.st)
 | 0,s=>fun r hr=>by cases hr
 | n + 1,s => fun r hr => by
   rw[qrz] at hr
   rw[qdi]
   cases hx:b1 s with
   | none=>rw[hx] at hr;cases hr
   | some x =>
     rw[hb s x hx]
     rw[hx] at hr
     obtain⟨e,s'⟩:=x
     cases e with
     | normal=>exact qi4 hb n s' r hr
     | _=>injection hr with hr;rw[← hr];rfl
def qgK (id:Nat) (r:Option (AExit × CS)):Option (AExit × CS) :=
 match r with
 | some (.exit id',s')=>if id'=id then some (.normal,s') else some (.exit id',s')
 | r=>r
theorem qhu {id:Nat} {x:Option (AExit × CS)} {y:Option (AExit × St)} (h:Sim x y):Sim (qgK id x) (qdf id y):=by
 intro r hr
 cases hx:x with
 | none=>rw[hx] at hr;cases hr
 | some q =>
   rw[h q hx]
   rw[hx] at hr
   obtain⟨e,s'⟩:=q
   cases e with
   | exit id' =>
     unfold qgK at hr
     unfold qdf qrd
     dsimp only at hr ⊢
     split at hr
     ·rename_i hid
      rw[if_pos hid]
      injection hr with hr
      rw[← hr]
     ·rename_i hid
      rw[if_neg hid]
      injection hr with hr
      rw[← hr]
   | _=>injection hr with hr;rw[← hr];rfl
def qv2 (run:CS→Option (AExit × CS)) (r:Option (AExit × CS)):Option (AExit × CS) :=
 match r with
 | some (.normal,s2)=>run s2
 | r=>r
theorem qmz {r1:CS→Option (AExit × CS)} {r2:St→Option (AExit × St)} (hr:∀ s,Sim (r1 s) (r2 s.st)) {x:Option (AExit × CS)} {y:Option (AExit × St)} (h:Sim x y):Sim (qv2 r1 x) (qj4 r2 y):=by
 intro r hq
 cases hx:x with
 | none=>rw[hx] at hq;cases hq
 | some q =>
   rw[h q hx]
   rw[hx] at hq
   obtain⟨e,s'⟩:=q
   cases e with
   | normal=>exact hr s' r hq
   | _=>injection hq with hq;rw[← hq];rfl
def qpk (ops:List Step→CS→Option (AExit × CS)) (n:Nat) (k:RangeK) (runB:CS→Option (AExit × CS)) (e:AVal × AVal) (s:CS):Option (AExit × CS) :=
 if qpD n k s.st=true then
  match ops k.r1 (s.put (some k.dn) (.tuple [.bool true,e.1,e.2]) s.h) with
  | some (.normal,s1) =>
    if qpD n k s1.st=true then
     (match opd s1.tm k.c with
     | .bool true=>qgK k.id2 (qv2 runB (ops k.r2 (s1.put k.de (.tuple [e.1,e.2]) s1.h)))
     | _=>none)
    else none
  | _=>none
 else none
theorem qqi {o1:List Step→CS→Option (AExit × CS)} {o2:List Step→St→Option (AExit × St)} (ho:∀ l s,Sim (o1 l s) (o2 l s.st)) {b1:CS→Option (AExit × CS)} {b2:St→Option (AExit × St)} (hb:∀ s,Sim (b1 s) (b2 s.st)) (n:Nat) (k:RangeK) (e:AVal × AVal) (s:CS) :
  Sim (qpk o1 n k b1 e s) (qbc o2 n k b2 e s.st):=by
 intro r hr
 unfold qpk at hr
 unfold qbc
 split at hr
 case isFalse=>cases hr
 rename_i hit
 rw[if_pos hit]
 have hp:=qgi s (some k.dn) (.tuple [.bool true,e.1,e.2]) s.h
 split at hr
 case h_2=>cases hr
 rename_i s1 h1
 have g1:=ho _ _ _ h1
 rw[hp] at g1
 show (match o2 k.r1 ⟨upd s.tm (some k.dn) (.tuple [.bool true,e.1,e.2]),s.h⟩ with | some (.normal,s1)=>_ | _=>none)=_
 rw[g1]
 dsimp only[qrd]
 split at hr
 case isFalse=>cases hr
 rename_i hit2
 rw[if_pos hit2]
 split at hr
 case h_2=>cases hr
 rename_i hc
 show (match opd s1.tm k.c with | .bool true=>_ | _=>none)=_
 rw[hc]
 dsimp only
 have hp2:=qgi s1 k.de (.tuple [e.1,e.2]) s1.h
 have g2:=ho k.r2 (s1.put k.de (.tuple [e.1,e.2]) s1.h)
 rw[hp2] at g2
 exact qhu (qmz hb g2) r hr
def qzc (ops:List Step→CS→Option (AExit × CS)) (n:Nat) (k:RangeK) (s:CS):Option (AExit × CS) :=
 if qpD n k s.st=true then
  match ops k.r1 (s.put (some k.dn) (.tuple [.bool false]) s.h) with
  | some (.normal,s1)=>(match opd s1.tm k.c with | .bool false=>some (.normal,s1) | _=>none)
  | _=>none
 else none
theorem qtV {o1:List Step→CS→Option (AExit × CS)} {o2:List Step→St→Option (AExit × St)} (ho:∀ l s,Sim (o1 l s) (o2 l s.st)) (n:Nat) (k:RangeK) (s:CS):Sim (qzc o1 n k s) (qbE o2 n k s.st):=by
 intro r hr
 unfold qzc at hr
 unfold qbE
 split at hr
 case isFalse=>cases hr
 rename_i hit
 rw[if_pos hit]
 have hp:=qgi s (some k.dn) (.tuple [.bool false]) s.h
 split at hr
 case h_2=>cases hr
 rename_i s1 h1
 have g1:=ho _ _ _ h1
 rw[hp] at g1
 show (match o2 k.r1 ⟨upd s.tm (some k.dn) (.tuple [.bool false]),s.h⟩ with | some (.normal,s1)=>_ | _=>none)=_
 rw[g1]
 dsimp only[qrd]
 split at hr
 case h_2=>cases hr
 rename_i hc
 show (match opd s1.tm k.c with | .bool false=>_ | _=>none)=_
 rw[hc]
 injection hr with hr
 rw[← hr]
def qv1 (ops:List Step→CS→Option (AExit × CS)) (n:Nat) (k:RangeK) (runB:CS→Option (AExit × CS)):List (AVal × AVal)→CS→Option (AExit × CS)
 | [],s=>qzc ops n k (cgc (n+1) k.kr s)
 | e :: es,s =>
   match qpk ops n k runB e (cgc (n+1) k.kr s) with
   | some (.normal,s')=>qv1 ops n k runB es s'
   | r=>qgK k.id r
theorem qpl {o1:List Step→CS→Option (AExit × CS)} {o2:List Step→St→Option (AExit × St)} (ho:∀ l s,Sim (o1 l s) (o2 l s.st)) {b1:CS→Option (AExit × CS)} {b2:St→Option (AExit × St)} (hb:∀ s,Sim (b1 s) (b2 s.st)) (n:Nat) (k:RangeK) :
  ∀ (es:List (AVal × AVal)) (s:CS),Sim (qv1 o1 n k b1 es s) (qbd o2 n k b2 es s.st)
 | [],s => fun r hr => by
   rw[qv1] at hr
   rw[qbd,← qkH]
   exact qtV ho n k _ r hr
 | e :: es,s => fun r hr => by
   rw[qv1] at hr
   rw[qbd,← qkH]
   cases hx:qpk o1 n k b1 e (cgc (n+1) k.kr s) with
   | none=>rw[hx] at hr;cases hr
   | some x =>
     have g:=qqi ho hb n k e _ x hx
     rw[g]
     rw[hx] at hr
     obtain⟨q,s'⟩:=x
     cases q with
     | normal=>exact qpl ho hb n k es s' r hr
     | exit j=>exact qhu (x:=some (.exit j,s')) (y:=some (.exit j,s'.st)) (fun r hr=>by injection hr with hr;rw[← hr];rfl) r hr
     | ret=>injection hr with hr;rw[← hr];rfl
     | panic v=>injection hr with hr;rw[← hr];rfl
def qoj (ops:List Step→CS→Option (AExit × CS)) (k:RangeK) (runB runC:CS→Option (AExit × CS)) (s:CS):Option (AExit × CS) :=
 match ops k.pre s with
 | some (.normal,s1) =>
   (match qcm k.str (opd s1.tm k.m) s1.h with
   | some es=>if k.str=true∨es.length≤1 then
    (match qv1 ops s1.h.length k runB es (s1.put (some k.it) (.ptr (some (s1.h.length,0))) (qkp (opd s1.tm k.m) s1.h)) with
    | some (.normal,s2)=>runC ⟨s2.l,s2.d,qcd (opd s1.tm k.m) s1.h s2.h⟩
    | some (e,s2)=>some (e,⟨s2.l,s2.d,qcd (opd s1.tm k.m) s1.h s2.h⟩)
    | none=>none).map (qya s.h.length k.keep) else none
   | none=>none)
 | _=>none
theorem qqh {o1:List Step→CS→Option (AExit × CS)} {o2:List Step→St→Option (AExit × St)} (ho:∀ l s,Sim (o1 l s) (o2 l s.st)) {b1 c1:CS→Option (AExit × CS)} {b2 c2:St→Option (AExit × St)} (hb:∀ s,Sim (b1 s) (b2 s.st)) (hc:∀ s,Sim (c1 s) (c2 s.st)) (k:RangeK) (s:CS) :
  Sim (qoj o1 k b1 c1 s) (qjS o2 k b2 c2 s.st):=by
 intro r hr
 unfold qoj at hr
 rw[qej]
 split at hr
 case h_2=>cases hr
 rename_i s1 he
 have g1:=ho _ _ _ he
 rw[g1]
 dsimp only[qrd]
 split at hr
 case h_2=>cases hr
 rename_i es hes
 show (match qcm k.str (opd s1.tm k.m) s1.h with | some es=>_ | none=>none)=_
 rw[hes]
 dsimp only
 split at hr
 case isFalse=>cases hr
 rename_i hcc
 refine (qcq (qbI _ _)).2 fun es' hoo=>?_
 have hes':es'=es:=by
  unfold qcb at hoo
  rcases hcc with hcc | hcc
  ·rw[if_pos hcc] at hoo
   exact hoo
  ·split at hoo
   ·exact hoo
   ·match es,hcc,hoo with
    | [],_,hoo=>exact List.perm_nil.1 hoo
    | [x],_,hoo=>exact List.perm_singleton.1 hoo
 rw[hes']
 unfold qck
 refine Sim.map_gc (x:=match qv1 o1 s1.h.length k b1 es (s1.put (some k.it) (.ptr (some (s1.h.length,0))) (qkp (opd s1.tm k.m) s1.h)) with
    | some (.normal,s2)=>c1 ⟨s2.l,s2.d,qcd (opd s1.tm k.m) s1.h s2.h⟩
    | some (e,s2)=>some (e,⟨s2.l,s2.d,qcd (opd s1.tm k.m) s1.h s2.h⟩)
    | none=>none) (fun q hq=>?_) s.h.length k.keep r hr
 have hp:=qgi s1 (some k.it) (.ptr (some (s1.h.length,0))) (qkp (opd s1.tm k.m) s1.h)
 cases hx:qv1 o1 s1.h.length k b1 es (s1.put (some k.it) (.ptr (some (s1.h.length,0))) (qkp (opd s1.tm k.m) s1.h)) with
 | none=>rw[hx] at hq;cases hq
 | some x =>
   have g:=qpl ho hb s1.h.length k es _ x hx
   rw[hp] at g
   show (match qbd o2 s1.h.length k b2 es ⟨upd s1.tm (some k.it) (.ptr (some (s1.h.length,0))),qkp (opd s1.tm k.m) s1.h⟩ with
    | some (.normal,s2)=>c2 ⟨s2.tm,qcd (opd s1.tm k.m) s1.h s2.h⟩
    | some (e,s2)=>some (e,⟨s2.tm,qcd (opd s1.tm k.m) s1.h s2.h⟩)
    | none=>none)=_
   rw[g]
   rw[hx] at hq
   obtain⟨e,s2⟩:=x
   cases e with
   | normal=>exact hc _ q hq
   | _=>injection hq with hq;rw[← hq];rfl
def qgn (pure:Nat→Bool) (call:CallT) (n:Nat):ACode→CS→Option (AExit × CS)
 | .skip,s=>some (.normal,s)
 | .ops l,s=>qtY pure call l s
 | .draw l cs,s=>qx8 pure call l cs s
 | .kops l,s=>qqg pure call l s
 | .view c,s=>qgn pure call n c (qt6 s)
 | .mdraw k l ns,s=>qzd k l ns s
 | .seq a b,s=>qv2 (qgn pure call n b) (qgn pure call n a s)
 | .cond c a b,s=>(match opd s.tm c with | .bool t=>if t then qgn pure call n a s else qgn pure call n b s | _=>none)
 | .block id c,s=>qgK id (qgn pure call n c s)
 | .loop c,s=>qrz (qgn pure call n c) n s
 | .gloop k c,s=>qrz (fun s1=>qgn pure call n c (cgc s.h.length k s1)) n s
 | .frame k c,s=>(qgn pure call n c s).map (qya s.h.length k)
 | .freeze t c,s=>qgn pure call n c (qlB t s)
 | .range k b c,s=>qoj (qtY pure call) k (qgn pure call n b) (qgn pure call n c) s
 | .exit id,s=>some (.exit id,s)
 | .ret,s=>some (.ret,s)
 | .stuck,_=>none
theorem qmc (e:AExit) (s:CS):Sim (some (e,s)) (some (e,s.st)):=fun r hr=>by
 injection hr with hr
 rw[← hr]
 rfl
theorem qrx (pure:Nat→Bool) (call:CallT) (n:Nat):∀ (c:ACode) (s:CS),Sim (qgn pure call n c s) (qaI pure call n c s.st):=by
 intro c
 induction c with
 | skip=>intro s;exact qmc _ _
 | ops l=>intro s;exact qfB pure call l s
 | draw l cs=>intro s;exact qtG pure call l cs s
 | kops l=>intro s;exact qi6 pure call l s
 | mdraw k l ns=>intro s;exact qtW k l ns s
 | seq a b iha ihb=>intro s;exact qmz ihb (iha s)
 | cond c a b iha ihb =>
   intro s r hr
   rw[qgn] at hr
   rw[qaI]
   show (match opd s.tm c with | .bool t=>_ | _=>none)=_
   split at hr
   ·rename_i t ht
    cases t with
    | true=>exact iha s r hr
    | false=>exact ihb s r hr
   ·cases hr
 | block id c ih=>intro s;exact qhu (ih s)
 | loop c ih=>intro s;exact qi4 ih n s
 | gloop k c ih =>
   intro s
   refine qi4 (fun s1=>?_) n s
   have:=ih (cgc s.h.length k s1)
   rw[qkH] at this
   exact this
 | freeze t c ih =>
   intro s
   have:=ih (qlB t s)
   rw[qqk] at this
   exact this
 | view c ih =>
   intro s
   have:=ih (qt6 s)
   rw[qt7] at this
   exact this
 | range k b c ihb ihc=>intro s;exact qqh (fun l s=>qfB pure call l s) ihb ihc k s
 | frame k c ih=>intro s;exact (ih s).map_gc _ _
 | exit id=>intro s;exact qmc _ _
 | ret=>intro s;exact qmc _ _
 | stuck=>intro s r hr;cases hr
def qvz (rs:List ARVar) (r:Option (AExit × CS)):Option (ARes × Heap) :=
 match r with
 | some (.normal,s) | some (.ret,s)=>(match qac s.tm s.h rs with | some vs=>some (.val (qaj vs),s.h) | none=>none)
 | some (.panic v,s)=>some (.panic v,s.h)
 | _=>none
theorem qry {rs:List ARVar} {x:Option (AExit × CS)} {y:Option (AExit × St)} (h:Sim x y):Le (qvz rs x) (qan rs y):=by
 intro r hr
 cases hx:x with
 | none=>rw[hx] at hr;cases hr
 | some q =>
   rw[h q hx]
   rw[hx] at hr
   obtain⟨e,s⟩:=q
   cases e<;>exact hr
def qox (args:List AVal):Nat→List (Nat × AVal)
 | i => match args with
   | []=>[]
   | v::vs=>(i,v)::qox vs (i+1)
theorem quF (h:Heap) (args:List AVal):(CS.mk (qox args 0) (.tuple []) h).st=⟨qdE args,h⟩:=by
 have key:∀ (args:List AVal) (k:Nat),(CS.mk (qox args k) (.tuple []) h).tm=fun i=>if k≤i then (args[i-k]?).getD (.tuple []) else .tuple []:=by
  intro args
  induction args with
  | nil=>intro k;funext i;simp[qox,CS.tm]
  | cons v vs ih =>
    intro k
    rw[qox,qoY,ih]
    funext i
    by_cases hi:i=k
    ·subst hi
     simp
    ·rw[if_neg hi]
     dsimp only
     by_cases hk:k≤i
     ·rw[if_pos hk,if_pos (by omega)]
      have:i-k=i-(k+1)+1:=by omega
      rw[this,List.getElem?_cons_succ]
     ·rw[if_neg hk,if_neg (by omega)]
 unfold CS.st
 rw[key]
 congr 1
def qrb (T:Nat→Option AFn) (P:Nat→List AVal→Heap→Option (ARes × Heap)):Nat→CallT
 | 0,_,_,_=>none
 | n + 1,f,args,h =>
   match T f with
   | some fn=>qvz fn.results (qgn (fun _=>true) (qrb T P n) n fn.body ⟨qox args 0,.tuple [],h⟩)
   | none=>P f args h
theorem qvw {L:Lib} (hp:∀ f,L.pure f=true) (hs:∀ f,L.fns f≠none→L.summ f=none) (T:Nat→Option AFn) (P:Nat→List AVal→Heap→Option (ARes × Heap)) (hT:∀ f fn,T f=some fn→L.fns f=some fn)
  (hP:∀ f a h r,P f a h=some r→call L f a h=some r):∀ n f a h,Le (qrb T P n f a h) (call L f a h):=by
 have hpp:(fun _=>true)=L.pure:=by funext f;exact (hp f).symm
 intro n
 induction n with
 | zero=>intro f a h r hr;cases hr
 | succ n ih =>
   intro f a h r hr
   rw[qrb] at hr
   split at hr
   ·rename_i fn hf
    refine qaB (hs f (by rw[hT f fn hf];simp)) (hT f fn hf) ?_
    rw[hpp] at hr
    have g:=qrx L.pure (qrb T P n) n fn.body ⟨qox a 0,.tuple [],h⟩
    rw[quF] at g
    exact qry (g.le (qmk ih n fn.body _)) r hr
   ·exact hP f a h r hr
def quI (v:AVal):Option (ARes × Heap)→Bool
 | some (.val u,_)=>eqV u v
 | _=>false
theorem quJ {v:AVal} {r:Option (ARes × Heap)} (h:quI v r=true):∃ H,r=some (.val v,H):=by
 unfold quI at h
 split at h
 ·rename_i u H
  exact⟨H,by rw[qjg h]⟩
 ·cases h
end Go.Abs
