/-
  A machine that computes what the abstract machine says, for examples that are fixed: what it finds, the abstract machine finds. Conditions: none.
-/
import Derived.Test.YtpchghpipgpkfaaDoorAbsB
set_option linter.unusedVariables false
set_option linter.unusedSimpArgs false
namespace Go.Abs
mutual
def eqV:AVal→AVal→Bool
 | .junk,.junk=>true
 | .bool a,.bool b=>a==b
 | .int k n,.int k' n'=>decide (k=k') && decide (n=n')
 | .str a,.str b=>decide (a=b)
 | .list xs o,.list ys o'=>qsO xs ys && decide (o=o')
 | .ref a b c,.ref a' b' c'=>decide (a=a') && decide (b=b') && decide (c=c')
 | .vec a b,.vec a' b'=>decide (a=a') && decide (b=b')
 | .ptr a,.ptr b=>decide (a=b)
 | .vptr cs o,.vptr cs' o'=>qsO cs cs' && decide (o=o')
 | .map a,.map b=>decide (a=b)
 | .func f a b,.func f' a' b'=>decide (f=f') && qsO a a' && qsO b b'
 | .nilFunc,.nilFunc=>true
 | .iface t v,.iface t' v'=>decide (t=t') && eqV v v'
 | .nilIface,.nilIface=>true
 | .agg cs,.agg cs'=>qsO cs cs'
 | .tuple cs,.tuple cs'=>qsO cs cs'
 | _,_=>false
def qsO:List AVal→List AVal→Bool
 | [],[]=>true
 | x::xs,y::ys=>eqV x y && qsO xs ys
 | _,_=>false
end
mutual
theorem qkQ:∀ {x y:AVal},eqV x y=true→x=y:=by
 intro x y h
 cases x<;>cases y<;>simp only[eqV,Bool.and_eq_true,decide_eq_true_eq,beq_iff_eq,Bool.false_eq_true] at h
 case junk.junk=>rfl
 case bool.bool=>rw[h]
 case int.int=>rw[h.1,h.2]
 case str.str=>rw[h]
 case list.list=>rw[qfy h.1,h.2]
 case ref.ref=>rw[h.1.1,h.1.2,h.2]
 case vec.vec=>rw[h.1,h.2]
 case ptr.ptr=>rw[h]
 case vptr.vptr=>rw[qfy h.1,h.2]
 case map.map=>rw[h]
 case func.func=>rw[h.1.1,qfy h.1.2,qfy h.2]
 case nilFunc.nilFunc=>rfl
 case iface.iface=>rw[h.1,qkQ h.2]
 case nilIface.nilIface=>rfl
 case agg.agg=>rw[qfy h]
 case tuple.tuple=>rw[qfy h]
theorem qfy:∀ {xs ys:List AVal},qsO xs ys=true→xs=ys
 | [],[],_=>rfl
 | x :: xs,y :: ys,h => by
   rw[qsO,Bool.and_eq_true] at h
   rw[qkQ h.1,qfy h.2]
 | [],y::ys,h=>by simp[qsO] at h
 | x::xs,[],h=>by simp[qsO] at h
end
def qBe:List (AVal × AVal)→List (AVal × AVal)→Bool
 | [],[]=>true
 | x::xs,y::ys=>eqV x.1 y.1 && eqV x.2 y.2 && qBe xs ys
 | _,_=>false
theorem qut:∀ {xs ys:List (AVal × AVal)},qBe xs ys=true→xs=ys
 | [],[],_=>rfl
 | x :: xs,y :: ys,h => by
   rw[qBe,Bool.and_eq_true,Bool.and_eq_true] at h
   obtain⟨⟨h1,h2⟩,h3⟩:=h
   obtain⟨a,b⟩:=x
   obtain⟨c,d⟩:=y
   have g1:=qkQ h1
   have g2:=qkQ h2
   dsimp only at g1 g2
   rw[g1,g2,qut h3]
 | [],y::ys,h=>by simp[qBe] at h
 | x::xs,[],h=>by simp[qBe] at h
def eqO:AObj→AObj→Bool
 | .gone,.gone=>true
 | .box a,.box b=>qsO a b
 | .map a,.map b=>qBe a b
 | .tail a b,.tail c d=>decide (a=c) && decide (b=d)
 | .vec a b,.vec c d=>qsO a c && decide (b=d)
 | _,_=>false
theorem qBt:∀ {x y:AObj},eqO x y=true→x=y:=by
 intro x y h
 cases x<;>cases y<;>simp only[eqO,Bool.and_eq_true,decide_eq_true_eq,Bool.false_eq_true] at h
 case gone.gone=>rfl
 case box.box=>rw[qfy h]
 case map.map=>rw[qut h]
 case tail.tail=>rw[h.1,h.2]
 case vec.vec=>rw[qfy h.1,h.2]
def eqH:Heap→Heap→Bool
 | [],[]=>true
 | x::xs,y::ys=>eqO x y && eqH xs ys
 | _,_=>false
theorem quu:∀ {xs ys:Heap},eqH xs ys=true→xs=ys
 | [],[],_=>rfl
 | x :: xs,y :: ys,h => by
   rw[eqH,Bool.and_eq_true] at h
   rw[qBt h.1,quu h.2]
 | [],y::ys,h=>by simp[eqH] at h
 | x::xs,[],h=>by simp[eqH] at h
structure CS where
 l:List (Nat × AVal)
 d:AVal
 h:Heap
def CS.tm (s:CS):Tmps:=fun t=>(s.l.lookup t).getD s.d
def CS.st (s:CS):St:=⟨s.tm,s.h⟩
def CS.put (s:CS) (d:Option Nat) (v:AVal) (h:Heap):CS :=
 match d with
 | none=>⟨s.l,s.d,h⟩
 | some t=>⟨(t,v)::s.l,s.d,h⟩
theorem qq9 (t:Nat) (v:AVal) (l:List (Nat × AVal)) (d:AVal) (h:Heap):(CS.mk ((t,v)::l) d h).tm=fun i=>if i=t then v else (CS.mk l d h).tm i:=by
 funext i
 unfold CS.tm
 dsimp only
 rw[List.lookup_cons]
 by_cases hi:i=t
 ·subst hi
  simp
 ·rw[if_neg hi]
  have:(i==t)=false:=by simpa using hi
  rw[this]
theorem qhu (s:CS) (d:Option Nat) (v:AVal) (h:Heap):(s.put d v h).st=⟨upd s.tm d v,h⟩:=by
 cases d with
 | none=>rfl
 | some t =>
   unfold CS.put CS.st
   dsimp only
   rw[qq9]
   rfl
def CS.mapV (f:AVal→AVal) (g:Heap) (s:CS):CS:=⟨s.l.map fun p=>(p.1,f p.2),f s.d,g⟩
theorem qva (f:AVal→AVal) (g:Heap) (s:CS):(s.mapV f g).st=⟨fun i=>f (s.tm i),g⟩:=by
 unfold CS.mapV CS.st
 dsimp only
 congr 1
 funext i
 unfold CS.tm
 dsimp only
 induction s.l with
 | nil=>rfl
 | cons p l ih =>
   obtain⟨t,v⟩:=p
   rw[List.map_cons,List.lookup_cons,List.lookup_cons]
   cases (i==t) with
   | true=>rfl
   | false=>exact ih
def CS.only (keep:List Nat) (f:Nat→AVal) (h:Heap):CS:=⟨keep.map fun t=>(t,f t),.junk,h⟩
theorem qqS (keep:List Nat) (f:Nat→AVal) (h:Heap):(CS.only keep f h).st=⟨fun t=>if t∈keep then f t else .junk,h⟩:=by
 unfold CS.only CS.st
 congr 1
 induction keep with
 | nil=>funext i;rfl
 | cons k ks ih =>
   rw[List.map_cons,qq9,ih]
   funext i
   by_cases hi:i=k
   ·subst hi
    simp
   ·simp[hi]
def cgc (n:Nat) (keep:List Nat) (s:CS):CS :=
 if qmH keep=true then CS.only (keep.drop 1) s.tm s.h
 else if n≤s.h.length then
  (match qhf n keep s.st with
  | ids=>CS.only keep (fun t=>ren (qe6 n ids) (s.tm t)) ((s.h.take n).map (qfp (qe6 n ids))++ids.map fun id=>qfp (qe6 n ids) ((s.h[id]?).getD .gone)))
 else s
theorem qmu (n:Nat) (keep:List Nat) (s:CS):(cgc n keep s).st=gc n keep s.st:=by
 unfold cgc gc
 split
 ·rw[qqS]
  rfl
 ·show CS.st (if n≤s.h.length then _ else _)=if n≤s.h.length then _ else _
  split
  ·rw[qqS]
   rfl
  ·rfl
def qBc (n:Nat) (keep:List Nat) (r:AExit × CS):AExit × CS :=
 match r.1 with
 | .panic _=>r
 | e=>(e,cgc n keep r.2)
def qtA (r:AExit × CS):AExit × St:=(r.1,r.2.st)
theorem qqu (n:Nat) (keep:List Nat) (r:AExit × CS):qtA (qBc n keep r)=gcE n keep (qtA r):=by
 obtain⟨e,s⟩:=r
 cases e<;>unfold qBc gcE qtA<;>dsimp only<;>rw[qmu]
def Sim (x:Option (AExit × CS)) (y:Option (AExit × St)):Prop:=∀ r,x=some r→y=some (qtA r)
theorem Sim.map_gc {x:Option (AExit × CS)} {y:Option (AExit × St)} (h:Sim x y) (n:Nat) (keep:List Nat):Sim (x.map (qBc n keep)) (y.map (gcE n keep)):=by
 intro r hr
 obtain⟨q,hq,rfl⟩:=Option.map_eq_some_iff.1 hr
 rw[h q hq,Option.map_some,qqu]
theorem Sim.le {x:Option (AExit × CS)} {y z:Option (AExit × St)} (h:Sim x y) (hl:Le y z):Sim x z:=fun r hr=>hl _ (h r hr)
def qwW (pure:Nat→Bool) (call:CallT):List Step→CS→Option (AExit × CS)
 | [],s=>some (.normal,s)
 | o :: rest,s =>
   match qaf o.guard s.tm with
   | some true =>
     (match aOp pure call o.op s.tm s.h with
     | some (.val v,h)=>qwW pure call rest (s.put o.dst v h)
     | some (.panic v,h)=>some (.panic v,s.put none .junk h)
     | none=>none)
   | some false=>qwW pure call rest (s.put o.dst (.tuple []) s.h)
   | none=>none
theorem qgM (pure:Nat→Bool) (call:CallT):∀ (l:List Step) (s:CS),Sim (qwW pure call l s) (qcq pure call l s.st)
 | [],s => fun r hr => by
   simp only[qwW,Option.some.injEq] at hr
   subst hr
   rfl
 | o :: rest,s => fun r hr => by
   rw[qwW] at hr
   unfold qcq
   show (match qaf o.guard s.tm with | some true=>_ | some false=>_ | none=>_)=_
   cases hw:qaf o.guard s.tm with
   | none=>rw[hw] at hr;cases hr
   | some b =>
     rw[hw] at hr
     cases b with
     | false =>
       dsimp only at hr ⊢
       have:=qgM pure call rest _ r hr
       rw[qhu] at this
       exact this
     | true =>
       dsimp only at hr ⊢
       show (match aOp pure call o.op s.tm s.h with | some (.val v,h)=>_ | some (.panic v,h)=>_ | none=>_)=_
       cases ho:aOp pure call o.op s.tm s.h with
       | none=>rw[ho] at hr;cases hr
       | some q =>
         rw[ho] at hr
         obtain⟨q,h'⟩:=q
         cases q with
         | val v =>
           dsimp only at hr ⊢
           have:=qgM pure call rest _ r hr
           rw[qhu] at this
           exact this
         | panic v =>
           dsimp only at hr ⊢
           injection hr with hr
           rw[← hr]
           rfl
def qsA (pure:Nat→Bool) (call:CallT):List Step→CS→Option (AExit × CS)
 | [],s=>some (.normal,s)
 | o :: rest,s =>
   match qaf o.guard s.tm with
   | some true =>
     (match qjV pure call o.op s.tm s.h with
     | some (.val v,h)=>qsA pure call rest (s.put o.dst v h)
     | some (.panic v,h)=>some (.panic v,s.put none .junk h)
     | none=>none)
   | some false=>qsA pure call rest (s.put o.dst (.tuple []) s.h)
   | none=>none
theorem qkF (pure:Nat→Bool) (call:CallT):∀ (l:List Step) (s:CS),Sim (qsA pure call l s) (qeE pure call l s.st)
 | [],s => fun r hr => by
   simp only[qsA,Option.some.injEq] at hr
   subst hr
   rfl
 | o :: rest,s => fun r hr => by
   rw[qsA] at hr
   unfold qeE
   show (match qaf o.guard s.tm with | some true=>_ | some false=>_ | none=>_)=_
   cases hw:qaf o.guard s.tm with
   | none=>rw[hw] at hr;cases hr
   | some b =>
     rw[hw] at hr
     cases b with
     | false =>
       dsimp only at hr ⊢
       have:=qkF pure call rest _ r hr
       rw[qhu] at this
       exact this
     | true =>
       dsimp only at hr ⊢
       show (match qjV pure call o.op s.tm s.h with | some (.val v,h)=>_ | some (.panic v,h)=>_ | none=>_)=_
       cases ho:qjV pure call o.op s.tm s.h with
       | none=>rw[ho] at hr;cases hr
       | some q =>
         rw[ho] at hr
         obtain⟨q,h'⟩:=q
         cases q with
         | val v =>
           dsimp only at hr ⊢
           have:=qkF pure call rest _ r hr
           rw[qhu] at this
           exact this
         | panic v =>
           dsimp only at hr ⊢
           injection hr with hr
           rw[← hr]
           rfl
def qsz (pure:Nat→Bool) (call:CallT):List Step→CS→List Heap→Option (CS × List Heap)
 | [],s,hs=>some (s,hs++[s.h])
 | o :: rest,s,hs =>
   match qaf o.guard s.tm with
   | some true =>
     (match aOp pure call o.op s.tm s.h with
     | some (.val v,h')=>qsz pure call rest (s.put o.dst v h') (if qaz o.op=true then hs++[s.h] else hs)
     | _=>none)
   | some false=>qsz pure call rest (s.put o.dst (.tuple []) s.h) (if qaz o.op=true then hs++[s.h] else hs)
   | none=>none
theorem qkE (pure:Nat→Bool) (call:CallT):∀ (l:List Step) (s:CS) (hs:List Heap) (s':CS) (hs':List Heap),qsz pure call l s hs=some (s',hs')→qds pure call l s.tm hs s.h=some (s'.tm,hs',s'.h)
 | [],s,hs,s',hs',hr => by
   simp only[qsz,Option.some.injEq,Prod.mk.injEq] at hr
   obtain⟨rfl,rfl⟩:=hr
   rfl
 | o :: rest,s,hs,s',hs',hr => by
   rw[qsz] at hr
   unfold qds
   cases hw:qaf o.guard s.tm with
   | none=>rw[hw] at hr;cases hr
   | some b =>
     rw[hw] at hr
     cases b with
     | false =>
       dsimp only at hr ⊢
       have:=qkE pure call rest _ _ s' hs' hr
       have hp:=qhu s o.dst (.tuple []) s.h
       unfold CS.st at hp
       injection hp with hp1 hp2
       rw[hp1,hp2] at this
       exact this
     | true =>
       dsimp only at hr ⊢
       cases ho:aOp pure call o.op s.tm s.h with
       | none=>rw[ho] at hr;cases hr
       | some q =>
         rw[ho] at hr
         obtain⟨q,h'⟩:=q
         cases q with
         | val v =>
           dsimp only at hr ⊢
           have:=qkE pure call rest _ _ s' hs' hr
           have hp:=qhu s o.dst v h'
           unfold CS.st at hp
           injection hp with hp1 hp2
           rw[hp1,hp2] at this
           exact this
         | panic v=>cases hr
def qrM:AExit→Bool
 | .normal=>true
 | _=>false
theorem qoW {e:AExit} (h:qrM e=true):e=.normal:=by cases e<;>simp[qrM] at h;rfl
def qt1 (l:List Step) (tm:Tmps) (hs:List Heap) (c:Nat × Nat × Nat):Bool :=
 match l[c.1]? with
 | some ⟨some d,g,o⟩ =>
   (match qaf g tm with
   | some true=>((hs.drop c.2.1).take (c.2.2+1-c.2.1)).all fun h=>match aOp (fun _=>false) qfd o tm h with | some (.val v,h')=>eqV v (tm d) && eqH h' h | _=>false
   | _=>true)
 | _=>true
theorem qt2 {l:List Step} {tm:Tmps} {hs:List Heap} {c:Nat × Nat × Nat} (h:qt1 l tm hs c=true):qkI l tm hs c:=by
 intro s d h1 h2 h3 k hp hk1 hk2 hk
 unfold qt1 at h
 obtain⟨d',g,o⟩:=s
 dsimp only at h2
 subst h2
 dsimp only at h3
 rw[h1] at h
 dsimp only at h
 rw[h3] at h
 dsimp only at h
 rw[List.all_eq_true] at h
 have hm:hp∈(hs.drop c.2.1).take (c.2.2+1-c.2.1):=by
  refine List.mem_of_getElem? (i:=k-c.2.1) ?_
  rw[List.getElem?_take,if_pos (by omega),List.getElem?_drop,show c.2.1+(k-c.2.1)=k by omega]
  exact hk
 have:=h hp hm
 dsimp only
 split at this
 ·rename_i v h' he
  rw[Bool.and_eq_true] at this
  rw[he,qkQ this.1,quu this.2]
 ·cases this
def qBa (pure:Nat→Bool) (call:CallT) (l:List Step) (checks:List (Nat × Nat × Nat)) (s:CS):Option (AExit × CS) :=
 match qsz pure call l s [] with
 | some (s',hs)=>if checks.all (qt1 l s'.tm hs)=true then some (.normal,s') else none
 | none=>none
theorem qwA (pure:Nat→Bool) (call:CallT) (l:List Step) (checks:List (Nat × Nat × Nat)) (s:CS):Sim (qBa pure call l checks s) (qhw pure call l checks s.st):=by
 intro r hr
 unfold qBa at hr
 unfold qhw
 split at hr
 ·rename_i s' hs he
  have h1:=qkE pure call l s [] s' hs he
  show (match qds pure call l s.tm [] s.h with | some (tm,hs,h)=>_ | none=>_)=_
  rw[h1]
  dsimp only
  split at hr
  ·rename_i hc
   rw[if_pos fun c hc'=>qt2 (List.all_eq_true.1 hc c hc')]
   injection hr with hr
   rw[← hr]
   rfl
  ·cases hr
 ·cases hr
def eqR (n:Nat) (keep:List Nat) (a b:AExit × CS):Bool :=
 qrM a.1 && qrM b.1 && !(qmH keep) && decide (n≤a.2.h.length) && decide (n≤b.2.h.length) &&
  keep.all (fun t=>eqV ((cgc n keep a.2).tm t) ((cgc n keep b.2).tm t)) && eqH (cgc n keep a.2).h (cgc n keep b.2).h
theorem qBu {n:Nat} {keep:List Nat} {a b:AExit × CS} (h:eqR n keep a b=true):gcE n keep (qtA a)=gcE n keep (qtA b):=by
 unfold eqR at h
 simp only[Bool.and_eq_true,decide_eq_true_eq,Bool.not_eq_true'] at h
 obtain⟨⟨⟨⟨⟨⟨h1,h2⟩,h3⟩,h4⟩,h5⟩,h6⟩,h7⟩:=h
 obtain⟨e1,s1⟩:=a
 obtain⟨e2,s2⟩:=b
 dsimp only at *
 have e1':=qoW h1
 have e2':=qoW h2
 subst e1'
 subst e2'
 unfold gcE qtA
 dsimp only
 rw[← qmu,← qmu]
 have hh:=quu h7
 have ht:(cgc n keep s1).tm=(cgc n keep s2).tm:=by
  funext t
  by_cases hk:t∈keep
  ·exact qkQ (List.all_eq_true.1 h6 t hk)
  ·have g:∀ s:CS,n≤s.h.length→(cgc n keep s).tm t=.junk:=by
    intro s hs
    have:=qqS keep (fun t=>ren (qe6 n (qhf n keep s.st)) (s.tm t)) ((s.h.take n).map (qfp (qe6 n (qhf n keep s.st)))++(qhf n keep s.st).map fun id=>qfp (qe6 n (qhf n keep s.st)) ((s.h[id]?).getD .gone))
    unfold CS.st at this
    injection this with this _
    unfold cgc
    rw[h3,if_neg (by simp),if_pos hs]
    exact (congrFun this t).trans (if_neg hk)
   rw[g s1 h4,g s2 h5]
 unfold CS.st
 rw[hh,ht]
def qCk (keep:List Nat) (l:List Step) (needs:List (List Nat)) (s:CS):Option (AExit × CS) :=
 match qn4 l needs with
 | []=>none
 | σ :: rest =>
   match qwW (fun _=>false) qfd σ s with
   | some r=>if (rest.all fun σ'=>match qwW (fun _=>false) qfd σ' s with | some r'=>eqR s.h.length keep r' r | none=>false)=true then some (qBc s.h.length keep r) else none
   | none=>none
theorem qwU (keep:List Nat) (l:List Step) (needs:List (List Nat)) (s:CS):Sim (qCk keep l needs s) (qwH keep l needs s.st):=by
 intro r hr
 unfold qCk at hr
 unfold qwH
 split at hr
 ·cases hr
 ·rename_i σ rest hl
  split at hr
  ·rename_i r0 h0
   split at hr
   ·rename_i ha
    injection hr with hr
    have key:∀ σ'∈qn4 l needs,(qcq (fun _=>false) qfd σ' s.st).map (gcE s.h.length keep)=some (qtA r):=by
     intro σ' hσ
     rw[hl] at hσ
     rcases List.mem_cons.1 hσ with rfl | hσ
     ·rw[qgM _ _ _ _ _ h0,← hr,qqu]
      rfl
     ·have:=List.all_eq_true.1 ha σ' hσ
      split at this
      ·rename_i r' he
       rw[qgM _ _ _ _ _ he,Option.map_some,qBu this,← hr,qqu]
      ·cases this
    have hex:∃ r,∀ σ∈qn4 l needs,(qcq (fun _=>false) qfd σ s.st).map (gcE s.st.h.length keep)=some r:=⟨_,key⟩
    rw[dif_pos hex]
    have h1:=Classical.choose_spec hex σ (by rw[hl];simp)
    have h2:=key σ (by rw[hl];simp)
    exact h1.symm.trans h2
   ·cases hr
  ·cases hr
def qrt (id sz:Nat) (cs:List AVal) (s:CS):CS :=
 if qax cs=true∧cs.all leaf=true then s.mapV (frz id sz cs) ((s.h.set id .gone).map (qlY id sz cs)) else s
theorem qoy (id sz:Nat) (cs:List AVal) (s:CS):(qrt id sz cs s).st=qjR id sz cs s.st:=by
 unfold qrt qjR
 split
 ·rw[qva]
  rfl
 ·rfl
def qnt (t:Nat) (s:CS):CS :=
 match s.tm t with
 | .ptr (some (id,0))=>(match s.h[id]? with | some (.box cs)=>qrt id 0 (cs.map wipeCell) s | _=>s)
 | .vec id _=>(match s.h[id]? with | some (.vec cs sz)=>qrt id sz (cs.map wipeCell) s | _=>s)
 | _=>s
theorem qsE (t:Nat) (s:CS):(qnt t s).st=qfI t s.st:=by
 unfold qnt qfI
 show CS.st _=match s.tm t with | .ptr (some (id,0))=>(match s.h[id]? with | some (.box cs)=>qjR id 0 (cs.map wipeCell) s.st | _=>s.st) | .vec id _=>(match s.h[id]? with | some (.vec cs sz)=>qjR id sz (cs.map wipeCell) s.st | _=>s.st) | _=>s.st
 split
 ·split
  ·exact qoy _ _ _ _
  ·rfl
 ·split
  ·exact qoy _ _ _ _
  ·rfl
 ·rfl
def qw3 (s:CS):CS:=s.mapV (viewV s.h) (s.h.map fun _=>.gone)
theorem qw4 (s:CS):(qw3 s).st=qp1 s.st:=by
 unfold qw3 qp1
 rw[qva]
 rfl
def qt5 (body:CS→Option (AExit × CS)):Nat→CS→Option (AExit × CS)
 | 0,_=>none
 | n + 1,s =>
   match body s with
   | some (.normal,s')=>qt5 body n s'
   | r=>r
theorem qkD {b1:CS→Option (AExit × CS)} {b2:St→Option (AExit × St)} (hb:∀ s,Sim (b1 s) (b2 s.st)):∀ n s,Sim (qt5 b1 n s) (qdZ b2 n s.st)
 | 0,s=>fun r hr=>by cases hr
 | n + 1,s => fun r hr => by
   rw[qt5] at hr
   rw[qdZ]
   cases hx:b1 s with
   | none=>rw[hx] at hr;cases hr
   | some x =>
     rw[hb s x hx]
     rw[hx] at hr
     obtain⟨e,s'⟩:=x
     cases e with
     | normal=>exact qkD hb n s' r hr
     | _=>injection hr with hr;rw[← hr];rfl
def qh2 (id:Nat) (r:Option (AExit × CS)):Option (AExit × CS) :=
 match r with
 | some (.exit id',s')=>if id'=id then some (.normal,s') else some (.exit id',s')
 | r=>r
theorem qiS {id:Nat} {x:Option (AExit × CS)} {y:Option (AExit × St)} (h:Sim x y):Sim (qh2 id x) (qdU id y):=by
 intro r hr
 cases hx:x with
 | none=>rw[hx] at hr;cases hr
 | some q =>
   rw[h q hx]
   rw[hx] at hr
   obtain⟨e,s'⟩:=q
   cases e with
   | exit id' =>
     unfold qh2 at hr
     unfold qdU qtA
     dsimp only at hr ⊢
     split at hr
     ·rename_i hid
      rw[if_pos hid]
      injection hr with hr
      rw[← hr]
     ·rename_i hid
      rw[if_neg hid]
      injection hr with hr
      rw[← hr]
   | _=>injection hr with hr;rw[← hr];rfl
def qy2 (run:CS→Option (AExit × CS)) (r:Option (AExit × CS)):Option (AExit × CS) :=
 match r with
 | some (.normal,s2)=>run s2
 | r=>r
theorem qox {r1:CS→Option (AExit × CS)} {r2:St→Option (AExit × St)} (hr:∀ s,Sim (r1 s) (r2 s.st)) {x:Option (AExit × CS)} {y:Option (AExit × St)} (h:Sim x y):Sim (qy2 r1 x) (qlN r2 y):=by
 intro r hq
 cases hx:x with
 | none=>rw[hx] at hq;cases hq
 | some q =>
   rw[h q hx]
   rw[hx] at hq
   obtain⟨e,s'⟩:=q
   cases e with
   | normal=>exact hr s' r hq
   | _=>injection hq with hq;rw[← hq];rfl
def qrr (ops:List Step→CS→Option (AExit × CS)) (n:Nat) (k:RangeK) (runB:CS→Option (AExit × CS)) (e:AVal × AVal) (s:CS):Option (AExit × CS) :=
 if qrN n k s.st=true then
  match ops k.r1 (s.put (some k.dn) (.tuple [.bool true,e.1,e.2]) s.h) with
  | some (.normal,s1) =>
    if qrN n k s1.st=true then
     (match opd s1.tm k.c with
     | .bool true=>qh2 k.id2 (qy2 runB (ops k.r2 (s1.put k.de (.tuple [e.1,e.2]) s1.h)))
     | _=>none)
    else none
  | _=>none
 else none
theorem qsC {o1:List Step→CS→Option (AExit × CS)} {o2:List Step→St→Option (AExit × St)} (ho:∀ l s,Sim (o1 l s) (o2 l s.st)) {b1:CS→Option (AExit × CS)} {b2:St→Option (AExit × St)} (hb:∀ s,Sim (b1 s) (b2 s.st)) (n:Nat) (k:RangeK) (e:AVal × AVal) (s:CS) :
  Sim (qrr o1 n k b1 e s) (qbr o2 n k b2 e s.st):=by
 intro r hr
 unfold qrr at hr
 unfold qbr
 split at hr
 case isFalse=>cases hr
 rename_i hit
 rw[if_pos hit]
 have hp:=qhu s (some k.dn) (.tuple [.bool true,e.1,e.2]) s.h
 split at hr
 case h_2=>cases hr
 rename_i s1 h1
 have g1:=ho _ _ _ h1
 rw[hp] at g1
 show (match o2 k.r1 ⟨upd s.tm (some k.dn) (.tuple [.bool true,e.1,e.2]),s.h⟩ with | some (.normal,s1)=>_ | _=>none)=_
 rw[g1]
 dsimp only[qtA]
 split at hr
 case isFalse=>cases hr
 rename_i hit2
 rw[if_pos hit2]
 split at hr
 case h_2=>cases hr
 rename_i hc
 show (match opd s1.tm k.c with | .bool true=>_ | _=>none)=_
 rw[hc]
 dsimp only
 have hp2:=qhu s1 k.de (.tuple [e.1,e.2]) s1.h
 have g2:=ho k.r2 (s1.put k.de (.tuple [e.1,e.2]) s1.h)
 rw[hp2] at g2
 exact qiS (qox hb g2) r hr
def qCj (ops:List Step→CS→Option (AExit × CS)) (n:Nat) (k:RangeK) (s:CS):Option (AExit × CS) :=
 if qrN n k s.st=true then
  match ops k.r1 (s.put (some k.dn) (.tuple [.bool false]) s.h) with
  | some (.normal,s1)=>(match opd s1.tm k.c with | .bool false=>some (.normal,s1) | _=>none)
  | _=>none
 else none
theorem qwT {o1:List Step→CS→Option (AExit × CS)} {o2:List Step→St→Option (AExit × St)} (ho:∀ l s,Sim (o1 l s) (o2 l s.st)) (n:Nat) (k:RangeK) (s:CS):Sim (qCj o1 n k s) (qb2 o2 n k s.st):=by
 intro r hr
 unfold qCj at hr
 unfold qb2
 split at hr
 case isFalse=>cases hr
 rename_i hit
 rw[if_pos hit]
 have hp:=qhu s (some k.dn) (.tuple [.bool false]) s.h
 split at hr
 case h_2=>cases hr
 rename_i s1 h1
 have g1:=ho _ _ _ h1
 rw[hp] at g1
 show (match o2 k.r1 ⟨upd s.tm (some k.dn) (.tuple [.bool false]),s.h⟩ with | some (.normal,s1)=>_ | _=>none)=_
 rw[g1]
 dsimp only[qtA]
 split at hr
 case h_2=>cases hr
 rename_i hc
 show (match opd s1.tm k.c with | .bool false=>_ | _=>none)=_
 rw[hc]
 injection hr with hr
 rw[← hr]
def qy1 (ops:List Step→CS→Option (AExit × CS)) (n:Nat) (k:RangeK) (runB:CS→Option (AExit × CS)):List (AVal × AVal)→CS→Option (AExit × CS)
 | [],s=>qCj ops n k (cgc (n+1) k.kr s)
 | e :: es,s =>
   match qrr ops n k runB e (cgc (n+1) k.kr s) with
   | some (.normal,s')=>qy1 ops n k runB es s'
   | r=>qh2 k.id r
theorem qrs {o1:List Step→CS→Option (AExit × CS)} {o2:List Step→St→Option (AExit × St)} (ho:∀ l s,Sim (o1 l s) (o2 l s.st)) {b1:CS→Option (AExit × CS)} {b2:St→Option (AExit × St)} (hb:∀ s,Sim (b1 s) (b2 s.st)) (n:Nat) (k:RangeK) :
  ∀ (es:List (AVal × AVal)) (s:CS),Sim (qy1 o1 n k b1 es s) (qbs o2 n k b2 es s.st)
 | [],s => fun r hr => by
   rw[qy1] at hr
   rw[qbs,← qmu]
   exact qwT ho n k _ r hr
 | e :: es,s => fun r hr => by
   rw[qy1] at hr
   rw[qbs,← qmu]
   cases hx:qrr o1 n k b1 e (cgc (n+1) k.kr s) with
   | none=>rw[hx] at hr;cases hr
   | some x =>
     have g:=qsC ho hb n k e _ x hx
     rw[g]
     rw[hx] at hr
     obtain⟨q,s'⟩:=x
     cases q with
     | normal=>exact qrs ho hb n k es s' r hr
     | exit j=>exact qiS (x:=some (.exit j,s')) (y:=some (.exit j,s'.st)) (fun r hr=>by injection hr with hr;rw[← hr];rfl) r hr
     | ret=>injection hr with hr;rw[← hr];rfl
     | panic v=>injection hr with hr;rw[← hr];rfl
def qqs (ops:List Step→CS→Option (AExit × CS)) (k:RangeK) (runB runC:CS→Option (AExit × CS)) (s:CS):Option (AExit × CS) :=
 match ops k.pre s with
 | some (.normal,s1) =>
   (match qcR k.str (opd s1.tm k.m) s1.h with
   | some es=>if k.str=true∨es.length≤1 then
    (match qy1 ops s1.h.length k runB es (s1.put (some k.it) (.ptr (some (s1.h.length,0))) (ql9 (opd s1.tm k.m) s1.h)) with
    | some (.normal,s2)=>runC ⟨s2.l,s2.d,qcG (opd s1.tm k.m) s1.h s2.h⟩
    | some (e,s2)=>some (e,⟨s2.l,s2.d,qcG (opd s1.tm k.m) s1.h s2.h⟩)
    | none=>none).map (qBc s.h.length k.keep) else none
   | none=>none)
 | _=>none
theorem qsB {o1:List Step→CS→Option (AExit × CS)} {o2:List Step→St→Option (AExit × St)} (ho:∀ l s,Sim (o1 l s) (o2 l s.st)) {b1 c1:CS→Option (AExit × CS)} {b2 c2:St→Option (AExit × St)} (hb:∀ s,Sim (b1 s) (b2 s.st)) (hc:∀ s,Sim (c1 s) (c2 s.st)) (k:RangeK) (s:CS) :
  Sim (qqs o1 k b1 c1 s) (qlx o2 k b2 c2 s.st):=by
 intro r hr
 unfold qqs at hr
 rw[qfi]
 split at hr
 case h_2=>cases hr
 rename_i s1 he
 have g1:=ho _ _ _ he
 rw[g1]
 dsimp only[qtA]
 split at hr
 case h_2=>cases hr
 rename_i es hes
 show (match qcR k.str (opd s1.tm k.m) s1.h with | some es=>_ | none=>none)=_
 rw[hes]
 dsimp only
 split at hr
 case isFalse=>cases hr
 rename_i hcc
 refine (qcZ (qb7 _ _)).2 fun es' hoo=>?_
 have hes':es'=es:=by
  unfold qcC at hoo
  rcases hcc with hcc | hcc
  ·rw[if_pos hcc] at hoo
   exact hoo
  ·split at hoo
   ·exact hoo
   ·match es,hcc,hoo with
    | [],_,hoo=>exact List.perm_nil.1 hoo
    | [x],_,hoo=>exact List.perm_singleton.1 hoo
 rw[hes']
 unfold qcN
 refine Sim.map_gc (x:=match qy1 o1 s1.h.length k b1 es (s1.put (some k.it) (.ptr (some (s1.h.length,0))) (ql9 (opd s1.tm k.m) s1.h)) with
    | some (.normal,s2)=>c1 ⟨s2.l,s2.d,qcG (opd s1.tm k.m) s1.h s2.h⟩
    | some (e,s2)=>some (e,⟨s2.l,s2.d,qcG (opd s1.tm k.m) s1.h s2.h⟩)
    | none=>none) (fun q hq=>?_) s.h.length k.keep r hr
 have hp:=qhu s1 (some k.it) (.ptr (some (s1.h.length,0))) (ql9 (opd s1.tm k.m) s1.h)
 cases hx:qy1 o1 s1.h.length k b1 es (s1.put (some k.it) (.ptr (some (s1.h.length,0))) (ql9 (opd s1.tm k.m) s1.h)) with
 | none=>rw[hx] at hq;cases hq
 | some x =>
   have g:=qrs ho hb s1.h.length k es _ x hx
   rw[hp] at g
   show (match qbs o2 s1.h.length k b2 es ⟨upd s1.tm (some k.it) (.ptr (some (s1.h.length,0))),ql9 (opd s1.tm k.m) s1.h⟩ with
    | some (.normal,s2)=>c2 ⟨s2.tm,qcG (opd s1.tm k.m) s1.h s2.h⟩
    | some (e,s2)=>some (e,⟨s2.tm,qcG (opd s1.tm k.m) s1.h s2.h⟩)
    | none=>none)=_
   rw[g]
   rw[hx] at hq
   obtain⟨e,s2⟩:=x
   cases e with
   | normal=>exact hc _ q hq
   | _=>injection hq with hq;rw[← hq];rfl
def qhA (pure:Nat→Bool) (call:CallT) (n:Nat):ACode→CS→Option (AExit × CS)
 | .skip,s=>some (.normal,s)
 | .ops l,s=>qwW pure call l s
 | .draw l cs,s=>qBa pure call l cs s
 | .kops l,s=>qsA pure call l s
 | .view c,s=>qhA pure call n c (qw3 s)
 | .mdraw k l ns,s=>qCk k l ns s
 | .seq a b,s=>qy2 (qhA pure call n b) (qhA pure call n a s)
 | .cond c a b,s=>(match opd s.tm c with | .bool t=>if t then qhA pure call n a s else qhA pure call n b s | _=>none)
 | .block id c,s=>qh2 id (qhA pure call n c s)
 | .loop c,s=>qt5 (qhA pure call n c) n s
 | .gloop k c,s=>qt5 (fun s1=>qhA pure call n c (cgc s.h.length k s1)) n s
 | .frame k c,s=>(qhA pure call n c s).map (qBc s.h.length k)
 | .freeze t c,s=>qhA pure call n c (qnt t s)
 | .range k b c,s=>qqs (qwW pure call) k (qhA pure call n b) (qhA pure call n c) s
 | .exit id,s=>some (.exit id,s)
 | .ret,s=>some (.ret,s)
 | .stuck,_=>none
theorem qn7 (e:AExit) (s:CS):Sim (some (e,s)) (some (e,s.st)):=fun r hr=>by
 injection hr with hr
 rw[← hr]
 rfl
theorem qt3 (pure:Nat→Bool) (call:CallT) (n:Nat):∀ (c:ACode) (s:CS),Sim (qhA pure call n c s) (qaM pure call n c s.st):=by
 intro c
 induction c with
 | skip=>intro s;exact qn7 _ _
 | ops l=>intro s;exact qgM pure call l s
 | draw l cs=>intro s;exact qwA pure call l cs s
 | kops l=>intro s;exact qkF pure call l s
 | mdraw k l ns=>intro s;exact qwU k l ns s
 | seq a b iha ihb=>intro s;exact qox ihb (iha s)
 | cond c a b iha ihb =>
   intro s r hr
   rw[qhA] at hr
   rw[qaM]
   show (match opd s.tm c with | .bool t=>_ | _=>none)=_
   split at hr
   ·rename_i t ht
    cases t with
    | true=>exact iha s r hr
    | false=>exact ihb s r hr
   ·cases hr
 | block id c ih=>intro s;exact qiS (ih s)
 | loop c ih=>intro s;exact qkD ih n s
 | gloop k c ih =>
   intro s
   refine qkD (fun s1=>?_) n s
   have:=ih (cgc s.h.length k s1)
   rw[qmu] at this
   exact this
 | freeze t c ih =>
   intro s
   have:=ih (qnt t s)
   rw[qsE] at this
   exact this
 | view c ih =>
   intro s
   have:=ih (qw3 s)
   rw[qw4] at this
   exact this
 | range k b c ihb ihc=>intro s;exact qsB (fun l s=>qgM pure call l s) ihb ihc k s
 | frame k c ih=>intro s;exact (ih s).map_gc _ _
 | exit id=>intro s;exact qn7 _ _
 | ret=>intro s;exact qn7 _ _
 | stuck=>intro s r hr;cases hr
def qyw (rs:List ARVar) (r:Option (AExit × CS)):Option (ARes × Heap) :=
 match r with
 | some (.normal,s) | some (.ret,s)=>(match qac s.tm s.h rs with | some vs=>some (.val (qaj vs),s.h) | none=>none)
 | some (.panic v,s)=>some (.panic v,s.h)
 | _=>none
theorem qt4 {rs:List ARVar} {x:Option (AExit × CS)} {y:Option (AExit × St)} (h:Sim x y):Le (qyw rs x) (qan rs y):=by
 intro r hr
 cases hx:x with
 | none=>rw[hx] at hr;cases hr
 | some q =>
   rw[h q hx]
   rw[hx] at hr
   obtain⟨e,s⟩:=q
   cases e<;>exact hr
def qqE (args:List AVal):Nat→List (Nat × AVal)
 | i => match args with
   | []=>[]
   | v::vs=>(i,v)::qqE vs (i+1)
theorem qxu (h:Heap) (args:List AVal):(CS.mk (qqE args 0) (.tuple []) h).st=⟨qew args,h⟩:=by
 have key:∀ (args:List AVal) (k:Nat),(CS.mk (qqE args k) (.tuple []) h).tm=fun i=>if k≤i then (args[i-k]?).getD (.tuple []) else .tuple []:=by
  intro args
  induction args with
  | nil=>intro k;funext i;simp[qqE,CS.tm]
  | cons v vs ih =>
    intro k
    rw[qqE,qq9,ih]
    funext i
    by_cases hi:i=k
    ·subst hi
     simp
    ·rw[if_neg hi]
     dsimp only
     by_cases hk:k≤i
     ·rw[if_pos hk,if_pos (by omega)]
      have:i-k=i-(k+1)+1:=by omega
      rw[this,List.getElem?_cons_succ]
     ·rw[if_neg hk,if_neg (by omega)]
 unfold CS.st
 rw[key]
 congr 1
def qtz (T:Nat→Option AFn) (P:Nat→List AVal→Heap→Option (ARes × Heap)):Nat→CallT
 | 0,_,_,_=>none
 | n + 1,f,args,h =>
   match T f with
   | some fn=>qyw fn.results (qhA (fun _=>true) (qtz T P n) n fn.body ⟨qqE args 0,.tuple [],h⟩)
   | none=>P f args h
theorem qyu {L:Lib} (hp:∀ f,L.pure f=true) (hs:∀ f,L.fns f≠none→L.summ f=none) (T:Nat→Option AFn) (P:Nat→List AVal→Heap→Option (ARes × Heap)) (hT:∀ f fn,T f=some fn→L.fns f=some fn)
  (hP:∀ f a h r,P f a h=some r→call L f a h=some r):∀ n f a h,Le (qtz T P n f a h) (call L f a h):=by
 have hpp:(fun _=>true)=L.pure:=by funext f;exact (hp f).symm
 intro n
 induction n with
 | zero=>intro f a h r hr;cases hr
 | succ n ih =>
   intro f a h r hr
   rw[qtz] at hr
   split at hr
   ·rename_i fn hf
    refine qaL (hs f (by rw[hT f fn hf];simp)) (hT f fn hf) ?_
    rw[hpp] at hr
    have g:=qt3 L.pure (qtz T P n) n fn.body ⟨qqE a 0,.tuple [],h⟩
    rw[qxu] at g
    exact qt4 (g.le (qoj ih n fn.body _)) r hr
   ·exact hP f a h r hr
def qxx (v:AVal):Option (ARes × Heap)→Bool
 | some (.val u,_)=>eqV u v
 | _=>false
theorem qxy {v:AVal} {r:Option (ARes × Heap)} (h:qxx v r=true):∃ H,r=some (.val v,H):=by
 unfold qxx at h
 split at h
 ·rename_i u H
  exact⟨H,by rw[qkQ h]⟩
 ·cases h
end Go.Abs
