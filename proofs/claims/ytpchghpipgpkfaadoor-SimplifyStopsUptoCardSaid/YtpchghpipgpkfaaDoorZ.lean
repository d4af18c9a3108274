/-
  A machine that computes what the abstract machine says, for examples that are fixed: what it finds, the abstract machine finds. Conditions: none.
-/
import Derived.Test.YtpchghpipgpkfaaDoorAbsB
set_option linter.unusedVariables false
set_option linter.unusedSimpArgs false
namespace Go.Abs
mutual
def eqV:AVal→AVal→Bool
 | .junk,.junk=>true
 | .bool a,.bool b=>a==b
 | .int k n,.int k' n'=>decide (k=k') && decide (n=n')
 | .str a,.str b=>decide (a=b)
 | .list xs o,.list ys o'=>qqd xs ys && decide (o=o')
 | .ref a b c,.ref a' b' c'=>decide (a=a') && decide (b=b') && decide (c=c')
 | .vec a b,.vec a' b'=>decide (a=a') && decide (b=b')
 | .ptr a,.ptr b=>decide (a=b)
 | .vptr cs o,.vptr cs' o'=>qqd cs cs' && decide (o=o')
 | .map a,.map b=>decide (a=b)
 | .func f a b,.func f' a' b'=>decide (f=f') && qqd a a' && qqd b b'
 | .nilFunc,.nilFunc=>true
 | .iface t v,.iface t' v'=>decide (t=t') && eqV v v'
 | .nilIface,.nilIface=>true
 | .agg cs,.agg cs'=>qqd cs cs'
 | .tuple cs,.tuple cs'=>qqd cs cs'
 | _,_=>false
def qqd:List AVal→List AVal→Bool
 | [],[]=>true
 | x::xs,y::ys=>eqV x y && qqd xs ys
 | _,_=>false
end
mutual
theorem qjg:∀ {x y:AVal},eqV x y=true→x=y:=by
 intro x y h
 cases x<;>cases y<;>simp only[eqV,Bool.and_eq_true,decide_eq_true_eq,beq_iff_eq,Bool.false_eq_true] at h
 case junk.junk=>rfl
 case bool.bool=>rw[h]
 case int.int=>rw[h.1,h.2]
 case str.str=>rw[h]
 case list.list=>rw[qew h.1,h.2]
 case ref.ref=>rw[h.1.1,h.1.2,h.2]
 case vec.vec=>rw[h.1,h.2]
 case ptr.ptr=>rw[h]
 case vptr.vptr=>rw[qew h.1,h.2]
 case map.map=>rw[h]
 case func.func=>rw[h.1.1,qew h.1.2,qew h.2]
 case nilFunc.nilFunc=>rfl
 case iface.iface=>rw[h.1,qjg h.2]
 case nilIface.nilIface=>rfl
 case agg.agg=>rw[qew h]
 case tuple.tuple=>rw[qew h]
theorem qew:∀ {xs ys:List AVal},qqd xs ys=true→xs=ys
 | [],[],_=>rfl
 | x :: xs,y :: ys,h => by
   rw[qqd,Bool.and_eq_true] at h
   rw[qjg h.1,qew h.2]
 | [],y::ys,h=>by simp[qqd] at h
 | x::xs,[],h=>by simp[qqd] at h
end
def qx5:List (AVal × AVal)→List (AVal × AVal)→Bool
 | [],[]=>true
 | x::xs,y::ys=>eqV x.1 y.1 && eqV x.2 y.2 && qx5 xs ys
 | _,_=>false
theorem qrG:∀ {xs ys:List (AVal × AVal)},qx5 xs ys=true→xs=ys
 | [],[],_=>rfl
 | x :: xs,y :: ys,h => by
   rw[qx5,Bool.and_eq_true,Bool.and_eq_true] at h
   obtain⟨⟨h1,h2⟩,h3⟩:=h
   obtain⟨a,b⟩:=x
   obtain⟨c,d⟩:=y
   have g1:=qjg h1
   have g2:=qjg h2
   dsimp only at g1 g2
   rw[g1,g2,qrG h3]
 | [],y::ys,h=>by simp[qx5] at h
 | x::xs,[],h=>by simp[qx5] at h
def eqO:AObj→AObj→Bool
 | .gone,.gone=>true
 | .box a,.box b=>qqd a b
 | .map a,.map b=>qx5 a b
 | .tail a b,.tail c d=>decide (a=c) && decide (b=d)
 | .vec a b,.vec c d=>qqd a c && decide (b=d)
 | _,_=>false
theorem qyi:∀ {x y:AObj},eqO x y=true→x=y:=by
 intro x y h
 cases x<;>cases y<;>simp only[eqO,Bool.and_eq_true,decide_eq_true_eq,Bool.false_eq_true] at h
 case gone.gone=>rfl
 case box.box=>rw[qew h]
 case map.map=>rw[qrG h]
 case tail.tail=>rw[h.1,h.2]
 case vec.vec=>rw[qew h.1,h.2]
def eqH:Heap→Heap→Bool
 | [],[]=>true
 | x::xs,y::ys=>eqO x y && eqH xs ys
 | _,_=>false
theorem qrH:∀ {xs ys:Heap},eqH xs ys=true→xs=ys
 | [],[],_=>rfl
 | x :: xs,y :: ys,h => by
   rw[eqH,Bool.and_eq_true] at h
   rw[qyi h.1,qrH h.2]
 | [],y::ys,h=>by simp[eqH] at h
 | x::xs,[],h=>by simp[eqH] at h
structure CS where
 l:List (Nat × AVal)
 d:AVal
 h:Heap
def CS.tm (s:CS):Tmps:=fun t=>(s.l.lookup t).getD s.d
def CS.st (s:CS):St:=⟨s.tm,s.h⟩
def CS.put (s:CS) (d:Option Nat) (v:AVal) (h:Heap):CS :=
 match d with
 | none=>⟨s.l,s.d,h⟩
 | some t=>⟨(t,v)::s.l,s.d,h⟩
theorem qoI (t:Nat) (v:AVal) (l:List (Nat × AVal)) (d:AVal) (h:Heap):(CS.mk ((t,v)::l) d h).tm=fun i=>if i=t then v else (CS.mk l d h).tm i:=by
 funext i
 unfold CS.tm
 dsimp only
 rw[List.lookup_cons]
 by_cases hi:i=t
 ·subst hi
  simp
 ·rw[if_neg hi]
  have:(i==t)=false:=by simpa using hi
  rw[this]
theorem qgd (s:CS) (d:Option Nat) (v:AVal) (h:Heap):(s.put d v h).st=⟨upd s.tm d v,h⟩:=by
 cases d with
 | none=>rfl
 | some t =>
   unfold CS.put CS.st
   dsimp only
   rw[qoI]
   rfl
def CS.mapV (f:AVal→AVal) (g:Heap) (s:CS):CS:=⟨s.l.map fun p=>(p.1,f p.2),f s.d,g⟩
theorem qsj (f:AVal→AVal) (g:Heap) (s:CS):(s.mapV f g).st=⟨fun i=>f (s.tm i),g⟩:=by
 unfold CS.mapV CS.st
 dsimp only
 congr 1
 funext i
 unfold CS.tm
 dsimp only
 induction s.l with
 | nil=>rfl
 | cons p l ih =>
   obtain⟨t,v⟩:=p
   rw[List.map_cons,List.lookup_cons,List.lookup_cons]
   cases (i==t) with
   | true=>rfl
   | false=>exact ih
def CS.only (keep:List Nat) (f:Nat→AVal) (h:Heap):CS:=⟨keep.map fun t=>(t,f t),.junk,h⟩
theorem qov (keep:List Nat) (f:Nat→AVal) (h:Heap):(CS.only keep f h).st=⟨fun t=>if t∈keep then f t else .junk,h⟩:=by
 unfold CS.only CS.st
 congr 1
 induction keep with
 | nil=>funext i;rfl
 | cons k ks ih =>
   rw[List.map_cons,qoI,ih]
   funext i
   by_cases hi:i=k
   ·subst hi
    simp
   ·simp[hi]
def cgc (n:Nat) (keep:List Nat) (s:CS):CS :=
 if qkS keep=true then CS.only (keep.drop 1) s.tm s.h
 else if n≤s.h.length then
  (match qf3 n keep s.st with
  | ids=>CS.only keep (fun t=>ren (qd7 n ids) (s.tm t)) ((s.h.take n).map (qeo (qd7 n ids))++ids.map fun id=>qeo (qd7 n ids) ((s.h[id]?).getD .gone)))
 else s
theorem qkE (n:Nat) (keep:List Nat) (s:CS):(cgc n keep s).st=gc n keep s.st:=by
 unfold cgc gc
 split
 ·rw[qov]
  rfl
 ·show CS.st (if n≤s.h.length then _ else _)=if n≤s.h.length then _ else _
  split
  ·rw[qov]
   rfl
  ·rfl
def qx3 (n:Nat) (keep:List Nat) (r:AExit × CS):AExit × CS :=
 match r.1 with
 | .panic _=>r
 | e=>(e,cgc n keep r.2)
def qqV (r:AExit × CS):AExit × St:=(r.1,r.2.st)
theorem qob (n:Nat) (keep:List Nat) (r:AExit × CS):qqV (qx3 n keep r)=gcE n keep (qqV r):=by
 obtain⟨e,s⟩:=r
 cases e<;>unfold qx3 gcE qqV<;>dsimp only<;>rw[qkE]
def Sim (x:Option (AExit × CS)) (y:Option (AExit × St)):Prop:=∀ r,x=some r→y=some (qqV r)
theorem Sim.map_gc {x:Option (AExit × CS)} {y:Option (AExit × St)} (h:Sim x y) (n:Nat) (keep:List Nat):Sim (x.map (qx3 n keep)) (y.map (gcE n keep)):=by
 intro r hr
 obtain⟨q,hq,rfl⟩:=Option.map_eq_some_iff.1 hr
 rw[h q hq,Option.map_some,qob]
theorem Sim.le {x:Option (AExit × CS)} {y z:Option (AExit × St)} (h:Sim x y) (hl:Le y z):Sim x z:=fun r hr=>hl _ (h r hr)
def qtK (pure:Nat→Bool) (call:CallT):List Step→CS→Option (AExit × CS)
 | [],s=>some (.normal,s)
 | o :: rest,s =>
   match qaf o.guard s.tm with
   | some true =>
     (match aOp pure call o.op s.tm s.h with
     | some (.val v,h)=>qtK pure call rest (s.put o.dst v h)
     | some (.panic v,h)=>some (.panic v,s.put none .junk h)
     | none=>none)
   | some false=>qtK pure call rest (s.put o.dst (.tuple []) s.h)
   | none=>none
theorem qfy (pure:Nat→Bool) (call:CallT):∀ (l:List Step) (s:CS),Sim (qtK pure call l s) (qb0 pure call l s.st)
 | [],s => fun r hr => by
   simp only[qtK,Option.some.injEq] at hr
   subst hr
   rfl
 | o :: rest,s => fun r hr => by
   rw[qtK] at hr
   unfold qb0
   show (match qaf o.guard s.tm with | some true=>_ | some false=>_ | none=>_)=_
   cases hw:qaf o.guard s.tm with
   | none=>rw[hw] at hr;cases hr
   | some b =>
     rw[hw] at hr
     cases b with
     | false =>
       dsimp only at hr ⊢
       have:=qfy pure call rest _ r hr
       rw[qgd] at this
       exact this
     | true =>
       dsimp only at hr ⊢
       show (match aOp pure call o.op s.tm s.h with | some (.val v,h)=>_ | some (.panic v,h)=>_ | none=>_)=_
       cases ho:aOp pure call o.op s.tm s.h with
       | none=>rw[ho] at hr;cases hr
       | some q =>
         rw[ho] at hr
         obtain⟨q,h'⟩:=q
         cases q with
         | val v =>
           dsimp only at hr ⊢
           have:=qfy pure call rest _ r hr
           rw[qgd] at this
           exact this
         | panic v =>
           dsimp only at hr ⊢
           injection hr with hr
           rw[← hr]
           rfl
def qpZ (pure:Nat→Bool) (call:CallT):List Step→CS→Option (AExit × CS)
 | [],s=>some (.normal,s)
 | o :: rest,s =>
   match qaf o.guard s.tm with
   | some true =>
     (match qir pure call o.op s.tm s.h with
     | some (.val v,h)=>qpZ pure call rest (s.put o.dst v h)
     | some (.panic v,h)=>some (.panic v,s.put none .junk h)
     | none=>none)
   | some false=>qpZ pure call rest (s.put o.dst (.tuple []) s.h)
   | none=>none
theorem qi5 (pure:Nat→Bool) (call:CallT):∀ (l:List Step) (s:CS),Sim (qpZ pure call l s) (qdN pure call l s.st)
 | [],s => fun r hr => by
   simp only[qpZ,Option.some.injEq] at hr
   subst hr
   rfl
 | o :: rest,s => fun r hr => by
   rw[qpZ] at hr
   unfold qdN
   show (match qaf o.guard s.tm with | some true=>_ | some false=>_ | none=>_)=_
   cases hw:qaf o.guard s.tm with
   | none=>rw[hw] at hr;cases hr
   | some b =>
     rw[hw] at hr
     cases b with
     | false =>
       dsimp only at hr ⊢
       have:=qi5 pure call rest _ r hr
       rw[qgd] at this
       exact this
     | true =>
       dsimp only at hr ⊢
       show (match qir pure call o.op s.tm s.h with | some (.val v,h)=>_ | some (.panic v,h)=>_ | none=>_)=_
       cases ho:qir pure call o.op s.tm s.h with
       | none=>rw[ho] at hr;cases hr
       | some q =>
         rw[ho] at hr
         obtain⟨q,h'⟩:=q
         cases q with
         | val v =>
           dsimp only at hr ⊢
           have:=qi5 pure call rest _ r hr
           rw[qgd] at this
           exact this
         | panic v =>
           dsimp only at hr ⊢
           injection hr with hr
           rw[← hr]
           rfl
def qpY (pure:Nat→Bool) (call:CallT):List Step→CS→List Heap→Option (CS × List Heap)
 | [],s,hs=>some (s,hs++[s.h])
 | o :: rest,s,hs =>
   match qaf o.guard s.tm with
   | some true =>
     (match aOp pure call o.op s.tm s.h with
     | some (.val v,h')=>qpY pure call rest (s.put o.dst v h') (if qaE o.op=true then hs++[s.h] else hs)
     | _=>none)
   | some false=>qpY pure call rest (s.put o.dst (.tuple []) s.h) (if qaE o.op=true then hs++[s.h] else hs)
   | none=>none
theorem qi4 (pure:Nat→Bool) (call:CallT):∀ (l:List Step) (s:CS) (hs:List Heap) (s':CS) (hs':List Heap),qpY pure call l s hs=some (s',hs')→qcQ pure call l s.tm hs s.h=some (s'.tm,hs',s'.h)
 | [],s,hs,s',hs',hr => by
   simp only[qpY,Option.some.injEq,Prod.mk.injEq] at hr
   obtain⟨rfl,rfl⟩:=hr
   rfl
 | o :: rest,s,hs,s',hs',hr => by
   rw[qpY] at hr
   unfold qcQ
   cases hw:qaf o.guard s.tm with
   | none=>rw[hw] at hr;cases hr
   | some b =>
     rw[hw] at hr
     cases b with
     | false =>
       dsimp only at hr ⊢
       have:=qi4 pure call rest _ _ s' hs' hr
       have hp:=qgd s o.dst (.tuple []) s.h
       unfold CS.st at hp
       injection hp with hp1 hp2
       rw[hp1,hp2] at this
       exact this
     | true =>
       dsimp only at hr ⊢
       cases ho:aOp pure call o.op s.tm s.h with
       | none=>rw[ho] at hr;cases hr
       | some q =>
         rw[ho] at hr
         obtain⟨q,h'⟩:=q
         cases q with
         | val v =>
           dsimp only at hr ⊢
           have:=qi4 pure call rest _ _ s' hs' hr
           have hp:=qgd s o.dst v h'
           unfold CS.st at hp
           injection hp with hp1 hp2
           rw[hp1,hp2] at this
           exact this
         | panic v=>cases hr
def qpo:AExit→Bool
 | .normal=>true
 | _=>false
theorem qmM {e:AExit} (h:qpo e=true):e=.normal:=by cases e<;>simp[qpo] at h;rfl
def qrf (l:List Step) (tm:Tmps) (hs:List Heap) (c:Nat × Nat × Nat):Bool :=
 match l[c.1]? with
 | some ⟨some d,g,o⟩ =>
   (match qaf g tm with
   | some true=>((hs.drop c.2.1).take (c.2.2+1-c.2.1)).all fun h=>match aOp (fun _=>false) qeb o tm h with | some (.val v,h')=>eqV v (tm d) && eqH h' h | _=>false
   | _=>true)
 | _=>true
theorem qrg {l:List Step} {tm:Tmps} {hs:List Heap} {c:Nat × Nat × Nat} (h:qrf l tm hs c=true):qi8 l tm hs c:=by
 intro s d h1 h2 h3 k hp hk1 hk2 hk
 unfold qrf at h
 obtain⟨d',g,o⟩:=s
 dsimp only at h2
 subst h2
 dsimp only at h3
 rw[h1] at h
 dsimp only at h
 rw[h3] at h
 dsimp only at h
 rw[List.all_eq_true] at h
 have hm:hp∈(hs.drop c.2.1).take (c.2.2+1-c.2.1):=by
  refine List.mem_of_getElem? (i:=k-c.2.1) ?_
  rw[List.getElem?_take,if_pos (by omega),List.getElem?_drop,show c.2.1+(k-c.2.1)=k by omega]
  exact hk
 have:=h hp hm
 dsimp only
 split at this
 ·rename_i v h' he
  rw[Bool.and_eq_true] at this
  rw[he,qjg this.1,qrH this.2]
 ·cases this
def qx2 (pure:Nat→Bool) (call:CallT) (l:List Step) (checks:List (Nat × Nat × Nat)) (s:CS):Option (AExit × CS) :=
 match qpY pure call l s [] with
 | some (s',hs)=>if checks.all (qrf l s'.tm hs)=true then some (.normal,s') else none
 | none=>none
theorem qtt (pure:Nat→Bool) (call:CallT) (l:List Step) (checks:List (Nat × Nat × Nat)) (s:CS):Sim (qx2 pure call l checks s) (qge pure call l checks s.st):=by
 intro r hr
 unfold qx2 at hr
 unfold qge
 split at hr
 ·rename_i s' hs he
  have h1:=qi4 pure call l s [] s' hs he
  show (match qcQ pure call l s.tm [] s.h with | some (tm,hs,h)=>_ | none=>_)=_
  rw[h1]
  dsimp only
  split at hr
  ·rename_i hc
   rw[if_pos fun c hc'=>qrg (List.all_eq_true.1 hc c hc')]
   injection hr with hr
   rw[← hr]
   rfl
  ·cases hr
 ·cases hr
def eqR (n:Nat) (keep:List Nat) (a b:AExit × CS):Bool :=
 qpo a.1 && qpo b.1 && !(qkS keep) && decide (n≤a.2.h.length) && decide (n≤b.2.h.length) &&
  keep.all (fun t=>eqV ((cgc n keep a.2).tm t) ((cgc n keep b.2).tm t)) && eqH (cgc n keep a.2).h (cgc n keep b.2).h
theorem qyj {n:Nat} {keep:List Nat} {a b:AExit × CS} (h:eqR n keep a b=true):gcE n keep (qqV a)=gcE n keep (qqV b):=by
 unfold eqR at h
 simp only[Bool.and_eq_true,decide_eq_true_eq,Bool.not_eq_true'] at h
 obtain⟨⟨⟨⟨⟨⟨h1,h2⟩,h3⟩,h4⟩,h5⟩,h6⟩,h7⟩:=h
 obtain⟨e1,s1⟩:=a
 obtain⟨e2,s2⟩:=b
 dsimp only at *
 have e1':=qmM h1
 have e2':=qmM h2
 subst e1'
 subst e2'
 unfold gcE qqV
 dsimp only
 rw[← qkE,← qkE]
 have hh:=qrH h7
 have ht:(cgc n keep s1).tm=(cgc n keep s2).tm:=by
  funext t
  by_cases hk:t∈keep
  ·exact qjg (List.all_eq_true.1 h6 t hk)
  ·have g:∀ s:CS,n≤s.h.length→(cgc n keep s).tm t=.junk:=by
    intro s hs
    have:=qov keep (fun t=>ren (qd7 n (qf3 n keep s.st)) (s.tm t)) ((s.h.take n).map (qeo (qd7 n (qf3 n keep s.st)))++(qf3 n keep s.st).map fun id=>qeo (qd7 n (qf3 n keep s.st)) ((s.h[id]?).getD .gone))
    unfold CS.st at this
    injection this with this _
    unfold cgc
    rw[h3,if_neg (by simp),if_pos hs]
    exact (congrFun this t).trans (if_neg hk)
   rw[g s1 h4,g s2 h5]
 unfold CS.st
 rw[hh,ht]
def qy3 (keep:List Nat) (l:List Step) (needs:List (List Nat)) (s:CS):Option (AExit × CS) :=
 match ql2 l needs with
 | []=>none
 | σ :: rest =>
   match qtK (fun _=>false) qeb σ s with
   | some r=>if (rest.all fun σ'=>match qtK (fun _=>false) qeb σ' s with | some r'=>eqR s.h.length keep r' r | none=>false)=true then some (qx3 s.h.length keep r) else none
   | none=>none
theorem qtI (keep:List Nat) (l:List Step) (needs:List (List Nat)) (s:CS):Sim (qy3 keep l needs s) (qtz keep l needs s.st):=by
 intro r hr
 unfold qy3 at hr
 unfold qtz
 split at hr
 ·cases hr
 ·rename_i σ rest hl
  split at hr
  ·rename_i r0 h0
   split at hr
   ·rename_i ha
    injection hr with hr
    have key:∀ σ'∈ql2 l needs,(qb0 (fun _=>false) qeb σ' s.st).map (gcE s.h.length keep)=some (qqV r):=by
     intro σ' hσ
     rw[hl] at hσ
     rcases List.mem_cons.1 hσ with rfl | hσ
     ·rw[qfy _ _ _ _ _ h0,← hr,qob]
      rfl
     ·have:=List.all_eq_true.1 ha σ' hσ
      split at this
      ·rename_i r' he
       rw[qfy _ _ _ _ _ he,Option.map_some,qyj this,← hr,qob]
      ·cases this
    have hex:∃ r,∀ σ∈ql2 l needs,(qb0 (fun _=>false) qeb σ s.st).map (gcE s.st.h.length keep)=some r:=⟨_,key⟩
    rw[dif_pos hex]
    have h1:=Classical.choose_spec hex σ (by rw[hl];simp)
    have h2:=key σ (by rw[hl];simp)
    exact h1.symm.trans h2
   ·cases hr
  ·cases hr
def qo6 (id sz:Nat) (cs:List AVal) (s:CS):CS :=
 if qas cs=true∧cs.all leaf=true then s.mapV (frz id sz cs) ((s.h.set id .gone).map (qkb id sz cs)) else s
theorem qmr (id sz:Nat) (cs:List AVal) (s:CS):(qo6 id sz cs s).st=qim id sz cs s.st:=by
 unfold qo6 qim
 split
 ·rw[qsj]
  rfl
 ·rfl
def qlu (t:Nat) (s:CS):CS :=
 match s.tm t with
 | .ptr (some (id,0))=>(match s.h[id]? with | some (.box cs)=>qo6 id 0 (cs.map wipeCell) s | _=>s)
 | .vec id _=>(match s.h[id]? with | some (.vec cs sz)=>qo6 id sz (cs.map wipeCell) s | _=>s)
 | _=>s
theorem qp3 (t:Nat) (s:CS):(qlu t s).st=qeC t s.st:=by
 unfold qlu qeC
 show CS.st _=match s.tm t with | .ptr (some (id,0))=>(match s.h[id]? with | some (.box cs)=>qim id 0 (cs.map wipeCell) s.st | _=>s.st) | .vec id _=>(match s.h[id]? with | some (.vec cs sz)=>qim id sz (cs.map wipeCell) s.st | _=>s.st) | _=>s.st
 split
 ·split
  ·exact qmr _ _ _ _
  ·rfl
 ·split
  ·exact qmr _ _ _ _
  ·rfl
 ·rfl
def qtR (s:CS):CS:=s.mapV (viewV s.h) (s.h.map fun _=>.gone)
theorem qtS (s:CS):(qtR s).st=qnK s.st:=by
 unfold qtR qnK
 rw[qsj]
 rfl
def qrj (body:CS→Option (AExit × CS)):Nat→CS→Option (AExit × CS)
 | 0,_=>none
 | n + 1,s =>
   match body s with
   | some (.normal,s')=>qrj body n s'
   | r=>r
theorem qi3 {b1:CS→Option (AExit × CS)} {b2:St→Option (AExit × St)} (hb:∀ s,Sim (b1 s) (b2 s.st)):∀ n s,Sim (qrj b1 n s) (qde b2 n s.st)
 | 0,s=>fun r hr=>by cases hr
 | n + 1,s => fun r hr => by
   rw[qrj] at hr
   rw[qde]
   cases hx:b1 s with
   | none=>rw[hx] at hr;cases hr
   | some x =>
     rw[hb s x hx]
     rw[hx] at hr
     obtain⟨e,s'⟩:=x
     cases e with
     | normal=>exact qi3 hb n s' r hr
     | _=>injection hr with hr;rw[← hr];rfl
def qgJ (id:Nat) (r:Option (AExit × CS)):Option (AExit × CS) :=
 match r with
 | some (.exit id',s')=>if id'=id then some (.normal,s') else some (.exit id',s')
 | r=>r
theorem qhq {id:Nat} {x:Option (AExit × CS)} {y:Option (AExit × St)} (h:Sim x y):Sim (qgJ id x) (qdc id y):=by
 intro r hr
 cases hx:x with
 | none=>rw[hx] at hr;cases hr
 | some q =>
   rw[h q hx]
   rw[hx] at hr
   obtain⟨e,s'⟩:=q
   cases e with
   | exit id' =>
     unfold qgJ at hr
     unfold qdc qqV
     dsimp only at hr ⊢
     split at hr
     ·rename_i hid
      rw[if_pos hid]
      injection hr with hr
      rw[← hr]
     ·rename_i hid
      rw[if_neg hid]
      injection hr with hr
      rw[← hr]
   | _=>injection hr with hr;rw[← hr];rfl
def qvX (run:CS→Option (AExit × CS)) (r:Option (AExit × CS)):Option (AExit × CS) :=
 match r with
 | some (.normal,s2)=>run s2
 | r=>r
theorem qmq {r1:CS→Option (AExit × CS)} {r2:St→Option (AExit × St)} (hr:∀ s,Sim (r1 s) (r2 s.st)) {x:Option (AExit × CS)} {y:Option (AExit × St)} (h:Sim x y):Sim (qvX r1 x) (qjZ r2 y):=by
 intro r hq
 cases hx:x with
 | none=>rw[hx] at hq;cases hq
 | some q =>
   rw[h q hx]
   rw[hx] at hq
   obtain⟨e,s'⟩:=q
   cases e with
   | normal=>exact hr s' r hq
   | _=>injection hq with hq;rw[← hq];rfl
def qo3 (ops:List Step→CS→Option (AExit × CS)) (n:Nat) (k:RangeK) (runB:CS→Option (AExit × CS)) (e:AVal × AVal) (s:CS):Option (AExit × CS) :=
 if qpp n k s.st=true then
  match ops k.r1 (s.put (some k.dn) (.tuple [.bool true,e.1,e.2]) s.h) with
  | some (.normal,s1) =>
    if qpp n k s1.st=true then
     (match opd s1.tm k.c with
     | .bool true=>qgJ k.id2 (qvX runB (ops k.r2 (s1.put k.de (.tuple [e.1,e.2]) s1.h)))
     | _=>none)
    else none
  | _=>none
 else none
theorem qp1 {o1:List Step→CS→Option (AExit × CS)} {o2:List Step→St→Option (AExit × St)} (ho:∀ l s,Sim (o1 l s) (o2 l s.st)) {b1:CS→Option (AExit × CS)} {b2:St→Option (AExit × St)} (hb:∀ s,Sim (b1 s) (b2 s.st)) (n:Nat) (k:RangeK) (e:AVal × AVal) (s:CS) :
  Sim (qo3 o1 n k b1 e s) (qa9 o2 n k b2 e s.st):=by
 intro r hr
 unfold qo3 at hr
 unfold qa9
 split at hr
 case isFalse=>cases hr
 rename_i hit
 rw[if_pos hit]
 have hp:=qgd s (some k.dn) (.tuple [.bool true,e.1,e.2]) s.h
 split at hr
 case h_2=>cases hr
 rename_i s1 h1
 have g1:=ho _ _ _ h1
 rw[hp] at g1
 show (match o2 k.r1 ⟨upd s.tm (some k.dn) (.tuple [.bool true,e.1,e.2]),s.h⟩ with | some (.normal,s1)=>_ | _=>none)=_
 rw[g1]
 dsimp only[qqV]
 split at hr
 case isFalse=>cases hr
 rename_i hit2
 rw[if_pos hit2]
 split at hr
 case h_2=>cases hr
 rename_i hc
 show (match opd s1.tm k.c with | .bool true=>_ | _=>none)=_
 rw[hc]
 dsimp only
 have hp2:=qgd s1 k.de (.tuple [e.1,e.2]) s1.h
 have g2:=ho k.r2 (s1.put k.de (.tuple [e.1,e.2]) s1.h)
 rw[hp2] at g2
 exact qhq (qmq hb g2) r hr
def qy2 (ops:List Step→CS→Option (AExit × CS)) (n:Nat) (k:RangeK) (s:CS):Option (AExit × CS) :=
 if qpp n k s.st=true then
  match ops k.r1 (s.put (some k.dn) (.tuple [.bool false]) s.h) with
  | some (.normal,s1)=>(match opd s1.tm k.c with | .bool false=>some (.normal,s1) | _=>none)
  | _=>none
 else none
theorem qtH {o1:List Step→CS→Option (AExit × CS)} {o2:List Step→St→Option (AExit × St)} (ho:∀ l s,Sim (o1 l s) (o2 l s.st)) (n:Nat) (k:RangeK) (s:CS):Sim (qy2 o1 n k s) (qbB o2 n k s.st):=by
 intro r hr
 unfold qy2 at hr
 unfold qbB
 split at hr
 case isFalse=>cases hr
 rename_i hit
 rw[if_pos hit]
 have hp:=qgd s (some k.dn) (.tuple [.bool false]) s.h
 split at hr
 case h_2=>cases hr
 rename_i s1 h1
 have g1:=ho _ _ _ h1
 rw[hp] at g1
 show (match o2 k.r1 ⟨upd s.tm (some k.dn) (.tuple [.bool false]),s.h⟩ with | some (.normal,s1)=>_ | _=>none)=_
 rw[g1]
 dsimp only[qqV]
 split at hr
 case h_2=>cases hr
 rename_i hc
 show (match opd s1.tm k.c with | .bool false=>_ | _=>none)=_
 rw[hc]
 injection hr with hr
 rw[← hr]
def qvW (ops:List Step→CS→Option (AExit × CS)) (n:Nat) (k:RangeK) (runB:CS→Option (AExit × CS)):List (AVal × AVal)→CS→Option (AExit × CS)
 | [],s=>qy2 ops n k (cgc (n+1) k.kr s)
 | e :: es,s =>
   match qo3 ops n k runB e (cgc (n+1) k.kr s) with
   | some (.normal,s')=>qvW ops n k runB es s'
   | r=>qgJ k.id r
theorem qo4 {o1:List Step→CS→Option (AExit × CS)} {o2:List Step→St→Option (AExit × St)} (ho:∀ l s,Sim (o1 l s) (o2 l s.st)) {b1:CS→Option (AExit × CS)} {b2:St→Option (AExit × St)} (hb:∀ s,Sim (b1 s) (b2 s.st)) (n:Nat) (k:RangeK) :
  ∀ (es:List (AVal × AVal)) (s:CS),Sim (qvW o1 n k b1 es s) (qba o2 n k b2 es s.st)
 | [],s => fun r hr => by
   rw[qvW] at hr
   rw[qba,← qkE]
   exact qtH ho n k _ r hr
 | e :: es,s => fun r hr => by
   rw[qvW] at hr
   rw[qba,← qkE]
   cases hx:qo3 o1 n k b1 e (cgc (n+1) k.kr s) with
   | none=>rw[hx] at hr;cases hr
   | some x =>
     have g:=qp1 ho hb n k e _ x hx
     rw[g]
     rw[hx] at hr
     obtain⟨q,s'⟩:=x
     cases q with
     | normal=>exact qo4 ho hb n k es s' r hr
     | exit j=>exact qhq (x:=some (.exit j,s')) (y:=some (.exit j,s'.st)) (fun r hr=>by injection hr with hr;rw[← hr];rfl) r hr
     | ret=>injection hr with hr;rw[← hr];rfl
     | panic v=>injection hr with hr;rw[← hr];rfl
def qn9 (ops:List Step→CS→Option (AExit × CS)) (k:RangeK) (runB runC:CS→Option (AExit × CS)) (s:CS):Option (AExit × CS) :=
 match ops k.pre s with
 | some (.normal,s1) =>
   (match qcm k.str (opd s1.tm k.m) s1.h with
   | some es=>if k.str=true∨es.length≤1 then
    (match qvW ops s1.h.length k runB es (s1.put (some k.it) (.ptr (some (s1.h.length,0))) (qkk (opd s1.tm k.m) s1.h)) with
    | some (.normal,s2)=>runC ⟨s2.l,s2.d,qcc (opd s1.tm k.m) s1.h s2.h⟩
    | some (e,s2)=>some (e,⟨s2.l,s2.d,qcc (opd s1.tm k.m) s1.h s2.h⟩)
    | none=>none).map (qx3 s.h.length k.keep) else none
   | none=>none)
 | _=>none
theorem qp0 {o1:List Step→CS→Option (AExit × CS)} {o2:List Step→St→Option (AExit × St)} (ho:∀ l s,Sim (o1 l s) (o2 l s.st)) {b1 c1:CS→Option (AExit × CS)} {b2 c2:St→Option (AExit × St)} (hb:∀ s,Sim (b1 s) (b2 s.st)) (hc:∀ s,Sim (c1 s) (c2 s.st)) (k:RangeK) (s:CS) :
  Sim (qn9 o1 k b1 c1 s) (qjO o2 k b2 c2 s.st):=by
 intro r hr
 unfold qn9 at hr
 rw[qeh]
 split at hr
 case h_2=>cases hr
 rename_i s1 he
 have g1:=ho _ _ _ he
 rw[g1]
 dsimp only[qqV]
 split at hr
 case h_2=>cases hr
 rename_i es hes
 show (match qcm k.str (opd s1.tm k.m) s1.h with | some es=>_ | none=>none)=_
 rw[hes]
 dsimp only
 split at hr
 case isFalse=>cases hr
 rename_i hcc
 refine (qcq (qbG _ _)).2 fun es' hoo=>?_
 have hes':es'=es:=by
  unfold qcb at hoo
  rcases hcc with hcc | hcc
  ·rw[if_pos hcc] at hoo
   exact hoo
  ·split at hoo
   ·exact hoo
   ·match es,hcc,hoo with
    | [],_,hoo=>exact List.perm_nil.1 hoo
    | [x],_,hoo=>exact List.perm_singleton.1 hoo
 rw[hes']
 unfold qci
 refine Sim.map_gc (x:=match qvW o1 s1.h.length k b1 es (s1.put (some k.it) (.ptr (some (s1.h.length,0))) (qkk (opd s1.tm k.m) s1.h)) with
    | some (.normal,s2)=>c1 ⟨s2.l,s2.d,qcc (opd s1.tm k.m) s1.h s2.h⟩
    | some (e,s2)=>some (e,⟨s2.l,s2.d,qcc (opd s1.tm k.m) s1.h s2.h⟩)
    | none=>none) (fun q hq=>?_) s.h.length k.keep r hr
 have hp:=qgd s1 (some k.it) (.ptr (some (s1.h.length,0))) (qkk (opd s1.tm k.m) s1.h)
 cases hx:qvW o1 s1.h.length k b1 es (s1.put (some k.it) (.ptr (some (s1.h.length,0))) (qkk (opd s1.tm k.m) s1.h)) with
 | none=>rw[hx] at hq;cases hq
 | some x =>
   have g:=qo4 ho hb s1.h.length k es _ x hx
   rw[hp] at g
   show (match qba o2 s1.h.length k b2 es ⟨upd s1.tm (some k.it) (.ptr (some (s1.h.length,0))),qkk (opd s1.tm k.m) s1.h⟩ with
    | some (.normal,s2)=>c2 ⟨s2.tm,qcc (opd s1.tm k.m) s1.h s2.h⟩
    | some (e,s2)=>some (e,⟨s2.tm,qcc (opd s1.tm k.m) s1.h s2.h⟩)
    | none=>none)=_
   rw[g]
   rw[hx] at hq
   obtain⟨e,s2⟩:=x
   cases e with
   | normal=>exact hc _ q hq
   | _=>injection hq with hq;rw[← hq];rfl
def qgk (pure:Nat→Bool) (call:CallT) (n:Nat):ACode→CS→Option (AExit × CS)
 | .skip,s=>some (.normal,s)
 | .ops l,s=>qtK pure call l s
 | .draw l cs,s=>qx2 pure call l cs s
 | .kops l,s=>qpZ pure call l s
 | .view c,s=>qgk pure call n c (qtR s)
 | .mdraw k l ns,s=>qy3 k l ns s
 | .seq a b,s=>qvX (qgk pure call n b) (qgk pure call n a s)
 | .cond c a b,s=>(match opd s.tm c with | .bool t=>if t then qgk pure call n a s else qgk pure call n b s | _=>none)
 | .block id c,s=>qgJ id (qgk pure call n c s)
 | .loop c,s=>qrj (qgk pure call n c) n s
 | .gloop k c,s=>qrj (fun s1=>qgk pure call n c (cgc s.h.length k s1)) n s
 | .frame k c,s=>(qgk pure call n c s).map (qx3 s.h.length k)
 | .freeze t c,s=>qgk pure call n c (qlu t s)
 | .range k b c,s=>qn9 (qtK pure call) k (qgk pure call n b) (qgk pure call n c) s
 | .exit id,s=>some (.exit id,s)
 | .ret,s=>some (.ret,s)
 | .stuck,_=>none
theorem ql4 (e:AExit) (s:CS):Sim (some (e,s)) (some (e,s.st)):=fun r hr=>by
 injection hr with hr
 rw[← hr]
 rfl
theorem qrh (pure:Nat→Bool) (call:CallT) (n:Nat):∀ (c:ACode) (s:CS),Sim (qgk pure call n c s) (qaG pure call n c s.st):=by
 intro c
 induction c with
 | skip=>intro s;exact ql4 _ _
 | ops l=>intro s;exact qfy pure call l s
 | draw l cs=>intro s;exact qtt pure call l cs s
 | kops l=>intro s;exact qi5 pure call l s
 | mdraw k l ns=>intro s;exact qtI k l ns s
 | seq a b iha ihb=>intro s;exact qmq ihb (iha s)
 | cond c a b iha ihb =>
   intro s r hr
   rw[qgk] at hr
   rw[qaG]
   show (match opd s.tm c with | .bool t=>_ | _=>none)=_
   split at hr
   ·rename_i t ht
    cases t with
    | true=>exact iha s r hr
    | false=>exact ihb s r hr
   ·cases hr
 | block id c ih=>intro s;exact qhq (ih s)
 | loop c ih=>intro s;exact qi3 ih n s
 | gloop k c ih =>
   intro s
   refine qi3 (fun s1=>?_) n s
   have:=ih (cgc s.h.length k s1)
   rw[qkE] at this
   exact this
 | freeze t c ih =>
   intro s
   have:=ih (qlu t s)
   rw[qp3] at this
   exact this
 | view c ih =>
   intro s
   have:=ih (qtR s)
   rw[qtS] at this
   exact this
 | range k b c ihb ihc=>intro s;exact qp0 (fun l s=>qfy pure call l s) ihb ihc k s
 | frame k c ih=>intro s;exact (ih s).map_gc _ _
 | exit id=>intro s;exact ql4 _ _
 | ret=>intro s;exact ql4 _ _
 | stuck=>intro s r hr;cases hr
def qvr (rs:List ARVar) (r:Option (AExit × CS)):Option (ARes × Heap) :=
 match r with
 | some (.normal,s) | some (.ret,s)=>(match qac s.tm s.h rs with | some vs=>some (.val (qai vs),s.h) | none=>none)
 | some (.panic v,s)=>some (.panic v,s.h)
 | _=>none
theorem qri {rs:List ARVar} {x:Option (AExit × CS)} {y:Option (AExit × St)} (h:Sim x y):Le (qvr rs x) (qan rs y):=by
 intro r hr
 cases hx:x with
 | none=>rw[hx] at hr;cases hr
 | some q =>
   rw[h q hx]
   rw[hx] at hr
   obtain⟨e,s⟩:=q
   cases e<;>exact hr
def qok (args:List AVal):Nat→List (Nat × AVal)
 | i => match args with
   | []=>[]
   | v::vs=>(i,v)::qok vs (i+1)
theorem quu (h:Heap) (args:List AVal):(CS.mk (qok args 0) (.tuple []) h).st=⟨qdF args,h⟩:=by
 have key:∀ (args:List AVal) (k:Nat),(CS.mk (qok args k) (.tuple []) h).tm=fun i=>if k≤i then (args[i-k]?).getD (.tuple []) else .tuple []:=by
  intro args
  induction args with
  | nil=>intro k;funext i;simp[qok,CS.tm]
  | cons v vs ih =>
    intro k
    rw[qok,qoI,ih]
    funext i
    by_cases hi:i=k
    ·subst hi
     simp
    ·rw[if_neg hi]
     dsimp only
     by_cases hk:k≤i
     ·rw[if_pos hk,if_pos (by omega)]
      have:i-k=i-(k+1)+1:=by omega
      rw[this,List.getElem?_cons_succ]
     ·rw[if_neg hk,if_neg (by omega)]
 unfold CS.st
 rw[key]
 congr 1
def qqT (T:Nat→Option AFn) (P:Nat→List AVal→Heap→Option (ARes × Heap)):Nat→CallT
 | 0,_,_,_=>none
 | n + 1,f,args,h =>
   match T f with
   | some fn=>qvr fn.results (qgk (fun _=>true) (qqT T P n) n fn.body ⟨qok args 0,.tuple [],h⟩)
   | none=>P f args h
theorem qvn {L:Lib} (hp:∀ f,L.pure f=true) (hs:∀ f,L.fns f≠none→L.summ f=none) (T:Nat→Option AFn) (P:Nat→List AVal→Heap→Option (ARes × Heap)) (hT:∀ f fn,T f=some fn→L.fns f=some fn)
  (hP:∀ f a h r,P f a h=some r→call L f a h=some r):∀ n f a h,Le (qqT T P n f a h) (call L f a h):=by
 have hpp:(fun _=>true)=L.pure:=by funext f;exact (hp f).symm
 intro n
 induction n with
 | zero=>intro f a h r hr;cases hr
 | succ n ih =>
   intro f a h r hr
   rw[qqT] at hr
   split at hr
   ·rename_i fn hf
    refine qaA (hs f (by rw[hT f fn hf];simp)) (hT f fn hf) ?_
    rw[hpp] at hr
    have g:=qrh L.pure (qqT T P n) n fn.body ⟨qok a 0,.tuple [],h⟩
    rw[quu] at g
    exact qri (g.le (qmc ih n fn.body _)) r hr
   ·exact hP f a h r hr
def qux (v:AVal):Option (ARes × Heap)→Bool
 | some (.val u,_)=>eqV u v
 | _=>false
theorem quy {v:AVal} {r:Option (ARes × Heap)} (h:qux v r=true):∃ H,r=some (.val v,H):=by
 unfold qux at h
 split at h
 ·rename_i u H
  exact⟨H,by rw[qjg h]⟩
 ·cases h
end Go.Abs
