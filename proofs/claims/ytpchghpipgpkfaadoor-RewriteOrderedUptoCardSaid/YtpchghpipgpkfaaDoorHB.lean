/-
  PARTS OF A PROOF, joined: an abstract machine for quiet code, its evaluation, and what the seat's functions answer on it. Conditions: none.
-/
import Derived.Test.YtpchghpipgpkfaaDoorHA
import Derived.Test.YtpchghpipgpkfaaDoorC
set_option linter.unusedVariables false
set_option linter.unusedSimpArgs false
set_option maxRecDepth 100000
set_option maxHeartbeats 4000000
namespace Go.Abs
theorem hga {H l:Heap} {i:Nat} (h:i<H.length):(H++l)[i]? = H[i]? := List.getElem?_append_left h
theorem hgl {A l:Heap} {o:AObj} {n:Nat} (h:n=A.length):(A++o::l)[n]? = some o:=by subst h;simp
theorem qrF {A l:Heap} {o o2:AObj} {n:Nat} (h:n=A.length+1):(A++o::o2::l)[n]? = some o2:=by subst h;simp
theorem qzp {A l:Heap} {o o2 o3:AObj} {n:Nat} (h:n=A.length+2):(A++o::o2::o3::l)[n]? = some o3:=by subst h;simp
theorem hsa {A l:Heap} {i:Nat} {b:AObj} (h:i<A.length):(A++l).set i b=A.set i b++l:=List.set_append_left _ _ h
theorem hsl {A l:Heap} {o b:AObj} {n:Nat} (h:n=A.length):(A++o::l).set n b=A++b::l:=by subst h;simp
theorem qB7 {A l:Heap} {o o2 b:AObj} {n:Nat} (h:n=A.length+1):(A++o::o2::l).set n b=A++o::b::l:=by subst h;simp
theorem hgs {A:Heap} {i:Nat} {a:AObj} (h:i<A.length):(A.set i a)[i]? = some a:=by simp[h]
theorem hgn {A:Heap} {i j:Nat} {a:AObj} (h:i≠j):(A.set i a)[j]? = A[j]? := List.getElem?_set_ne h
theorem hlt {H:Heap} {i:Nat} {o:AObj} (h:H[i]? = some o):i<H.length:=(List.getElem?_eq_some_iff.1 h).1
theorem qCt {H:Heap} {i:Nat} {o:AObj} (h:H[i]? = some o):H.set i o=H:=by
 obtain⟨hl,he⟩:=List.getElem?_eq_some_iff.1 h
 rw[← he]
 exact List.set_getElem_self hl
theorem qbQ {pure:Nat→Bool} {call:CallT} {b:Nat} {keep fk:List Nat} {id:Nat} {body:ACode} (P:Nat→St→Prop) (n:Nat) (Q:St→Prop)
  (hstep:∀ i s,i<n→P i s→∃ s',qbc pure call b keep fk body s=some (.normal,s')∧P (i+1) s') (hend:∀ s,P n s→∃ T,qbc pure call b keep fk body s=some (.exit id,T)∧Q T) {s0:St} (h0:P 0 s0) :
  ∃ T,qba pure call b keep fk id body s0=some (.normal,T)∧Q T:=by
 have key:∀ k i s,i+k=n→P i s→∃ T,qba pure call b keep fk id body s=some (.normal,T)∧Q T:=by
  intro k
  induction k with
  | zero =>
    intro i s hi hp
    rw[Nat.add_zero] at hi
    subst hi
    obtain⟨T,h1,h2⟩:=hend s hp
    exact⟨T,qej h1,h2⟩
  | succ k ih =>
    intro i s hi hp
    obtain⟨s',h1,h2⟩:=hstep i s (by omega) hp
    rw[qfa h1]
    exact ih (i+1) s' (by omega) h2
 exact key n 0 s0 (by omega) h0
def qkL (l:List Int) (n:Nat):AVal:=if l=[] then .list [] none else .vec n l.length
def qhj (l:List Int):Heap:=if l=[] then [] else [.vec (l.map qav) 1]
structure MPrims (L:Lib):Prop where
 clone:∀ (l:List Int) (h:Heap),l.length<2 ^ 30→call L 188 [.list (l.map qav) none] h=some (.val (qkL l h.length),h++qhj l)
theorem qsG (n:Nat):qkL [] n=.list [] none:=rfl
theorem qsF:qhj []=[]:=rfl
theorem qkM {l:List Int} (h:l≠[]) (n:Nat):qkL l n=.vec n l.length:=if_neg h
theorem qkJ {l:List Int} (h:l≠[]):qhj l=[.vec (l.map qav) 1]:=if_neg h
section
variable {L:Lib}
def nb (x:CExpr) (bv kv av:AVal):AObj:=.box [.int .i64 x.op,.int .i64 x.n,bv,kv,av]
theorem qxK {b:Nat} (xs:AVal) (nx:Int) (g0:Nat) (i:Nat) (x:CExpr) (hk:x.kids.length<2 ^ 30) (cs:List AVal) (N:Nat) (pt:Int→Nat) (H:Heap) (px pn:Nat) (bv:AVal)
  (hg:H[g0]? = some (.vec cs 1)) (hn:H[pn]? = some (nb x bv (.list [] (some none)) (.list [] (some none)))) (hbv:leaf bv=true) (hpn:pn≠g0) (hlook:∀ k∈x.kids,0≤k∧k<N∧cs[k.toNat]? = some (qar (pt k))) :
  qba L.pure (call L) b [1000000,0,3,4,5,6,14,15,16,31,32,33] [1000000,0,3,4,5,6,14,15,16] 2 qfA
   ⟨kt [0,3,4,5,6,14,15,16,31,32,33] [xs,.vec g0 N,.int .i64 i,qar px,qar pn,xs,.int .i64 nx,.int .i64 i,.list (x.kids.map qav) none,.int .i64 x.kids.length,.int .i64 0],H⟩ =
   some (.normal,⟨kt [0,3,4,5,6,14,15,16] [xs,.vec g0 N,.int .i64 i,qar px,qar pn,xs,.int .i64 nx,.int .i64 i],
    H.set pn (nb x bv (.list ((x.kids.map pt).map qar) (qf8 H.length x.kids.length)) (.list [] (some none)))++qdd 1 x.kids.length⟩):=by
 have hl0:=hlt hg
 have hln:=hlt hn
 have hne:(pn=g0)=False:=eq_false hpn
 have key:=qhN (pure:=L.pure) (call:=call L) (b:=b) (keep:=[1000000,0,3,4,5,6,14,15,16,31,32,33]) (fk:=[1000000,0,3,4,5,6,14,15,16]) (id:=2) (body:=qfA)
  (fun j=>⟨kt [0,3,4,5,6,14,15,16,31,32,33] [xs,.vec g0 N,.int .i64 i,qar px,qar pn,xs,.int .i64 nx,.int .i64 i,.list (x.kids.map qav) none,.int .i64 x.kids.length,.int .i64 j],
   H.set pn (nb x bv (.list (((x.kids.take j).map pt).map qar) (qf8 H.length j)) (.list [] (some none)))++qdd 1 j⟩) x.kids.length
  (T:=⟨kt [0,3,4,5,6,14,15,16] [xs,.vec g0 N,.int .i64 i,qar px,qar pn,xs,.int .i64 nx,.int .i64 i],
    H.set pn (nb x bv (.list ((x.kids.map pt).map qar) (qf8 H.length x.kids.length)) (.list [] (some none)))++qdd 1 x.kids.length⟩) ?_ ?_
 ·rw[← key]
  congr 2
  rw[List.take_zero,qel,qeD,List.append_nil]
  exact (qCt hn).symm
 ·intro j hj
  obtain⟨h1,h2,h3⟩:=qaN qav x.kids hk j hj
  obtain⟨k0,k1,k2⟩:=hlook x.kids[j] (List.getElem_mem hj)
  have htake:((x.kids.take (j+1)).map pt).map qar=((x.kids.take j).map pt).map qar++[qar (pt x.kids[j])]:=by
   rw[List.take_succ_eq_append_getElem hj,List.map_append,List.map_append];rfl
  have hlen:(((x.kids.take j).map pt).map qar).length=j:=by simp;omega
  have hjj:j+1≤1073741824:=by omega
  have hall:((((x.kids.take j).map pt).map qar).all fun v=>decide ((acells v).length=1))=true:=by
   rw[List.all_eq_true]
   intro v hv
   obtain⟨q,_,rfl⟩:=List.mem_map.1 hv
   rfl
  rw[htake]
  generalize x.kids[j]=k at *
  generalize ((x.kids.take j).map pt).map qar=ks at *
  unfold nb qar at *
  rcases Nat.eq_zero_or_pos j with hz | hz
  ·have:ks=[]:=List.length_eq_zero_iff.1 (by omega)
   subst this
   have o1:qf8 H.length j=some none:=by rw[hz];rfl
   have o2:qdd 1 j=[]:=by rw[hz];rfl
   have o3:j+1=1:=by omega
   have o4:qf8 H.length 1=some (some H.length):=rfl
   unfold qfA
   simp -implicitDefEqProofs only[ev_,aOp,opd,qaa,qay,qaB,qaA,qad,qab,qaf,qag,qaT,qai,leaf,qat,qaz,qbO,↓reduceIte,reduceCtorEq,Nat.reduceEqDiff,Nat.reduceAdd,Nat.reduceLeDiff,ne_eq,qjb,qhR,qa1,Nat.mul_one,List.length_set,h1,h2,h3,k0,k1,k2,o1,o2,o3,o4,hg,hgs,hgn,hln,hl0,hga,hsa,hgl,hsl,List.set_set,hpn,hne,hbv]
  ·have o1:=qff (b:=H.length) hz
   have o2:=qeo (sz:=1) hz
   unfold qfA
   simp -implicitDefEqProofs only[ev_,aOp,opd,qaa,qay,qaB,qaA,qad,qab,qaf,qag,qaT,qai,leaf,qat,qaz,qbO,↓reduceIte,reduceCtorEq,Nat.reduceEqDiff,Nat.reduceAdd,Nat.reduceLeDiff,ne_eq,qjb,qhR,qa1,Nat.mul_one,List.length_set,h1,h2,h3,k0,k1,k2,hall,hlen,hjj,o1,o2,hg,hgs,hgn,hln,hl0,hga,hsa,hgl,hsl,List.set_set,hpn,hne,hbv]
 ·have h0:=qaQ x.kids.length
  rw[List.take_length]
  unfold qfA
  simp -implicitDefEqProofs only[ev_,aOp,opd,qaa,qaB,qaA,qab,gcE,↓reduceIte,reduceCtorEq,Nat.reduceEqDiff,h0]
end
theorem HAlts.len {H:Heap}:∀ {l:List CAlt} {v:List AVal} {f:List Nat},HAlts H l v f→v.length=l.length
 | [],v,f,h=>by obtain⟨rfl,_⟩:=h;rfl
 | a::as,v,f,⟨bv,fb,avs',fa',h1,h2,h3,h4⟩=>by rw[h1,List.length_cons,List.length_cons,h4.len]
theorem HAlts.all {H:Heap}:∀ {l:List CAlt} {v:List AVal} {f:List Nat},HAlts H l v f→(v.all fun x=>decide ((acells x).length=2))=true
 | [],v,f,h=>by obtain⟨rfl,_⟩:=h;rfl
 | a::as,v,f,⟨bv,fb,avs',fa',h1,h2,h3,h4⟩=>by rw[h1,List.all_cons,h4.all];rfl
theorem HAlts.lt {H:Heap}:∀ {l:List CAlt} {v:List AVal} {f:List Nat},HAlts H l v f→∀ i∈f,i<H.length
 | [],v,f,h=>by obtain⟨_,rfl⟩:=h;intro i hi;cases hi
 | a :: as,v,f,⟨bv,fb,avs',fa',h1,h2,h3,h4⟩ => by
   intro i hi
   rw[h2] at hi
   rcases List.mem_append.1 hi with h | h
   ·exact h3.lt i h
   ·exact h4.lt i h
theorem HAlts.snoc {H:Heap} {a:CAlt} {bv:AVal} {fb:List Nat} (hb:HInts H a.binds bv fb):∀ {l:List CAlt} {v:List AVal} {f:List Nat},HAlts H l v f→HAlts H (l++[a]) (v++[.agg [.int .i64 a.tag,bv]]) (f++fb)
 | [],v,f,h => by
   obtain⟨rfl,rfl⟩:=h
   exact⟨bv,fb,[],[],rfl,by simp,hb,rfl,rfl⟩
 | a'::as,v,f,⟨bv',fb',avs',fa',h1,h2,h3,h4⟩=>⟨bv',fb',_,_,by rw[h1];rfl,by rw[h2,List.append_assoc],h3,h4.snoc hb⟩
theorem qfw (l:List Int):((∀ n,qkL l n=.list [] none)∧qhj l=[])∨((∀ n,qkL l n=.vec n l.length)∧qhj l=[.vec (l.map qav) 1]):=by
 by_cases h:l=[]
 ·exact .inl ⟨fun n=>if_pos h |>.trans rfl,if_pos h⟩
 ·exact .inr ⟨qkM h,qkJ h⟩
theorem qh6 {l:List Int} (h:qhj l=[]):l=[]:=by
 unfold qhj at h
 split at h
 ·assumption
 ·cases h
theorem qgN {l:List Int} {o:AObj} (h:qhj l=[o]):l≠[]:=by
 intro e
 rw[e] at h
 cases h
structure A1 (x:CExpr) (bv kv:AVal) (pn:Nat) (H:Heap) (j:Nat) (H':Heap) (avs:List AVal) (oa:Option (Option Nat)) (fa:List Nat):Prop where
 node:H'[pn]? = some (nb x bv kv (.list avs oa))
 alts:HAlts H' (x.alts.take j) avs fa
 low:∀ i∈fa,H.length≤i∧oa≠some (some i)
 nodup:fa.Nodup
 own:(j=0∧oa=some none)∨(0<j∧∃ t,oa=some (some t)∧H'[t]? = some (.tail j 2)∧H.length≤t)
 len:H.length≤H'.length
 keep:∀ i,i<H.length→i≠pn→H'[i]? = H[i]?
theorem A1.step {x:CExpr} {bv kv:AVal} {pn:Nat} {H:Heap} {j:Nat} {H':Heap} {avs:List AVal} {oa:Option (Option Nat)} {fa:List Nat} (hA:A1 x bv kv pn H j H' avs oa fa) (hpn:pn<H.length) {a:CAlt} (htake:x.alts.take (j+1)=x.alts.take j++[a])
  {H2:Heap} {bv':AVal} {fb:List Nat} {oa':Option (Option Nat)} (hlen:H'.length≤H2.length) (hkeep:∀ i,i<H'.length→i≠pn→oa≠some (some i)→H2[i]? = H'[i]?)
  (hnode:H2[pn]? = some (nb x bv kv (.list (avs++[.agg [.int .i64 a.tag,bv']]) oa'))) (hb:HInts H2 a.binds bv' fb) (hfb:∀ i∈fb,H'.length≤i∧oa'≠some (some i)) (hfn:fb.Nodup)
  (t:Nat) (hoa:oa'=some (some t)) (ht:H2[t]? = some (.tail (j+1) 2)) (htl:H.length≤t) (htw:H'.length≤t∨oa=some (some t)) :
  A1 x bv kv pn H (j+1) H2 (avs++[.agg [.int .i64 a.tag,bv']]) oa' (fa++fb):=by
 have hlt':=hA.alts.lt
 have hl:=hA.len
 refine⟨hnode,?_,?_,?_,.inr ⟨by omega,t,hoa,ht,htl⟩,by omega,?_⟩
 ·rw[htake]
  refine (hA.alts.frame fun q hq=>hkeep q (hlt' q hq) (fun e=>?_) (hA.low q hq).2).snoc hb
  have:=(hA.low q hq).1
  omega
 ·intro i hi
  rcases List.mem_append.1 hi with h | h
  ·refine⟨(hA.low i h).1,?_⟩
   rw[hoa]
   rintro e
   have e1:=Option.some.inj (Option.some.inj e)
   subst e1
   have:=hlt' _ h
   rcases htw with h3 | h3
   ·omega
   ·exact (hA.low _ h).2 h3
  ·exact⟨by have:=(hfb i h).1;omega,(hfb i h).2⟩
 ·refine List.nodup_append.2 ⟨hA.nodup,hfn,fun i hi k hk e=>?_⟩
  subst e
  have h1:=hlt' i hi
  have h2:=(hfb i hk).1
  omega
 ·intro i hi hp
  rw[hkeep i (Nat.lt_of_lt_of_le hi hl) hp,hA.keep i hi hp]
  rintro e
  rcases hA.own with ⟨_,ho⟩ | ⟨_,t',ho,_,h4⟩
  ·rw[ho] at e
   cases e
  ·rw[ho] at e
   have:=Option.some.inj (Option.some.inj e)
   omega
section
variable {L:Lib}
theorem qxL (hP:MPrims L) {b:Nat} (xs:AVal) (nx:Int) (g0:Nat) (i:Nat) (x:CExpr) (ha:x.alts.length<2 ^ 30) (hab:∀ a∈x.alts,a.binds.length<2 ^ 30) (N:Nat) (H:Heap) (pn:Nat) (bv kv:AVal)
  (hn:H[pn]? = some (nb x bv kv (.list [] (some none)))) (hbv:leaf bv=true) (hkv:leaf kv=true) :
  ∃ T,qba L.pure (call L) b [1000000,0,3,4,6,14,15,16,52,53,54] [1000000,0,3,4,6,14,15,16] 4 qfB
   ⟨kt [0,3,4,6,14,15,16,52,53,54] [xs,.vec g0 N,.int .i64 i,qar pn,xs,.int .i64 nx,.int .i64 i,.list (x.alts.map qas) none,.int .i64 x.alts.length,.int .i64 0],H⟩=some (.normal,T) ∧
   ∃ H' avs oa fa,T=⟨kt [0,3,4,6,14,15,16] [xs,.vec g0 N,.int .i64 i,qar pn,xs,.int .i64 nx,.int .i64 i],H'⟩∧A1 x bv kv pn H x.alts.length H' avs oa fa:=by
 have hln:=hlt hn
 refine qbQ (pure:=L.pure) (call:=call L) (b:=b) (id:=4) (body:=qfB)
  (fun j s=>∃ H' avs oa fa,s=⟨kt [0,3,4,6,14,15,16,52,53,54] [xs,.vec g0 N,.int .i64 i,qar pn,xs,.int .i64 nx,.int .i64 i,.list (x.alts.map qas) none,.int .i64 x.alts.length,.int .i64 j],H'⟩∧A1 x bv kv pn H j H' avs oa fa) x.alts.length _ ?_ ?_ ?_
 ·intro j s hj hs
  obtain⟨H',avs,oa,fa,rfl,hA⟩:=hs
  obtain⟨h1,h2,h3⟩:=qaN qas x.alts ha j hj
  have hb:=hab x.alts[j] (List.getElem_mem hj)
  have htake:x.alts.take (j+1)=x.alts.take j++[x.alts[j]]:=List.take_succ_eq_append_getElem hj
  have hlen:avs.length=j:=by rw[hA.alts.len];simp;omega
  have hall:=hA.alts.all
  have hjj:j+1≤1073741824:=by omega
  have hl':=hA.len
  have hp':pn<H'.length:=by omega
  have hnode:=hA.node
  have hfa:∀ i∈fa,i<H'.length:=hA.alts.lt
  have hpf:∀ i∈fa,pn≠i:=fun i hi=>by have:=(hA.low i hi).1;omega
  generalize x.alts[j]=a at *
  have hc:=fun h=>hP.clone a.binds h hb
  unfold nb qar at *
  obtain⟨r,hr0⟩:∃ r,qbc L.pure (call L) b [1000000,0,3,4,6,14,15,16,52,53,54] [1000000,0,3,4,6,14,15,16] qfB ⟨kt [0,3,4,6,14,15,16,52,53,54] [xs,.vec g0 N,.int .i64 i,.ptr (some (pn,0)),xs,.int .i64 nx,.int .i64 i,.list (x.alts.map qas) none,.int .i64 x.alts.length,.int .i64 j],H'⟩=r:=⟨_,rfl⟩
  have hr:=hr0
  unfold qfB at hr
  obtain⟨hz,ho⟩ | ⟨hz,t,ho,ht,htl⟩:=hA.own
  ·subst ho
   have:avs=[]:=List.length_eq_zero_iff.1 (by omega)
   subst this
   have o3:j+1=1:=by omega
   rcases qfw a.binds with ⟨hv,ho⟩ | ⟨hv,ho⟩<;>simp only[hv,ho] at hc
   ·simp -implicitDefEqProofs only[ev_,aOp,opd,qaa,qay,qaB,qaA,qad,qab,qaf,qag,qaT,qaS,qai,qcj,qcK,leaf,qat,qaz,qbO,↓reduceIte,reduceCtorEq,Nat.reduceEqDiff,Nat.reduceAdd,Nat.reduceSub,Nat.reduceLeDiff,forall_const,forall_eq_or_imp,forall_eq,qaZ,h1,h2,h3,hc,hnode,hga,hgl,hsl,hsa,hp',hbv,hkv] at hr
    subst hr
    refine⟨_,hr0,_,_,_,_,rfl,hA.step (bv':=.list [] none) (fb:=[]) hln htake (by simp) ?_ ?_ ?_ ?_ ?_ (H'.length+1) rfl ?_ (by omega) (.inl (by omega))⟩
    ·intro q h5 h6 _
     rw[hga (by simpa using h5),hgn (by omega)]
    ·rw[hga (by simpa using hp'),hgs hp']
     rfl
    ·exact .inl ⟨qh6 ho,rfl,rfl⟩
    ·intro q hq
     cases hq
    ·exact List.nodup_nil
    ·rw[qrF (by simp),o3]
   ·simp -implicitDefEqProofs only[ev_,aOp,opd,qaa,qay,qaB,qaA,qad,qab,qaf,qag,qaT,qaS,qai,qcj,qcK,leaf,qat,qaz,qbO,↓reduceIte,reduceCtorEq,Nat.reduceEqDiff,Nat.reduceAdd,Nat.reduceSub,Nat.reduceLeDiff,forall_const,forall_eq_or_imp,forall_eq,qaZ,qgK,qp7,h1,h2,h3,hc,hnode,hga,hgl,hsl,hsa,hp',hbv,hkv] at hr
    subst hr
    refine⟨_,hr0,_,_,_,_,rfl,hA.step (bv':=.vec (H'.length+1) a.binds.length) (fb:=[H'.length+1]) hln htake (by simp) ?_ ?_ ?_ ?_ ?_ (H'.length+2) rfl ?_ (by omega) (.inl (by omega))⟩
    ·intro q h5 h6 _
     rw[hga (by simpa using h5),hgn (by omega)]
    ·rw[hga (by simpa using hp'),hgs hp']
     rfl
    ·exact .inr ⟨qgN ho,_,rfl,qrF (by simp),rfl⟩
    ·intro q hq
     rw[List.mem_singleton.1 hq]
     exact⟨by omega,fun e=>by have:=Option.some.inj (Option.some.inj e);omega⟩
    ·simp
    ·rw[qzp (by simp),o3]
  ·subst ho
   have htl':=hlt ht
   have hpt:t≠pn:=by omega
   rcases qfw a.binds with ⟨hv,ho⟩ | ⟨hv,ho⟩<;>simp only[hv,ho] at hc
   ·simp -implicitDefEqProofs only[ev_,aOp,opd,qaa,qay,qaB,qaA,qad,qab,qaf,qag,qaT,qaS,qai,qcj,qcK,leaf,qat,qaz,qbO,↓reduceIte,reduceCtorEq,Nat.reduceEqDiff,Nat.reduceAdd,Nat.reduceSub,Nat.reduceLeDiff,ne_eq,forall_const,forall_eq_or_imp,forall_eq,qaZ,List.length_set,h1,h2,h3,hc,hnode,ht,hga,hgl,hsl,hsa,hgn,hp',hbv,hkv,htl',hpt,hall,hlen,hjj] at hr
    subst hr
    refine⟨_,hr0,_,_,_,_,rfl,hA.step (bv':=.list [] none) (fb:=[]) hln htake (by simp) ?_ ?_ ?_ ?_ ?_ t rfl ?_ (by omega) (.inr rfl)⟩
    ·intro q h5 h6 h7
     rw[hga (by simpa using h5),hgn (by omega),hgn (fun e=>h7 (by rw[e]))]
    ·rw[hga (by simpa using hp'),hgs (by simpa using hp')]
     rfl
    ·exact .inl ⟨qh6 ho,rfl,rfl⟩
    ·intro q hq
     cases hq
    ·exact List.nodup_nil
    ·rw[hga (by simpa using htl'),hgn (by omega),hgs htl']
   ·simp -implicitDefEqProofs only[ev_,aOp,opd,qaa,qay,qaB,qaA,qad,qab,qaf,qag,qaT,qaS,qai,qcj,qcK,leaf,qat,qaz,qbO,↓reduceIte,reduceCtorEq,Nat.reduceEqDiff,Nat.reduceAdd,Nat.reduceSub,Nat.reduceLeDiff,ne_eq,forall_const,forall_eq_or_imp,forall_eq,qaZ,qgK,qp7,List.length_set,h1,h2,h3,hc,hnode,ht,hga,hgl,hsl,hsa,hgn,hp',hbv,hkv,htl',hpt,hall,hlen,hjj] at hr
    subst hr
    refine⟨_,hr0,_,_,_,_,rfl,hA.step (bv':=.vec (H'.length+1) a.binds.length) (fb:=[H'.length+1]) hln htake (by simp) ?_ ?_ ?_ ?_ ?_ t rfl ?_ (by omega) (.inr rfl)⟩
    ·intro q h5 h6 h7
     rw[hga (by simpa using h5),hgn (by omega),hgn (fun e=>h7 (by rw[e]))]
    ·rw[hga (by simpa using hp'),hgs (by simpa using hp')]
     rfl
    ·exact .inr ⟨qgN ho,_,rfl,qrF (by simp),rfl⟩
    ·intro q hq
     rw[List.mem_singleton.1 hq]
     exact⟨by omega,fun e=>by have:=Option.some.inj (Option.some.inj e);omega⟩
    ·simp
    ·rw[hga (by simpa using htl'),hgn (by omega),hgs htl']
 ·intro s hs
  obtain⟨H',avs,oa,fa,rfl,hA⟩:=hs
  have h0:=qaQ x.alts.length
  refine⟨_,?_,H',avs,oa,fa,rfl,hA⟩
  unfold qfB
  simp -implicitDefEqProofs only[ev_,aOp,opd,qaa,qaB,qaA,qab,gcE,↓reduceIte,reduceCtorEq,Nat.reduceEqDiff,h0]
 ·refine⟨H,[],some none,[],rfl,hn,⟨rfl,rfl⟩,fun i hi=>(by cases hi),List.nodup_nil,.inl ⟨rfl,rfl⟩,Nat.le_refl _,fun i _ _=>rfl⟩
end
theorem qBw (e:List CExpr) (hkd:∀ p,∀ j∈qbm e p,j<p) (O F:Nat→List Nat) (hF:∀ k,k<e.length→F k=O k++(qbm e k).flatMap F) :
  ∀ i:Nat,i<e.length→∃ X:List Nat,(F i).Perm (X.flatMap O)∧X.Perm (i::X.flatMap (qbm e))∧∀ x∈X,x≤i:=by
 intro i
 induction i using Nat.strongRecOn with
 | ind i ih =>
   intro hi
   have key:∀ ks:List Nat,(∀ k∈ks,k<i)→∃ Y:List Nat,(ks.flatMap F).Perm (Y.flatMap O)∧Y.Perm (ks++Y.flatMap (qbm e))∧∀ y∈Y,y<i:=by
    intro ks
    induction ks with
    | nil=>exact fun _=>⟨[],List.Perm.refl _,List.Perm.refl _,fun y hy=>by cases hy⟩
    | cons k ks ih2 =>
      intro hk
      have hk0:=hk k (by simp)
      obtain⟨X,x1,x2,x3⟩:=ih k hk0 (by omega)
      obtain⟨Y,y1,y2,y3⟩:=ih2 fun q hq=>hk q (by simp[hq])
      refine⟨X++Y,?_,?_,?_⟩
      ·rw[List.flatMap_cons,List.flatMap_append]
       exact x1.append y1
      ·rw[List.flatMap_append,List.cons_append]
       refine (x2.append y2).trans ?_
       rw[List.cons_append]
       refine List.Perm.cons _ ?_
       rw[← List.append_assoc,← List.append_assoc]
       exact List.Perm.append_right _ List.perm_append_comm
      ·intro y hy
       rcases List.mem_append.1 hy with h | h
       ·have:=x3 y h;omega
       ·exact y3 y h
   obtain⟨Y,y1,y2,y3⟩:=key (qbm e i) (hkd i)
   refine⟨i::Y,?_,?_,?_⟩
   ·rw[hF i hi,List.flatMap_cons]
    exact List.Perm.append_left _ y1
   ·rw[List.flatMap_cons]
    exact List.Perm.cons _ y2
   ·intro x hx
    rcases List.mem_cons.1 hx with h | h
    ·omega
    ·have:=y3 x h;omega
theorem qze {e:List CExpr} (h:TreeL e) (O F:Nat→List Nat) (hF:∀ k,k<e.length→F k=O k++(qbm e k).flatMap F):(F (e.length-1)).Perm ((List.range e.length).flatMap O):=by
 have hpos:=h.pos
 obtain⟨X,x1,x2,x3⟩:=qBw e (qiK h) O F hF (e.length-1) (by omega)
 refine x1.trans (List.Perm.flatMap_right _ ?_)
 rw[List.perm_iff_count]
 intro j
 by_cases hj:j<e.length
 ·exact (qgl (qbm e) (qiK h) (e.length-1) e.length X (List.range e.length) x2 (qeN e h) (fun x hx=>by have:=x3 x hx;omega) (fun y hy=>List.mem_range.1 hy) (e.length-j) j (by omega)).1
 ·rw[List.count_eq_zero.2 (fun hm=>by have:=x3 j hm;omega),List.count_eq_zero.2 (fun hm=>by have:=List.mem_range.1 hm;omega)]
structure GI (e:List CExpr) (n0 i:Nat) (H:Heap) (ps:List Nat) (O F:Nat→List Nat):Prop where
 len:ps.length=i
 vec:H[n0]? = some (.vec (ps.map qar++List.replicate (e.length-i) (.ptr none)) 1)
 tree:∀ (k:Nat) (hk:k<ps.length),HT H (qaG e k) ps[k] (F k)
 fp:∀ k,k<i→F k=O k++(qbm e k).flatMap F
 nodup:((List.range i).flatMap O).Nodup
 low:∀ k,k<i→∀ q∈O k,n0<q∧q<H.length
theorem qkY {e:List CExpr} {n0 i:Nat} {H:Heap} {ps:List Nat} {O F:Nat→List Nat} (h:GI e n0 i H ps O F) (hkd:∀ p,∀ j∈qbm e p,j<p):∀ k,k<i→∀ q∈F k,n0<q∧q<H.length:=by
 intro k
 induction k using Nat.strongRecOn with
 | ind k ih =>
   intro hk q hq
   rw[h.fp k hk] at hq
   rcases List.mem_append.1 hq with hq | hq
   ·exact h.low k hk q hq
   ·obtain⟨j,hj,hq⟩:=List.mem_flatMap.1 hq
    have:=hkd k j hj
    exact ih j this (by omega) q hq
theorem GI.step {e:List CExpr} {n0 i:Nat} {H:Heap} {ps:List Nat} {O F:Nat→List Nat} (h:GI e n0 i H ps O F) (hT:TreeL e) (hi:i<e.length) {H4:Heap} {pn:Nat} {bv:AVal} {fb fa:List Nat} {ow oa:Option (Option Nat)} {avs:List AVal}
  (hlen:H.length≤H4.length) (hkeep:∀ q,q<H.length→q≠n0→H4[q]? = H[q]?) (hvec:H4[n0]? = some (.vec ((ps++[pn]).map qar++List.replicate (e.length-(i+1)) (.ptr none)) 1))
  (hnode:H4[pn]? = some (nb e[i] bv (.list ((e[i].kids.map fun k=>ps.getD k.toNat 0).map qar) ow) (.list avs oa))) (hb:HInts H4 e[i].binds bv fb) (ha:HAlts H4 e[i].alts avs fa)
  (hnd:(pn::(fb++fa)).Nodup) (hlow:∀ q∈pn::(fb++fa),H.length≤q∧n0<q) :
  ∃ O' F',GI e n0 (i+1) H4 (ps++[pn]) O' F':=by
 have hkd:=qiK hT
 have hl:=h.len
 have hkids:qbm e i=e[i].kids.map Int.toNat:=by unfold qbm;rw[List.getElem?_eq_getElem hi]
 have hki:∀ k∈e[i].kids,k.toNat<i:=fun k hk=>hkd i k.toNat (by rw[hkids];exact List.mem_map_of_mem hk)
 have hfl:=qkY h hkd
 let F':Nat→List Nat:=fun k=>if k=i then pn::(fb++(fa++(e[i].kids.map fun k=>F k.toNat).flatten)) else F k
 let O':Nat→List Nat:=fun k=>if k=i then pn::(fb++fa) else O k
 have hF':∀ k,k<i→F' k=F k:=fun k hk=>if_neg (by omega)
 have hO':∀ k,k<i→O' k=O k:=fun k hk=>if_neg (by omega)
 have hFi:F' i=pn::(fb++(fa++(e[i].kids.map fun k=>F k.toNat).flatten)):=if_pos rfl
 have hOi:O' i=pn::(fb++fa):=if_pos rfl
 have hflat:∀ l:List Nat,(∀ k∈l,k<i)→l.flatMap F'=l.flatMap F:=by
  intro l hl
  exact qgT fun k hk=>hF' k (hl k hk)
 have hold:∀ (k:Nat) (hk:k<ps.length),HT H4 (qaG e k) ps[k] (F k):=fun k hk=>(h.tree k hk).frame fun q hq=>by
  have:=hfl k (by omega) q hq
  exact hkeep q this.2 (by omega)
 refine⟨O',F',by simp[hl],hvec,?_,?_,?_,?_⟩
 ·intro k hk
  rw[List.length_append,List.length_singleton] at hk
  by_cases hki':k<i
  ·rw[hF' k hki',List.getElem_append_left (by omega)]
   exact hold k (by omega)
  ·have:k=i:=by omega
   subst this
   rw[hFi,List.getElem_append_right (by omega),qb0 e hT.ahead k hi]
   simp only[hl,Nat.sub_self,List.getElem_cons_zero]
   refine .mk _ _ _ _ _ pn bv fb (e[k].kids.map fun q:Int=>ps.getD q.toNat 0) ow _ avs oa fa hnode hb ha (by simp) (by simp) ?_
   intro j hj
   have hj':j<e[k].kids.length:=by simpa using hj
   have hm:=hki _ (List.getElem_mem hj')
   simp only[List.getElem_map]
   rw[List.getD_eq_getElem?_getD,List.getElem?_eq_getElem (by omega)]
   exact hold _ _
 ·intro k hk
  by_cases hki':k<i
  ·rw[hF' k hki',hO' k hki',hflat _ (fun j hj=>by have:=hkd k j hj;omega)]
   exact h.fp k hki'
  ·have:k=i:=by omega
   subst this
   rw[hFi,hOi,hflat _ (hkd k),hkids,List.flatMap_map,List.cons_append,List.append_assoc]
   rw[List.flatMap_def]
 ·rw[List.range_succ,List.flatMap_append,List.flatMap_cons,List.flatMap_nil,List.append_nil,hOi]
  have:(List.range i).flatMap O'=(List.range i).flatMap O:=qgT fun k hk=>hO' k (List.mem_range.1 hk)
  rw[this]
  refine List.nodup_append.2 ⟨h.nodup,hnd,fun a ha' b hb' hab=>?_⟩
  subst hab
  obtain⟨k,hk,hq⟩:=List.mem_flatMap.1 ha'
  have h1:=h.low k (List.mem_range.1 hk) _ hq
  have h2:=hlow _ hb'
  omega
 ·intro k hk q hq
  by_cases hki':k<i
  ·rw[hO' k hki'] at hq
   have:=h.low k hki' q hq
   exact⟨this.1,by omega⟩
  ·have:k=i:=by omega
   subst this
   rw[hOi] at hq
   refine⟨(hlow q hq).2,?_⟩
   rcases List.mem_cons.1 hq with rfl | hq
   ·exact hlt hnode
   ·rcases List.mem_append.1 hq with hq | hq
    ·exact hb.lt q hq
    ·exact ha.lt q hq
section
variable {L:Lib}
theorem qxM (hP:MPrims L) {b:Nat} {owe:Option (Option Nat)} (e:List CExpr) (hl:e.length<2 ^ 30) (hf:∀ x∈e,NodeFit x) (hT:TreeL e) (n0:Nat) (H0:Heap) (h0:GI e n0 0 H0 [] (fun _=>[]) (fun _=>[])) (hn0:n0+1=H0.length) :
  ∃ T,qba L.pure (call L) b [1000000,0,3,14,15,16] [1000000,0,3] 0 qgU
   ⟨kt [0,3,14,15,16] [.list (e.map qam) owe,.vec n0 e.length,.list (e.map qam) owe,.int .i64 e.length,.int .i64 0],H0⟩=some (.normal,T) ∧
   ∃ H ps O F,T=⟨kt [0,3] [.list (e.map qam) owe,.vec n0 e.length],H⟩∧GI e n0 e.length H ps O F∧H0.length≤H.length∧∀ q,q<H0.length→q≠n0→H[q]? = H0[q]? := by
 refine qbQ (pure:=L.pure) (call:=call L) (b:=b) (id:=0) (body:=qgU)
  (fun i s=>∃ H ps O F,s=⟨kt [0,3,14,15,16] [.list (e.map qam) owe,.vec n0 e.length,.list (e.map qam) owe,.int .i64 e.length,.int .i64 i],H⟩∧GI e n0 i H ps O F∧H0.length≤H.length∧∀ q,q<H0.length→q≠n0→H[q]? = H0[q]?) e.length _ ?_ ?_ ?_
 ·intro i s hi hs
  obtain⟨H,ps,O,F,rfl,hG,hle,hke⟩:=hs
  obtain⟨h1,h2,h3⟩:=qaN qam e hl i hi
  have hx:=hf e[i] (List.getElem_mem hi)
  have hc:=fun h=>hP.clone e[i].binds h hx.binds
  have hlv:=hlt hG.vec
  have hlook:∀ k∈e[i].kids,0≤k∧k<e.length∧(ps.map qar++List.replicate (e.length-i) (AVal.ptr none))[k.toNat]? = some (qar (ps.getD k.toNat 0)):=by
   intro k hk
   have h1:=hT.ahead i hi k hk
   have hlen:=hG.len
   refine⟨h1.1,by omega,?_⟩
   rw[List.getElem?_append_left (by simp;omega),List.getElem?_map,List.getD_eq_getElem?_getD,List.getElem?_eq_getElem (by omega)]
   rfl
  have hvl:(ps.map qar++List.replicate (e.length-i) (AVal.ptr none)).length=e.length:=by
   have:=hG.len
   simp
   omega
  have hput:∀ pn,(ps.map qar++List.replicate (e.length-i) (AVal.ptr none)).take i++qar pn::(ps.map qar++List.replicate (e.length-i) (AVal.ptr none)).drop (i+1)=(ps++[pn]).map qar++List.replicate (e.length-(i+1)) (.ptr none):=by
   intro pn
   have hlen:=hG.len
   rw[List.take_append_of_le_length (by simp;omega),List.take_of_length_le (by simp;omega),List.drop_append,List.drop_of_length_le (by simp;omega)]
   simp only[List.length_map,hlen,List.nil_append,List.drop_replicate,List.map_append,List.map_cons,List.map_nil,List.append_assoc,List.cons_append]
   congr 3
   omega
  have hstep:=fun {H4 pn bv fb fa ow oa avs}=>hG.step (H4:=H4) (pn:=pn) (bv:=bv) (fb:=fb) (fa:=fa) (ow:=ow) (oa:=oa) (avs:=avs) hT hi
  have hvec:=hG.vec
  generalize hcs:(ps.map qar++List.replicate (e.length-i) (AVal.ptr none))=cs at *
  generalize e[i]=x at *
  have fin:∀ (mid:Heap) (bv:AVal) (fb:List Nat),leaf bv=true→(∀ H4:Heap,(∀ q,q<H.length+1+mid.length→q≠n0→H4[q]? = (H++(qmh x::mid))[q]?)→HInts H4 x.binds bv fb)→fb.Nodup→(∀ q∈fb,H.length≤q∧q<H.length+1+mid.length) →
    ∃ H2 H3,(∀ b,qba L.pure (call L) b [1000000,0,3,4,5,6,14,15,16,31,32,33] [1000000,0,3,4,5,6,14,15,16] 2 qfA ⟨kt [0,3,4,5,6,14,15,16,31,32,33] [.list (e.map qam) owe,.vec n0 e.length,.int .i64 i,qar H.length,qar (H.length+1+mid.length),.list (e.map qam) owe,.int .i64 e.length,.int .i64 i,.list (x.kids.map qav) none,.int .i64 x.kids.length,.int .i64 0],H++(qmh x::(mid++[nb x bv (.list [] (some none)) (.list [] (some none))]))⟩=some (.normal,⟨kt [0,3,4,5,6,14,15,16] [.list (e.map qam) owe,.vec n0 e.length,.int .i64 i,qar H.length,qar (H.length+1+mid.length),.list (e.map qam) owe,.int .i64 e.length,.int .i64 i],H2⟩))∧H2[H.length]? = some (qmh x) ∧
     qba L.pure (call L) H2.length [1000000,0,3,4,6,14,15,16,52,53,54] [1000000,0,3,4,6,14,15,16] 4 qfB ⟨kt [0,3,4,6,14,15,16,52,53,54] [.list (e.map qam) owe,.vec n0 e.length,.int .i64 i,qar (H.length+1+mid.length),.list (e.map qam) owe,.int .i64 e.length,.int .i64 i,.list (x.alts.map qas) none,.int .i64 x.alts.length,.int .i64 0],H2⟩=some (.normal,⟨kt [0,3,4,6,14,15,16] [.list (e.map qam) owe,.vec n0 e.length,.int .i64 i,qar (H.length+1+mid.length),.list (e.map qam) owe,.int .i64 e.length,.int .i64 i],H3⟩)∧H3[n0]? = some (.vec cs 1) ∧
     ∃ O' F',GI e n0 (i+1) (H3.set n0 (.vec (cs.take i++qar (H.length+1+mid.length)::cs.drop (i+1)) 1)) (ps++[H.length+1+mid.length]) O' F'∧H.length≤H3.length∧∀ q,q<H.length→q≠n0→H3[q]? = H[q]? := by
   intro mid bv fb hlb hbi hfn hfb
   have hpn:(H++(qmh x::(mid++[nb x bv (.list [] (some none)) (.list [] (some none))])))[H.length+1+mid.length]? = some (nb x bv (.list [] (some none)) (.list [] (some none))):=by
    rw[List.getElem?_append_right (by omega)]
    have:H.length+1+mid.length-H.length=mid.length+1:=by omega
    rw[this,List.getElem?_cons_succ,List.getElem?_append_right (Nat.le_refl _),Nat.sub_self]
    rfl
   have hl0:=fun b=>qxK (L:=L) (b:=b) (.list (e.map qam) owe) e.length n0 i x hx.kids cs e.length (fun k=>ps.getD k.toNat 0) (H++(qmh x::(mid++[nb x bv (.list [] (some none)) (.list [] (some none))]))) H.length (H.length+1+mid.length) bv
    (by rw[hga hlv];exact hvec) hpn hlb (by omega) hlook
   have hpre:∀ q,q<H.length+1+mid.length→(H++(qmh x::(mid++[nb x bv (.list [] (some none)) (.list [] (some none))])))[q]? = (H++(qmh x::mid))[q]? := by
    intro q hq
    have:H++(qmh x::(mid++[nb x bv (.list [] (some none)) (.list [] (some none))]))=(H++(qmh x::mid))++[nb x bv (.list [] (some none)) (.list [] (some none))]:=by simp
    rw[this]
    exact hga (by simp;omega)
   have hH1l:(H++(qmh x::(mid++[nb x bv (.list [] (some none)) (.list [] (some none))]))).length=H.length+1+mid.length+1:=by simp;omega
   generalize hkv:AVal.list ((x.kids.map fun k=>ps.getD k.toNat 0).map qar) (qf8 _ x.kids.length)=kv at hl0
   have hlk:leaf kv=true:=by rw[← hkv];rfl
   generalize hH1:H++(qmh x::(mid++[nb x bv (.list [] (some none)) (.list [] (some none))]))=H1 at *
   have hpl:=hlt hpn
   obtain⟨H2,hH2⟩:∃ H2,H2=H1.set (H.length+1+mid.length) (nb x bv kv (.list [] (some none)))++qdd 1 x.kids.length:=⟨_,rfl⟩
   have h2n:H2[H.length+1+mid.length]? = some (nb x bv kv (.list [] (some none))):=by rw[hH2,hga (by simpa using hpl),hgs hpl]
   have h2o:∀ q,q<H.length+1+mid.length→H2[q]? = (H++(qmh x::mid))[q]? := by
    intro q hq
    rw[hH2,hga (by simp;omega),hgn (by omega)]
    exact hpre q hq
   have h2l:H1.length≤H2.length:=by rw[hH2];simp
   simp only[← hH2] at hl0
   obtain⟨T,ht,H3,avs,oa,fa,rfl,hA⟩:=qxL hP (b:=H2.length) (.list (e.map qam) owe) e.length n0 i x hx.alts hx.each e.length H2 (H.length+1+mid.length) bv kv h2n hlb hlk
   have h3o:∀ q,q<H.length+1+mid.length→H3[q]? = (H++(qmh x::mid))[q]? := fun q hq=>by rw[hA.keep q (by omega) (by omega),h2o q hq]
   have h3v:H3[n0]? = some (.vec cs 1):=by rw[h3o n0 (by omega),hga hlv];exact hvec
   have h3l:=hlt h3v
   have hAl:=hA.len
   have hfl:=hA.alts.lt
   obtain⟨O',F',hG'⟩:=hstep (H4:=H3.set n0 (.vec (cs.take i++qar (H.length+1+mid.length)::cs.drop (i+1)) 1)) (pn:=H.length+1+mid.length) (bv:=bv) (fb:=fb) (fa:=fa) (oa:=oa) (avs:=avs) (ow:=qf8 H1.length x.kids.length)
    (by simp;omega) (fun q hq hq0=>by rw[hgn (by omega),h3o q (by omega),hga hq]) (by rw[hgs h3l,hput])
    (by rw[hgn (by omega),hA.node,← hkv,hH1l]) (hbi _ fun q hq hq0=>by rw[hgn (by omega),h3o q hq])
    (by
     have:=hA.alts
     rw[List.take_length] at this
     exact this.frame fun q hq=>hgn (by have:=(hA.low q hq).1;omega))
    (by
     refine List.nodup_cons.2 ⟨fun hm=>?_,List.nodup_append.2 ⟨hfn,hA.nodup,fun p hp q hq hpq=>?_⟩⟩
     ·rcases List.mem_append.1 hm with hm | hm
      ·have:=(hfb _ hm).2;omega
      ·have:=(hA.low _ hm).1;omega
     ·have h1:=(hfb _ hp).2
      have h2:=(hA.low _ hq).1
      omega)
    (by
     intro q hq
     rcases List.mem_cons.1 hq with rfl | hq
     ·omega
     ·rcases List.mem_append.1 hq with hq | hq
      ·have:=hfb q hq;omega
      ·have:=(hA.low q hq).1;omega)
   exact⟨H2,H3,hl0,by rw[h2o _ (by omega),hgl rfl],ht,h3v,O',F',hG',by omega,fun q hq hq0=>by rw[h3o q (by omega),hga hq]⟩
  obtain⟨r,hr0⟩:∃ r,qbc L.pure (call L) b [1000000,0,3,14,15,16] [1000000,0,3] qgU ⟨kt [0,3,14,15,16] [.list (e.map qam) owe,.vec n0 e.length,.list (e.map qam) owe,.int .i64 e.length,.int .i64 i],H⟩=r:=⟨_,rfl⟩
  have hr:=hr0
  unfold qgU at hr
  rcases qfw x.binds with ⟨hv,ho⟩ | ⟨hv,ho⟩<;>simp only[hv,ho] at hc
  ·obtain⟨H2,H3,f1,f2,f3,f4,O',F',f5,f6,f7⟩:=fin [] (.list [] none) [] rfl (fun H4 _=>.inl ⟨qh6 ho,rfl,rfl⟩) List.nodup_nil (fun q hq=>by cases hq)
   clear fin
   simp only[List.length_nil,List.nil_append,Nat.add_zero] at f1 f3 f5
   unfold qmh at f2
   unfold qar at f1 f3
   unfold qmh nb at f1
   have hil:i+1≤e.length:=by omega
   simp -implicitDefEqProofs only[ev_,aOp,opd,qaa,qay,qaB,qbd,qaA,qad,qab,qaf,qag,qaT,qaS,qai,qcj,qcK,leaf,qat,qaz,↓reduceIte,reduceCtorEq,Nat.reduceEqDiff,Nat.reduceAdd,Nat.reduceSub,Nat.reduceLeDiff,forall_const,forall_eq_or_imp,forall_eq,qa5,Nat.mul_one,h1,h2,h3,hc,hga,hgl,qrF,hsl,f1,f2,f3,f4,hvl,hlv,hil] at hr
   subst hr
   refine⟨_,hr0,_,_,O',F',rfl,f5,by rw[List.length_set];omega,fun q hq hq0=>?_⟩
   rw[hgn (by omega),f7 q (by omega) hq0]
   exact hke q hq hq0
  ·obtain⟨H2,H3,f1,f2,f3,f4,O',F',f5,f6,f7⟩:=fin [.vec (x.binds.map qav) 1] (.vec (H.length+1) x.binds.length) [H.length+1] rfl (fun H4 h4=>.inr ⟨qgN ho,_,rfl,by rw[h4 _ (by simp) (by omega),qrF rfl],rfl⟩) (by simp) (fun q hq=>by rw[List.mem_singleton.1 hq];simp)
   clear fin
   simp only[List.length_nil,List.length_cons,List.cons_append,List.nil_append,Nat.zero_add,Nat.add_assoc,Nat.reduceAdd] at f1 f3 f5
   unfold qmh at f2
   unfold qar at f1 f3
   unfold qmh nb at f1
   have hil:i+1≤e.length:=by omega
   simp -implicitDefEqProofs only[ev_,aOp,opd,qaa,qay,qaB,qbd,qaA,qad,qab,qaf,qag,qaT,qaS,qai,qcj,qcK,leaf,qat,qaz,↓reduceIte,reduceCtorEq,Nat.reduceEqDiff,Nat.reduceAdd,Nat.reduceSub,Nat.reduceLeDiff,forall_const,forall_eq_or_imp,forall_eq,qa5,qgK,Nat.mul_one,h1,h2,h3,hc,hga,hgl,qrF,hsl,f1,f2,f3,f4,hvl,hlv,hil] at hr
   subst hr
   refine⟨_,hr0,_,_,O',F',rfl,f5,by rw[List.length_set];omega,fun q hq hq0=>?_⟩
   rw[hgn (by omega),f7 q (by omega) hq0]
   exact hke q hq hq0
 ·intro s hs
  obtain⟨H,ps,O,F,rfl,hG⟩:=hs
  have h0:=qaQ e.length
  refine⟨_,?_,H,ps,O,F,rfl,hG⟩
  unfold qgU
  simp -implicitDefEqProofs only[ev_,aOp,opd,qaa,qaB,qaA,qab,gcE,↓reduceIte,reduceCtorEq,Nat.reduceEqDiff,h0]
 ·exact⟨H0,[],_,_,rfl,h0,Nat.le_refl _,fun _ _ _=>rfl⟩
theorem qli (hL:Plain L) (hP:MPrims L) (h160:L.fns 160=some fm160) (owe:Option (Option Nat)) (e:List CExpr) (hl:e.length<2 ^ 30) (hf:∀ x∈e,NodeFit x) (hT:TreeL e) (h:Heap) :
  ∃ H p fp,call L 160 [.list (e.map qam) owe] h=some (.val (qar p),H)∧HT H (qbD e) p fp∧fp.Nodup∧(∀ q∈fp,h.length<q)∧h.length≤H.length∧∀ q,q<h.length→H[q]? = h[q]? := by
 have hpos:=hT.pos
 have hG0:GI e h.length 0 (h++[.vec (List.replicate e.length (.ptr none)) 1]) [] (fun _=>[]) (fun _=>[]) :=
  ⟨rfl,by rw[hgl rfl];rfl,fun k hk=>absurd hk (by simp),fun k hk=>absurd hk (by omega),List.nodup_nil,fun k hk=>absurd hk (by omega)⟩
 obtain⟨T,ht,H,ps,O,F,rfl,hG,hle,hke⟩:=qxM hP (b:=h.length+1) (owe:=owe) e hl hf hT h.length _ hG0 (by simp)
 have hlen:=hG.len
 have hperm:=qze hT O F (fun k hk=>hG.fp k hk)
 have hge:=hG.tree (e.length-1) (by omega)
 have hget:(ps.map qar++List.replicate (e.length-e.length) (AVal.ptr none))[e.length-1]? = some (qar (ps[e.length-1]'(by omega))):=by
  rw[List.getElem?_append_left (by simp;omega),List.getElem?_map,List.getElem?_eq_getElem (by omega)]
  rfl
 have hv:=hG.vec
 have hfl:=qkY hG (qiK hT) (e.length-1) (by omega)
 refine⟨H,ps[e.length-1]'(by omega),F (e.length-1),?_,?_,hperm.nodup_iff.2 hG.nodup,fun q hq=>(hfl q hq).1,by simp at hle;omega,fun q hq=>?_⟩
 ·generalize (ps.map qar++List.replicate (e.length-e.length) (AVal.ptr none))=cs at *
  generalize ps[e.length-1]'(by omega)=p at *
  have w:IntKind.i64.wrap ((e.length:Int)-1)=((e.length-1:Nat):Int):=by rw[qcy (by omega) (by omega)];omega
  have b:(((e.length-1:Nat):Int)<e.length):=by omega
  have hn:((e.length:Int)≤1073741824):=by omega
  refine qaL (hL.summ 160 (by rw[h160];simp)) h160 ?_
  unfold fm160
  unfold qar at *
  simp -implicitDefEqProofs only[ev_,aOp,opd,qaa,qaB,qbd,qaA,qad,qab,qag,qan,qac,qae,qaj,↓reduceIte,reduceCtorEq,Nat.reduceEqDiff,Nat.mul_one,Int.le_refl,ht,hv,hget,w,b,hn]
 ·rw[qdJ]
  exact hge
 ·rw[hke q (by simp;omega) (by omega),hga hq]
theorem qr2 (hL:Plain L) (hP:MPrims L) (h160:L.fns 160=some fm160) (e:List CExpr) (hl:e.length<2 ^ 30) (hf:∀ x∈e,NodeFit x) (hT:TreeL e) (h:Heap) :
  ∃ H p fp,call L 160 [.list (e.map qam) none] h=some (.val (qar p),H)∧HT H (qbD e) p fp∧fp.Nodup∧(∀ q∈fp,h.length<q)∧h.length≤H.length∧∀ q,q<h.length→H[q]? = h[q]? :=
 qli hL hP h160 none e hl hf hT h
end
end Go.Abs
