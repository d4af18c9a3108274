/-
  PARTS OF A PROOF, joined: an abstract machine for quiet code, its evaluation, and what the seat's functions answer on it. Conditions: none.
-/
import Derived.Test.YtpchghpipgpkfaaDoorHF
import Derived.Test.YtpchghpipgpkfaaDoorD
set_option linter.unusedVariables false
set_option linter.unusedSimpArgs false
set_option maxRecDepth 100000
set_option maxHeartbeats 4000000
namespace Go.Abs
def OwnT (H:Heap) (own:Option (Option Nat)) (n sz:Nat):Prop:=own=some none∨∃ id,own=some (some id)∧H[id]? = some (.tail n sz)
def Young (b:Nat) (own:Option (Option Nat)):Prop:=own=some none∨∃ t,own=some (some t)∧b≤t
theorem Young.ne {b i:Nat} {own:Option (Option Nat)} (h:Young b own) (hi:i<b):own≠some (some i):=by
 rcases h with h | ⟨t,h,ht⟩
 ·rw[h];intro e;cases e
 ·rw[h];intro e;injection e with e;injection e with e;omega
theorem Young.le {a b:Nat} {own:Option (Option Nat)} (h:Young b own) (hi:a≤b):Young a own:=by
 rcases h with h | ⟨t,h,ht⟩
 ·exact .inl h
 ·exact .inr ⟨t,h,by omega⟩
theorem OwnT.frame {H H':Heap} {own:Option (Option Nat)} {n sz:Nat} (h:OwnT H own n sz) (he:∀ id,own=some (some id)→H'[id]? = H[id]?):OwnT H' own n sz:=by
 rcases h with h | ⟨id,h1,h2⟩
 ·exact .inl h
 ·exact .inr ⟨id,h1,by rw[he id h1];exact h2⟩
structure App (H:Heap) (own:Option (Option Nat)) (n sz:Nat) (own':Option (Option Nat)) (H':Heap):Prop where
 owns:OwnT H' own' n sz
 len:H.length≤H'.length
 keep:∀ i,i<H.length→own≠some (some i)→H'[i]? = H[i]?
 new:own'=own∨∃ t,own'=some (some t)∧H.length≤t
theorem App.young {H:Heap} {own own':Option (Option Nat)} {n sz:Nat} {H':Heap} (h:App H own n sz own' H') {b:Nat} (hb:b≤H.length) (hy:Young b own):Young b own':=by
 rcases h.new with h | ⟨t,h,ht⟩
 ·rw[h];exact hy
 ·exact .inr ⟨t,h,by omega⟩
theorem App.other {H:Heap} {own own':Option (Option Nat)} {n sz:Nat} {H':Heap} (h:App H own n sz own' H') {i:Nat} {o:AObj} (hi:H[i]? = some o) (ho:∀ a b,o≠.tail a b) {m z:Nat} (hw:OwnT H own m z):H'[i]? = some o:=by
 rw[h.keep i (hlt hi),hi]
 rintro e
 rcases hw with hw | ⟨id,h1,h2⟩
 ·rw[hw] at e;cases e
 ·rw[h1] at e
  injection e with e
  injection e with e
  subst e
  rw[hi] at h2
  injection h2 with h2
  exact ho _ _ h2
theorem qeQ (H:Heap) (sz bytes:Nat) (xs ys:List AVal) (own o:Option (Option Nat)) (hown:OwnT H own xs.length sz) (hx:(xs.all fun v=>decide ((acells v).length=sz))=true) (hy:(ys.all fun v=>decide ((acells v).length=sz))=true) (hn:xs.length+ys.length≤1073741824) :
  ∃ own' H',qbO H sz bytes (.list xs own) (.list ys o)=some (.list (xs++ys) own',H')∧App H own (xs.length+ys.length) sz own' H':=by
 by_cases hz:ys=[]
 ·subst hz
  refine⟨own,H,?_,by simpa using hown,Nat.le_refl _,fun _ _ _=>rfl,.inl rfl⟩
  unfold qbO
  dsimp only
  rw[if_pos rfl,List.append_nil]
 ·rcases hown with h | ⟨id,h1,h2⟩
  ·subst h
   refine⟨some (some H.length),H++[.tail (xs.length+ys.length) sz],?_,.inr ⟨_,rfl,hgl rfl⟩,by simp,fun i hi _=>hga hi,.inr ⟨_,rfl,Nat.le_refl _⟩⟩
   unfold qbO
   dsimp only
   rw[if_neg hz,if_pos ⟨hx,hy,hn⟩]
  ·subst h1
   have hl:=hlt h2
   refine⟨some (some id),H.set id (.tail (xs.length+ys.length) sz),?_,.inr ⟨_,rfl,hgs hl⟩,by simp,fun i hi hne=>hgn (fun e=>hne (by rw[e])),.inl rfl⟩
   unfold qbO
   dsimp only
   rw[if_neg hz,if_pos ⟨hx,hy,hn⟩,h2]
   dsimp only
   rw[if_pos ⟨rfl,rfl⟩]
theorem qfr (ps:List Nat):((ps.map qar).all fun v=>decide ((acells v).length=1))=true:=by
 rw[List.all_eq_true]
 intro v hv
 obtain⟨q,_,rfl⟩:=List.mem_map.1 hv
 rfl
def RA (l:List CAlt) (v:List AVal):Prop:=v=l.map qas
theorem RA.snoc {a:CAlt} {l:List CAlt} {v:List AVal} (h:RA l v):RA (l++[a]) (v++[.agg [.int .i64 a.tag,.list (a.binds.map qav) none]]):=by
 rw[show v=_ from h]
 show _=(l++[a]).map qas
 rw[List.map_append]
 rfl
theorem RA.len {l:List CAlt} {v:List AVal} (h:RA l v):v.length=l.length:=by rw[show v=_ from h,List.length_map]
theorem RA.all {l:List CAlt} {v:List AVal} (h:RA l v):(v.all fun x=>decide ((acells x).length=2))=true:=by rw[show v=_ from h];exact qdF l
section
variable {L:Lib}
theorem qAL {b:Nat} (xs:AVal) (nx:Int) (i:Nat) (x:CExpr) (hk:x.kids.length<2 ^ 30) (ps:List Nat) (ow:Option (Option Nat)) (rt:AVal) (w0 px pn:Nat) (bv:AVal) (H:Heap)
  (hw:H[w0]? = some (.box [.list (ps.map qar) ow,rt])) (hn:H[pn]? = some (nb x bv (.list [] (some none)) (.list [] (some none)))) (hbv:leaf bv=true) (hne:pn≠w0) (hlook:∀ k∈x.kids,0≤k∧k.toNat<ps.length) :
  ∃ T,qba L.pure (call L) b [1000000,0,3,5,6,13,14,15,29,30,31] [1000000,0,3,5,6,13,14,15] 2 qg3
   ⟨kt [0,3,5,6,13,14,15,29,30,31] [xs,qar w0,qar px,qar pn,xs,.int .i64 nx,.int .i64 i,.list (x.kids.map qav) none,.int .i64 x.kids.length,.int .i64 0],H⟩=some (.normal,T) ∧
   ∃ H' ok,T=⟨kt [0,3,5,6,13,14,15] [xs,qar w0,qar px,qar pn,xs,.int .i64 nx,.int .i64 i],H'⟩∧H'[pn]? = some (nb x bv (.list ((x.kids.map fun k=>ps.getD k.toNat 0).map qar) ok) (.list [] (some none))) ∧
    H.length≤H'.length∧∀ q,q<H.length→q≠pn→H'[q]? = H[q]? := by
 have hln:=hlt hn
 have hlw:=hlt hw
 refine qbQ (pure:=L.pure) (call:=call L) (b:=b) (id:=2) (body:=qg3)
  (fun j s=>∃ H' ok,s=⟨kt [0,3,5,6,13,14,15,29,30,31] [xs,qar w0,qar px,qar pn,xs,.int .i64 nx,.int .i64 i,.list (x.kids.map qav) none,.int .i64 x.kids.length,.int .i64 j],H'⟩ ∧
   H'[pn]? = some (nb x bv (.list (((x.kids.take j).map fun k=>ps.getD k.toNat 0).map qar) ok) (.list [] (some none)))∧OwnT H' ok j 1∧Young H.length ok∧H.length≤H'.length∧∀ q,q<H.length→q≠pn→H'[q]? = H[q]?) x.kids.length _ ?_ ?_ ?_
 ·intro j s hj hs
  obtain⟨H',ok,rfl,hnode,hown,hyo,hle,hkp⟩:=hs
  obtain⟨h1,h2,h3⟩:=qaN qav x.kids hk j hj
  obtain⟨k0,k1⟩:=hlook x.kids[j] (List.getElem_mem hj)
  have htake:((x.kids.take (j+1)).map fun k=>ps.getD k.toNat 0).map qar=((x.kids.take j).map fun k=>ps.getD k.toNat 0).map qar++[qar (ps.getD x.kids[j].toNat 0)]:=by
   rw[List.take_succ_eq_append_getElem hj,List.map_append,List.map_append];rfl
  have hlen:(((x.kids.take j).map fun k=>ps.getD k.toNat 0).map qar).length=j:=by simp;omega
  have hall:=qfr ((x.kids.take j).map fun k=>ps.getD k.toNat 0)
  have hlk:(ps.map qar)[x.kids[j].toNat]? = some (qar (ps.getD x.kids[j].toNat 0)):=by
   rw[List.getElem?_map,List.getD_eq_getElem?_getD,List.getElem?_eq_getElem k1]
   rfl
  have hw':H'[w0]? = some (.box [.list (ps.map qar) ow,rt]):=by rw[hkp w0 hlw (fun e=>hne e.symm)];exact hw
  simp only[htake]
  generalize x.kids[j]=k at *
  generalize ps.getD k.toNat 0=p at *
  generalize ((x.kids.take j).map fun k=>ps.getD k.toNat 0).map qar=ks at *
  obtain⟨ok2,H2,ha,hA⟩:=qeQ H' 1 8 ks [qar p] ok (some none) (by rw[hlen];exact hown) hall rfl (by rw[hlen,List.length_singleton];omega)
  rw[hlen,List.length_singleton] at hA
  have hn2:H2[pn]? = some (nb x bv (.list ks ok) (.list [] (some none))):=hA.other hnode (fun a b=>by intro e;cases e) hown
  have hl2:=hlt hn2
  have hln':=hlt hnode
  obtain⟨r,hr0⟩:∃ r,qbc L.pure (call L) b [1000000,0,3,5,6,13,14,15,29,30,31] [1000000,0,3,5,6,13,14,15] qg3 ⟨kt [0,3,5,6,13,14,15,29,30,31] [xs,qar w0,qar px,qar pn,xs,.int .i64 nx,.int .i64 i,.list (x.kids.map qav) none,.int .i64 x.kids.length,.int .i64 j],H'⟩=r:=⟨_,rfl⟩
  have hr:=hr0
  unfold qar nb at *
  unfold qg3 at hr
  simp -implicitDefEqProofs only[ev_,aOp,opd,qaa,qay,qaB,qaA,qad,qab,qaf,qag,qaT,qai,leaf,qat,qaz,↓reduceIte,reduceCtorEq,Nat.reduceEqDiff,Nat.reduceAdd,Nat.reduceLeDiff,qa1,h1,h2,h3,k0,hlk,hw',hnode,ha,hn2,hbv] at hr
  subst hr
  refine⟨_,hr0,_,ok2,rfl,?_,?_,hA.young hle hyo,by rw[List.length_set];have:=hA.len;omega,?_⟩
  ·rw[hgs hl2]
  ·refine hA.owns.frame fun id hid=>hgn (fun e=>?_)
   subst e
   rcases hA.owns with h | ⟨t,h5,h6⟩
   ·rw[h] at hid;cases hid
   ·rw[h5] at hid
    injection hid with hid
    injection hid with hid
    subst hid
    rw[hn2] at h6
    cases h6
  ·intro q hq hqp
   rw[hgn (fun e=>hqp e.symm),hA.keep q (by omega) (hyo.ne hq)]
   exact hkp q hq hqp
 ·intro s hs
  obtain⟨H',ok,rfl,hnode,hown,hyo,hle,hkp⟩:=hs
  have h0:=qaQ x.kids.length
  rw[List.take_length] at hnode
  refine⟨_,?_,H',ok,rfl,hnode,hle,hkp⟩
  unfold qg3
  simp -implicitDefEqProofs only[ev_,aOp,opd,qaa,qaB,qaA,qab,gcE,↓reduceIte,reduceCtorEq,Nat.reduceEqDiff,h0]
 ·exact⟨H,some none,rfl,hn,.inl rfl,.inl rfl,Nat.le_refl _,fun _ _ _=>rfl⟩
end
section
variable {L:Lib}
theorem qAM {b:Nat} (xs:AVal) (nx:Int) (i:Nat) (x:CExpr) (ha:x.alts.length<2 ^ 30) (hab:∀ a∈x.alts,a.binds.length<2 ^ 30) (w0 pn:Nat) (bv kv:AVal) (H:Heap)
  (hn:H[pn]? = some (nb x bv kv (.list [] (some none)))) (hbv:leaf bv=true) (hkv:leaf kv=true) :
  ∃ T,qba L.pure (call L) b [1000000,0,3,6,13,14,15,53,54,55] [1000000,0,3,6,13,14,15] 4 qg4
   ⟨kt [0,3,6,13,14,15,53,54,55] [xs,qar w0,qar pn,xs,.int .i64 nx,.int .i64 i,.list (x.alts.map qas) none,.int .i64 x.alts.length,.int .i64 0],H⟩=some (.normal,T) ∧
   ∃ H' avs oa,T=⟨kt [0,3,6,13,14,15] [xs,qar w0,qar pn,xs,.int .i64 nx,.int .i64 i],H'⟩∧H'[pn]? = some (nb x bv kv (.list avs oa))∧RA x.alts avs ∧
    H.length≤H'.length∧∀ q,q<H.length→q≠pn→H'[q]? = H[q]? := by
 have hln:=hlt hn
 refine qbQ (pure:=L.pure) (call:=call L) (b:=b) (id:=4) (body:=qg4)
  (fun j s=>∃ H' avs oa,s=⟨kt [0,3,6,13,14,15,53,54,55] [xs,qar w0,qar pn,xs,.int .i64 nx,.int .i64 i,.list (x.alts.map qas) none,.int .i64 x.alts.length,.int .i64 j],H'⟩ ∧
   H'[pn]? = some (nb x bv kv (.list avs oa))∧RA (x.alts.take j) avs∧OwnT H' oa j 2∧Young H.length oa∧H.length≤H'.length∧∀ q,q<H.length→q≠pn→H'[q]? = H[q]?) x.alts.length _ ?_ ?_ ?_
 ·intro j s hj hs
  obtain⟨H',avs,oa,rfl,hnode,hra,hown,hyo,hle,hkp⟩:=hs
  obtain⟨h1,h2,h3⟩:=qaN qas x.alts ha j hj
  have hb:=hab x.alts[j] (List.getElem_mem hj)
  have htake:x.alts.take (j+1)=x.alts.take j++[x.alts[j]]:=List.take_succ_eq_append_getElem hj
  have hlen:avs.length=j:=by rw[hra.len];simp;omega
  have hall:=hra.all
  have hln':=hlt hnode
  simp only[htake]
  generalize x.alts[j]=a at *
  obtain⟨ob,H2,ha1,hA1⟩:=qeQ (H'++[.box [.int .i64 a.tag,.list (a.binds.map qav) none]]) 1 8 [] (a.binds.map qav) (some none) none (.inl rfl) rfl (qfq _) (by simp;omega)
  have hl1:H'.length+1≤H2.length:=by have:=hA1.len;simpa using this
  have hk1:∀ q,q<H'.length→H2[q]? = H'[q]? := fun q hq=>by rw[hA1.keep q (by simp;omega) (by intro e;cases e),hga hq]
  have hown1:OwnT H2 oa avs.length 2:=by
   rw[hlen]
   exact hown.frame fun id hid=>hk1 id (by
    rcases hown with h | ⟨t,h5,h6⟩
    ·rw[h] at hid;cases hid
    ·rw[h5] at hid
     injection hid with hid
     injection hid with hid
     subst hid
     exact hlt h6)
  obtain⟨oa2,H3,ha2,hA2⟩:=qeQ H2 2 32 avs [.agg [.int .i64 a.tag,.list (a.binds.map qav) none]] oa (some none) hown1 hall rfl (by rw[hlen,List.length_singleton];omega)
  have hn2:H2[pn]? = some (nb x bv kv (.list avs oa)):=by rw[hk1 pn hln'];exact hnode
  have hn3:H3[pn]? = some (nb x bv kv (.list avs oa)):=hA2.other hn2 (fun a b=>by intro e;cases e) hown1
  have hbx2:H2[H'.length]? = some (.box [.int .i64 a.tag,.list (a.binds.map qav) none]):=by rw[hA1.keep _ (by simp) (by intro e;cases e)];exact hgl rfl
  have hl3:=hlt hn3
  obtain⟨r,hr0⟩:∃ r,qbc L.pure (call L) b [1000000,0,3,6,13,14,15,53,54,55] [1000000,0,3,6,13,14,15] qg4 ⟨kt [0,3,6,13,14,15,53,54,55] [xs,qar w0,qar pn,xs,.int .i64 nx,.int .i64 i,.list (x.alts.map qas) none,.int .i64 x.alts.length,.int .i64 j],H'⟩=r:=⟨_,rfl⟩
  have hr:=hr0
  simp only[List.nil_append,List.length_nil,Nat.zero_add] at ha1 hA1
  rw[hlen,List.length_singleton] at hA2
  unfold qar nb at *
  unfold qg4 at hr
  simp -implicitDefEqProofs only[ev_,aOp,opd,qaa,qay,qaB,qaA,qad,qab,qaf,qag,qaT,qaS,qai,qcj,qcK,leaf,qat,qaz,↓reduceIte,reduceCtorEq,Nat.reduceEqDiff,Nat.reduceAdd,Nat.reduceSub,Nat.reduceLeDiff,forall_const,forall_eq_or_imp,forall_eq,qaZ,h1,h2,h3,hnode,ha1,ha2,hn2,hn3,hbx2,hbv,hkv,hgl,hsl,hga,hln'] at hr
  subst hr
  refine⟨_,hr0,_,_,oa2,rfl,?_,hra.snoc,?_,hA2.young (by omega) hyo,by rw[List.length_set];have:=hA2.len;omega,?_⟩
  ·rw[hgs hl3]
  ·refine hA2.owns.frame fun id hid=>hgn (fun e=>?_)
   subst e
   rcases hA2.owns with h | ⟨t,h5,h6⟩
   ·rw[h] at hid;cases hid
   ·rw[h5] at hid
    injection hid with hid
    injection hid with hid
    subst hid
    rw[hn3] at h6
    cases h6
  ·intro q hq hqp
   rw[hgn (fun e=>hqp e.symm),hA2.keep q (by omega) (hyo.ne hq),hk1 q (by omega)]
   exact hkp q hq hqp
 ·intro s hs
  obtain⟨H',avs,oa,rfl,hnode,hra,hown,hyo,hle,hkp⟩:=hs
  have h0:=qaQ x.alts.length
  rw[List.take_length] at hra
  refine⟨_,?_,H',avs,oa,rfl,hnode,hra,hle,hkp⟩
  unfold qg4
  simp -implicitDefEqProofs only[ev_,aOp,opd,qaa,qaB,qaA,qab,gcE,↓reduceIte,reduceCtorEq,Nat.reduceEqDiff,h0]
 ·exact⟨H,[],some none,rfl,hn,rfl,.inl rfl,.inl rfl,Nat.le_refl _,fun _ _ _=>rfl⟩
def qmj (x:CExpr) (ps:List Nat) (H:Heap) (p:Nat):Prop :=
 ∃ ob ok avs oa,H[p]? = some (nb x (.list (x.binds.map qav) ob) (.list ((x.kids.map fun k=>ps.getD k.toNat 0).map qar) ok) (.list avs oa))∧RA x.alts avs
structure OJ (e:List CExpr) (w0 i:Nat) (H:Heap) (ps:List Nat) (ow:Option (Option Nat)) (rt:AVal):Prop where
 len:ps.length=i
 work:H[w0]? = some (.box [.list (ps.map qar) ow,rt])
 owns:OwnT H ow i 1
 young:Young (w0+1) ow
 nodup:ps.Nodup
 low:∀ p∈ps,w0<p∧p<H.length
 node:∀ (k:Nat) (hk:k<e.length) (hi:k<ps.length),qmj e[k] ps H ps[k]
theorem qxn (ps:List Nat) (p:Nat) {k:Nat} (h:k<ps.length):(ps++[p]).getD k 0=ps.getD k 0:=by
 rw[List.getD_eq_getElem?_getD,List.getD_eq_getElem?_getD,List.getElem?_append_left h]
theorem qrO (ps:List Nat) (p:Nat) (l:List Int) (h:∀ k∈l,k.toNat<ps.length):(l.map fun k=>(ps++[p]).getD k.toNat 0)=l.map fun k=>ps.getD k.toNat 0 :=
 List.map_congr_left fun k hk=>qxn ps p (h k hk)
theorem qAN {b:Nat} (e:List CExpr) (hl:e.length<2 ^ 30) (hf:∀ x∈e,NodeFit x) (hA:qdr e) (w0:Nat) (H0:Heap) (hw:H0[w0]? = some (.box [.list [] (some none),.ptr none])) (hw0:w0+1=H0.length) :
  ∃ T,qba L.pure (call L) b [1000000,0,3,13,14,15] [1000000,0,3] 0 qg5
   ⟨kt [0,3,13,14,15] [.list (e.map qam) none,qar w0,.list (e.map qam) none,.int .i64 e.length,.int .i64 0],H0⟩=some (.normal,T) ∧
   ∃ H ps ow,T=⟨kt [0,3] [.list (e.map qam) none,qar w0],H⟩∧OJ e w0 e.length H ps ow (.ptr none)∧∀ q,q<w0→H[q]? = H0[q]? := by
 have hlw:=hlt hw
 refine qbQ (pure:=L.pure) (call:=call L) (b:=b) (id:=0) (body:=qg5)
  (fun i s=>∃ H ps ow,s=⟨kt [0,3,13,14,15] [.list (e.map qam) none,qar w0,.list (e.map qam) none,.int .i64 e.length,.int .i64 i],H⟩∧OJ e w0 i H ps ow (.ptr none)∧∀ q,q<w0→H[q]? = H0[q]?) e.length _ ?_ ?_ ?_
 ·intro i s hi hs
  obtain⟨H,ps,ow,rfl,hO,hke⟩:=hs
  obtain⟨h1,h2,h3⟩:=qaN qam e hl i hi
  have hx:=hf e[i] (List.getElem_mem hi)
  have hlen:=hO.len
  have hlow:=hO.low
  have hlook:∀ k∈e[i].kids,0≤k∧k.toNat<ps.length:=by
   intro k hk
   have:=hA i hi k hk
   exact⟨this.1,by omega⟩
  have hwk:=hO.work
  have hlwk:=hlt hwk
  have hnode:=hO.node
  obtain⟨ob,H2,ha1,hA1⟩:=qeQ (H++[qmh e[i]]) 1 8 [] (e[i].binds.map qav) (some none) none (.inl rfl) rfl (qfq _) (by have:=hx.binds;simp;omega)
  have hl2:H.length+1≤H2.length:=by have:=hA1.len;simpa using this
  have hk2:∀ q,q<H.length→H2[q]? = H[q]? := fun q hq=>by rw[hA1.keep q (by simp;omega) (by intro e;cases e),hga hq]
  have hbx2:H2[H.length]? = some (qmh e[i]):=by rw[hA1.keep _ (by simp) (by intro e;cases e)];exact hgl rfl
  have hn3:(H2++[nb e[i] (.list (e[i].binds.map qav) ob) (.list [] (some none)) (.list [] (some none))])[H2.length]? = some (nb e[i] (.list (e[i].binds.map qav) ob) (.list [] (some none)) (.list [] (some none))):=hgl rfl
  have hw3:(H2++[nb e[i] (.list (e[i].binds.map qav) ob) (.list [] (some none)) (.list [] (some none))])[w0]? = some (.box [.list (ps.map qar) ow,.ptr none]):=by rw[hga (by omega),hk2 w0 hlwk];exact hwk
  obtain⟨T1,g1,H3,ok,rfl,hn4,hl4,hk4⟩:=qAL (L:=L) (b:=H2.length+1) (.list (e.map qam) none) e.length i e[i] hx.kids ps ow (.ptr none) w0 H.length H2.length (.list (e[i].binds.map qav) ob) _ hw3 hn3 rfl (by omega) hlook
  have hl4':H2.length+1≤H3.length:=by simpa using hl4
  have hk4':∀ q,q<H2.length→H3[q]? = H2[q]? := fun q hq=>by rw[hk4 q (by simp;omega) (by omega),hga hq]
  obtain⟨T2,g2,H4,avs,oa,rfl,hn5,hra,hl5,hk5⟩:=qAM (L:=L) (b:=H3.length) (.list (e.map qam) none) e.length i e[i] hx.alts hx.each w0 H2.length (.list (e[i].binds.map qav) ob) (.list ((e[i].kids.map fun k=>ps.getD k.toNat 0).map qar) ok) H3 hn4 rfl rfl
  have hk5':∀ q,q<H2.length→H4[q]? = H2[q]? := fun q hq=>by rw[hk5 q (by omega) (by omega),hk4' q hq]
  have hbx3:H3[H.length]? = some (qmh e[i]):=by rw[hk4' _ (by omega)];exact hbx2
  have hw5:H4[w0]? = some (.box [.list (ps.map qar) ow,.ptr none]):=by rw[hk5' w0 (by omega),hk2 w0 hlwk];exact hwk
  have hown5:OwnT H4 ow (ps.map qar).length 1:=by
   rw[List.length_map,hlen]
   refine hO.owns.frame fun id hid=>?_
   have:id<H.length:=by
    rcases hO.owns with h | ⟨t,h5,h6⟩
    ·rw[h] at hid;cases hid
    ·rw[h5] at hid
     injection hid with hid
     injection hid with hid
     subst hid
     exact hlt h6
   rw[hk5' id (by omega),hk2 id this]
  obtain⟨ow2,H5,ha6,hA6⟩:=qeQ H4 1 8 (ps.map qar) [qar H2.length] ow (some none) hown5 (qfr ps) rfl (by rw[List.length_map,List.length_singleton];omega)
  have hw6:H5[w0]? = some (.box [.list (ps.map qar) ow,.ptr none]):=hA6.other hw5 (fun a b=>by intro e;cases e) hown5
  have hlw6:=hlt hw6
  have hl6:=hA6.len
  have hn6:H5[H2.length]? = some (nb e[i] (.list (e[i].binds.map qav) ob) (.list ((e[i].kids.map fun k=>ps.getD k.toNat 0).map qar) ok) (.list avs oa)):=hA6.other hn5 (fun a b=>by intro e;cases e) hown5
  have hold:∀ q o,q<H.length→H[q]? = some o→(∀ a b,o≠.tail a b)→H5[q]? = some o:=fun q o hq ho hn=>hA6.other (by rw[hk5' q (by omega),hk2 q hq];exact ho) hn hown5
  have hsnoc:(ps++[H2.length]).map qar=ps.map qar++[qar H2.length]:=by rw[List.map_append];rfl
  have hO':OJ e w0 (i+1) (H5.set w0 (.box [.list (ps.map qar++[qar H2.length]) ow2,.ptr none])) (ps++[H2.length]) ow2 (.ptr none):=by
   refine⟨by simp[hlen],by rw[hgs hlw6,hsnoc],?_,hA6.young (by omega) hO.young,?_,?_,?_⟩
   ·have:=hA6.owns
    rw[List.length_map,hlen,List.length_singleton] at this
    refine this.frame fun id hid=>hgn (fun ee=>?_)
    subst ee
    rcases hA6.young (b:=w0+1) (by omega) hO.young with h | ⟨t,h5,h6⟩
    ·rw[h] at hid;cases hid
    ·rw[h5] at hid
     injection hid with hid
     injection hid with hid
     omega
   ·refine List.nodup_append.2 ⟨hO.nodup,by simp,fun a ha c hc hac=>?_⟩
    rw[List.mem_singleton] at hc
    have:=(hlow a ha).2
    omega
   ·intro p hp
    rw[List.length_set]
    rcases List.mem_append.1 hp with hp | hp
    ·have:=hlow p hp
     exact⟨this.1,by omega⟩
    ·rw[List.mem_singleton.1 hp]
     have:=hlt hn6
     exact⟨by omega,this⟩
   ·intro k hk hkl
    rw[List.length_append,List.length_singleton] at hkl
    by_cases hki:k<i
    ·have hkp:k<ps.length:=by omega
     obtain⟨ob',ok',avs',oa',n1,n2⟩:=hnode k hk hkp
     refine⟨ob',ok',avs',oa',?_,n2⟩
     rw[List.getElem_append_left hkp]
     have hlp:=hlow ps[k] (List.getElem_mem _)
     rw[hgn (by omega),hold _ _ hlp.2 n1 (fun a b=>by intro e;cases e),qrO ps _ _ (fun q hq=>by have:=hA k hk q hq;omega)]
    ·have:k=i:=by omega
     subst this
     refine⟨ob,ok,avs,oa,?_,hra⟩
     rw[List.getElem_append_right (by omega)]
     simp only[hlen,Nat.sub_self,List.getElem_cons_zero]
     rw[hgn (by omega),hn6,qrO ps _ _ (fun q hq=>(hlook q hq).2)]
  obtain⟨r,hr0⟩:∃ r,qbc L.pure (call L) b [1000000,0,3,13,14,15] [1000000,0,3] qg5 ⟨kt [0,3,13,14,15] [.list (e.map qam) none,qar w0,.list (e.map qam) none,.int .i64 e.length,.int .i64 i],H⟩=r:=⟨_,rfl⟩
  have hr:=hr0
  generalize e[i]=x at *
  simp only[List.nil_append,List.length_nil,Nat.zero_add] at ha1 hA1
  have hln':H.length<H2.length:=by omega
  unfold qar nb qmh at *
  unfold qg5 at hr
  simp -implicitDefEqProofs only[ev_,aOp,opd,qaa,qay,qaB,qbd,qaA,qad,qab,qaf,qag,qaT,qaS,qai,qcj,qcK,leaf,qat,qaz,↓reduceIte,reduceCtorEq,Nat.reduceEqDiff,Nat.reduceAdd,Nat.reduceSub,Nat.reduceLeDiff,forall_const,forall_eq_or_imp,forall_eq,qa5,h1,h2,h3,ha1,ha6,hgl,hsl,hga,hln',hbx2,hbx3,g1,g2,hw5,hw6] at hr
  subst hr
  exact⟨_,hr0,_,_,ow2,rfl,hO',fun q hq=>by
   rw[hgn (by omega),hA6.keep q (by omega) (hO.young.ne (by omega)),hk5' q (by omega),hk2 q (by omega)]
   exact hke q hq⟩
 ·intro s hs
  obtain⟨H,ps,ow,rfl,hO,hke⟩:=hs
  have h0:=qaQ e.length
  refine⟨_,?_,H,ps,ow,rfl,hO,hke⟩
  unfold qg5
  simp -implicitDefEqProofs only[ev_,aOp,opd,qaa,qaB,qaA,qab,gcE,↓reduceIte,reduceCtorEq,Nat.reduceEqDiff,h0]
 ·exact⟨H0,[],some none,rfl,⟨rfl,hw,.inl rfl,.inl rfl,List.nodup_nil,fun p hp=>(by cases hp),fun k _ hk=>absurd hk (by simp)⟩,fun _ _=>rfl⟩
theorem qnT (hL:Plain L) (h293:L.fns 293=some fn293) (e:List CExpr) (hl:e.length<2 ^ 30) (hp:0<e.length) (hf:∀ x∈e,NodeFit x) (hA:qdr e) (h:Heap) :
  ∃ H ps ow,call L 293 [.list (e.map qam) none] h=some (.val (qar h.length),H)∧OJ e h.length e.length H ps ow (qar (ps.getD (e.length-1) 0))∧∀ q,q<h.length→H[q]? = h[q]? := by
 obtain⟨T,ht,H,ps,ow,rfl,hO,hke⟩:=qAN (L:=L) (b:=h.length+1) e hl hf hA h.length (h++[.box [.list [] (some none),.ptr none]]) (hgl rfl) (by simp)
 have hlen:=hO.len
 have hw:=hO.work
 have hlw:=hlt hw
 have hget:(ps.map qar)[e.length-1]? = some (qar (ps.getD (e.length-1) 0)):=by
  rw[List.getElem?_map,List.getD_eq_getElem?_getD,List.getElem?_eq_getElem (by omega)]
  rfl
 refine⟨H.set h.length (.box [.list (ps.map qar) ow,qar (ps.getD (e.length-1) 0)]),ps,ow,?_,?_,fun q hq=>?_⟩
 ·have w:IntKind.i64.wrap ((e.length:Int)-1)=((e.length-1:Nat):Int):=by rw[qcy (by omega) (by omega)];omega
  generalize ps.getD (e.length-1) 0=p at *
  refine qaL (hL.summ 293 (by rw[h293];simp)) h293 ?_
  unfold fn293
  unfold qar at *
  simp -implicitDefEqProofs only[ev_,aOp,opd,qaa,qay,qaB,qbd,qaA,qad,qab,qag,qaT,qai,qcj,leaf,qat,qan,qac,qae,qaj,↓reduceIte,reduceCtorEq,Nat.reduceEqDiff,Nat.reduceAdd,ht,hw,hget,w]
 ·refine⟨hlen,by rw[hgs hlw],?_,hO.young,hO.nodup,fun p hp=>by rw[List.length_set];exact hO.low p hp,fun k hk hi=>?_⟩
  ·refine hO.owns.frame fun id hid=>hgn (fun ee=>?_)
   subst ee
   exact hO.young.ne (by omega) hid
  ·obtain⟨ob,ok,avs,oa,n1,n2⟩:=hO.node k hk hi
   exact⟨ob,ok,avs,oa,by rw[hgn (by have:=hO.low ps[k] (List.getElem_mem _);omega)];exact n1,n2⟩
 ·rw[hgn (by omega),hke q hq,hga hq]
end
theorem RA.enc (l:List CAlt):RA l (l.map qas):=rfl
theorem RA.get {l:List CAlt} {v:List AVal} {j:Nat} (hj:j<l.length) (h:RA l v):∃ o,v[j]? = some (.agg [.int .i64 l[j].tag,.list (l[j].binds.map qav) o]):=⟨none,by rw[show v=_ from h,List.getElem?_map,List.getElem?_eq_getElem hj];rfl⟩
inductive WS (H:Heap) (S:Nat→Prop):CTree→Nat→Prop
 | mk (op n:Int) (binds:List Int) (kids:List CTree) (alts:List CAlt) (p:Nat) (ps:List Nat) (ob ok:Option (Option Nat)) (avs:List AVal) (oa:Option (Option Nat)) (hp:S p)
   (hbox:H[p]? = some (.box [.int .i64 op,.int .i64 n,.list (binds.map qav) ob,.list (ps.map qar) ok,.list avs oa])) (ha:RA alts avs) (hl:ps.length=kids.length)
   (hk:∀ (i:Nat) (hi:i<kids.length),WS H S kids[i] (ps[i]'(by omega))):WS H S (.mk op n binds kids alts) p
theorem WS.frame {H H':Heap} {S:Nat→Prop} {t:CTree} {p:Nat} (h:WS H S t p) (he:∀ i,S i→H'[i]? = H[i]?):WS H' S t p:=by
 induction h with
 | mk op n binds kids alts p ps ob ok avs oa hp hbox ha hl hk ih=>exact .mk op n binds kids alts p ps ob ok avs oa hp (by rw[he p hp];exact hbox) ha hl ih
theorem WS.mono {H:Heap} {S S':Nat→Prop} {t:CTree} {p:Nat} (h:WS H S t p) (hb:∀ i,S i→S' i):WS H S' t p:=by
 induction h with
 | mk op n binds kids alts p ps ob ok avs oa hp hbox ha hl hk ih=>exact .mk op n binds kids alts p ps ob ok avs oa (hb p hp) hbox ha hl ih
theorem WS.at_ {H:Heap} {S:Nat→Prop} {t:CTree} {p:Nat} (h:WS H S t p):S p:=by cases h;assumption
theorem WS.lt {H:Heap} {S:Nat→Prop} {t:CTree} {p:Nat} (h:WS H S t p):p<H.length:=by cases h;exact hlt (by assumption)
abbrev WT (H:Heap) (b:Nat) (t:CTree) (p:Nat):Prop:=WS H (fun i=>i<b) t p
theorem WT.frame {H H':Heap} {b:Nat} {t:CTree} {p:Nat} (h:WT H b t p) (he:∀ i,i<b→H'[i]? = H[i]?):WT H' b t p:=WS.frame h he
theorem WT.mono {H:Heap} {b b':Nat} {t:CTree} {p:Nat} (h:WT H b t p) (hb:b≤b'):WT H b' t p:=WS.mono h fun i hi=>Nat.lt_of_lt_of_le hi hb
def RT (H:Heap) (b:Nat) (t:CTree) (v:AVal):Prop:=v=qao t∨∃ p,v=qar p∧WT H b t p
theorem RT.frame {H H':Heap} {b:Nat} {t:CTree} {v:AVal} (h:RT H b t v) (he:∀ i,i<b→H'[i]? = H[i]?):RT H' b t v:=by
 rcases h with h | ⟨p,h1,h2⟩
 ·exact .inl h
 ·exact .inr ⟨p,h1,h2.frame he⟩
structure NodeV (H:Heap) (b:Nat) (op n:Int) (binds:List Int) (kids:List CTree) (alts:List CAlt) (v:AVal) (ob ok oa:Option (Option Nat)) (kvs avs:List AVal):Prop where
 at_:v=.vptr [.int .i64 op,.int .i64 n,.list (binds.map qav) ob,.list kvs ok,.list avs oa] 0∨∃ p,p<b∧v=.ptr (some (p,0))∧H[p]? = some (.box [.int .i64 op,.int .i64 n,.list (binds.map qav) ob,.list kvs ok,.list avs oa])
 len:kvs.length=kids.length
 kid:∀ (i:Nat) (hi:i<kids.length),∃ kv,kvs[i]? = some kv∧RT H b kids[i] kv∧acells kv=[kv]
 all:(kvs.all fun v=>decide ((acells v).length=1))=true
 alt:RA alts avs
theorem RT.node {H:Heap} {b:Nat} {op n:Int} {binds:List Int} {kids:List CTree} {alts:List CAlt} {v:AVal} (h:RT H b (.mk op n binds kids alts) v):∃ ob ok oa kvs avs,NodeV H b op n binds kids alts v ob ok oa kvs avs:=by
 rcases h with h | ⟨p,h1,h2⟩
 ·refine⟨none,none,none,kids.map qao,alts.map qas,.inl (by rw[h,qbj]),by simp,fun i hi=>⟨qao kids[i],by simp[hi],.inl rfl,qer _⟩,qos _,RA.enc _⟩
 ·cases h2 with
  | mk _ _ _ _ _ _ ps ob ok avs oa hp hbox ha hl hk =>
    exact⟨ob,ok,oa,ps.map qar,avs,.inr ⟨p,hp,h1,hbox⟩,by simpa using hl,fun i hi=>⟨qar (ps[i]'(by omega)),by simp[hl,hi],.inr ⟨_,rfl,hk i hi⟩,rfl⟩,qfr _,ha⟩
theorem qhM (kids:List CTree):∀ (j b:Nat) (hj:j<kids.length),qbt (kids.take (j+1)) b=qbt (kids.take j) b++qdY kids[j] (b+qaF (kids.take j))∧qbl (kids.take (j+1)) b=qbl (kids.take j) b++[((b+qaF (kids.take (j+1))-1:Nat):Int)]∧qaF (kids.take (j+1))=qaF (kids.take j)+qaJ kids[j]:=by
 induction kids with
 | nil=>intro j b hj;simp at hj
 | cons k ks ih =>
   intro j b hj
   cases j with
   | zero =>
     simp only[List.take_succ_cons,List.take_zero,List.getElem_cons_zero,qbt,qbl,qaF,List.append_nil,List.nil_append,Nat.add_zero,Nat.zero_add]
     exact⟨trivial,trivial,trivial⟩
   | succ j =>
     have hj':j<ks.length:=by simpa using hj
     obtain⟨h1,h2,h3⟩:=ih j (b+qaJ k) hj'
     simp only[List.take_succ_cons,List.getElem_cons_succ,qbt,qbl,qaF]
     rw[h1,h2,h3]
     refine⟨by rw[List.append_assoc,Nat.add_assoc],?_,by omega⟩
     rw[List.cons_append]
     congr 3
     omega
theorem qi6 (ks:List CTree) (b:Nat):(qbt ks b).length=qaF ks:=qix ks b
theorem qpF:∀ (ks:List CTree) (b:Nat),(qbl ks b).length=ks.length
 | [],b=>rfl
 | k::ks,b=>by rw[qbl,List.length_cons,List.length_cons,qpF ks]
def NewO (own own':Option (Option Nat)) (n:Nat):Prop:=own'=own∨∃ t,own'=some (some t)∧n≤t
theorem NewO.young {own own':Option (Option Nat)} {n b:Nat} (h:NewO own own' n) (hb:b≤n) (hy:Young b own):Young b own':=by
 rcases h with h | ⟨t,h,ht⟩
 ·rw[h];exact hy
 ·exact .inr ⟨t,h,by omega⟩
theorem NewO.mono {a b:Option (Option Nat)} {n m:Nat} (h:NewO a b m) (hn:n≤m):NewO a b n:=by
 rcases h with h | ⟨t,h,ht⟩
 ·exact .inl h
 ·exact .inr ⟨t,h,by omega⟩
theorem NewO.trans {o1 o2 o3:Option (Option Nat)} {n m:Nat} (h:NewO o1 o2 n) (h2:NewO o2 o3 m) (hn:n≤m):NewO o1 o3 n:=by
 rcases h2 with h2 | ⟨t,h2,ht⟩
 ·rw[h2];exact h
 ·exact .inr ⟨t,h2,by omega⟩
theorem NewO.ne {own own':Option (Option Nat)} {n i:Nat} (h:NewO own own' n) (hi:i<n) (hne:own≠some (some i)):own'≠some (some i):=by
 rcases h with h | ⟨t,h,ht⟩
 ·rw[h];exact hne
 ·rw[h];intro e;injection e with e;injection e with e;omega
theorem OwnT.ne {H:Heap} {own:Option (Option Nat)} {n sz i:Nat} {o:AObj} (h:OwnT H own n sz) (hi:H[i]? = some o) (ho:∀ a b,o≠.tail a b):own≠some (some i):=by
 intro e
 rcases h with h | ⟨t,h5,h6⟩
 ·rw[h] at e;cases e
 ·rw[h5] at e
  injection e with e
  injection e with e
  subst e
  rw[hi] at h6
  injection h6 with h6
  exact ho _ _ h6
theorem OwnT.keep {H H':Heap} {own o2:Option (Option Nat)} {n sz m sz':Nat} (h:OwnT H own n sz) (h2:OwnT H o2 m sz') (hs:sz≠sz') (hk:∀ i,(∃ a b,H[i]? = some (.tail a b))→o2≠some (some i)→H'[i]? = H[i]?):OwnT H' own n sz:=by
 refine h.frame fun id hid=>?_
 rcases h with h | ⟨t,h5,h6⟩
 ·rw[h] at hid;cases hid
 ·rw[h5] at hid
  injection hid with hid
  injection hid with hid
  subst hid
  refine hk t ⟨_,_,h6⟩ fun e=>?_
  rcases h2 with h | ⟨u,h7,h8⟩
  ·rw[h] at e;cases e
  ·rw[h7] at e
   injection e with e
   injection e with e
   subst e
   rw[h6] at h8
   injection h8 with h8
   injection h8 with h8 h9
   exact hs h9
theorem OwnT.set {H:Heap} {own:Option (Option Nat)} {n sz i:Nat} {o o':AObj} (h:OwnT H own n sz) (hi:H[i]? = some o) (ho:∀ a b,o≠.tail a b):OwnT (H.set i o') own n sz :=
 h.frame fun id hid=>hgn fun e=>by subst e;exact h.ne hi ho hid
section
variable {L:Lib} (hL:Plain L)
include hL
def LW (L:Lib) (t:CTree):Prop:=∀ (H:Heap) (b:Nat) (v:AVal) (outs:List CExpr) (own:Option (Option Nat)) (o a:Nat),RT H b t v→b≤H.length→b≤o→o≠a→b≤a→H[a]? = some (.box [.func 187 [] [qar a,qar o]])→H[o]? = some (.box [.list (outs.map qam) own])→OwnT H own outs.length 5→Young b own→outs.length+qaJ t<2 ^ 30 →
 ∃ H' own',call L 187 [v,qar a,qar o] H=some (.val (.int .i64 ((outs.length+qaJ t-1:Nat):Int)),H')∧H'[o]? = some (.box [.list ((outs++qdY t outs.length).map qam) own'])∧OwnT H' own' (outs++qdY t outs.length).length 5∧NewO own own' H.length ∧
  H.length≤H'.length∧∀ i,i<H.length→i≠o→own≠some (some i)→H'[i]? = H[i]?
def lx (op n:Int) (binds:List Int) (kv av:AVal):AObj:=.box [.int .i64 op,.int .i64 n,.list (binds.map qav) none,kv,av]
theorem qCz (hP:CPrims L qa6) {b:Nat} (op n:Int) (binds:List Int) (kv:AVal) (hkv:leaf kv=true) (alts:List CAlt) (hal:alts.length<2 ^ 30) (hab:∀ a∈alts,a.binds.length<2 ^ 30) (avs:List AVal) (oa:Option (Option Nat)) (hra:RA alts avs) (o X:Nat) (H:Heap)
  (hX:H[X]? = some (lx op n binds kv (.list [] (some none)))) :
  ∃ T,qba L.pure (call L) b [1000000,2,5,45,46,47] [1000000,2,5] 2 qgW
   ⟨kt [2,5,45,46,47] [qar o,qar X,.list avs oa,.int .i64 alts.length,.int .i64 0],H⟩=some (.normal,T) ∧
   ∃ H' ox,T=⟨kt [2,5] [qar o,qar X],H'⟩∧H'[X]? = some (lx op n binds kv (.list (alts.map qas) ox))∧H.length≤H'.length∧∀ q,q<H.length→q≠X→H'[q]? = H[q]? := by
 have hp:=hL.pure
 have hlX:=hlt hX
 refine qbQ (pure:=L.pure) (call:=call L) (b:=b) (id:=2) (body:=qgW)
  (fun j s=>∃ H' ox,s=⟨kt [2,5,45,46,47] [qar o,qar X,.list avs oa,.int .i64 alts.length,.int .i64 j],H'⟩∧H'[X]? = some (lx op n binds kv (.list ((alts.take j).map qas) ox))∧OwnT H' ox j 2∧Young H.length ox ∧
   H.length≤H'.length∧∀ q,q<H.length→q≠X→H'[q]? = H[q]?) alts.length _ ?_ ?_ ?_
 ·intro j s hj hs
  obtain⟨H',ox,rfl,hX',hown,hyo,hle,hkp⟩:=hs
  obtain⟨h1,h2,_⟩:=qaN qas alts hal j hj
  obtain⟨oj,h3⟩:=hra.get hj
  have hb:=hab alts[j] (List.getElem_mem hj)
  have hc:=fun h=>hP.clone alts[j].binds h hb
  have htake:(alts.take (j+1)).map qas=(alts.take j).map qas++[qas alts[j]]:=by
   rw[List.take_succ_eq_append_getElem hj,List.map_append];rfl
  have hlen:((alts.take j).map qas).length=j:=by simp;omega
  have hall:=qdF (alts.take j)
  simp only[htake]
  generalize alts[j]=a at *
  generalize (alts.take j).map qas=ks at *
  have hlX':=hlt hX'
  have hown1:OwnT (H'++[.box [.int .i64 a.tag,.list (a.binds.map qav) oj]]) ox ks.length 2:=by
   rw[hlen]
   exact hown.frame fun id hid=>hga (by
    rcases hown with h | ⟨t,h5,h6⟩
    ·rw[h] at hid;cases hid
    ·rw[h5] at hid
     injection hid with hid
     injection hid with hid
     subst hid
     exact hlt h6)
  obtain⟨ox2,H2,ha,hA⟩:=qeQ (H'++[.box [.int .i64 a.tag,.list (a.binds.map qav) oj]]) 2 32 ks [.agg [.int .i64 a.tag,.list (a.binds.map qav) none]] ox (some none) hown1 hall rfl (by rw[hlen,List.length_singleton];omega)
  rw[hlen,List.length_singleton] at hA
  have hX2:H2[X]? = some (lx op n binds kv (.list ks ox)):=hA.other (by rw[hga hlX'];exact hX') (fun a b=>by intro e;cases e) (by rw[hlen] at hown1;exact hown1)
  have hl2:=hlt hX2
  have hk2:=hA.len
  rw[List.length_append,List.length_singleton] at hk2
  obtain⟨r,hr0⟩:∃ r,qbc L.pure (call L) b [1000000,2,5,45,46,47] [1000000,2,5] qgW ⟨kt [2,5,45,46,47] [qar o,qar X,.list avs oa,.int .i64 alts.length,.int .i64 j],H'⟩=r:=⟨_,rfl⟩
  have hr:=hr0
  have hdI:=qah a.binds
  unfold qar lx at *
  unfold qgW at hr
  simp -implicitDefEqProofs only[ev_,aOp,opd,qaa,qay,qaB,qaA,qad,qab,qaf,qag,qaT,qaS,qai,qcj,qcK,leaf,qat,qaz,↓reduceIte,Nat.reduceEqDiff,Nat.reduceAdd,Nat.reduceLeDiff,qaw,h1,h2,h3,hc,ha,hX',hX2,hkv,hgl,hsl,hga,hlX',hdI,qal L hp,hp] at hr
  subst hr
  refine⟨_,hr0,_,ox2,rfl,by rw[hgs hl2];rfl,?_,hA.young (by simp;omega) hyo,by rw[List.length_set];omega,?_⟩
  ·refine hA.owns.frame fun id hid=>hgn (fun e=>?_)
   subst e
   rcases hA.owns with h | ⟨t,h5,h6⟩
   ·rw[h] at hid;cases hid
   ·rw[h5] at hid
    injection hid with hid
    injection hid with hid
    subst hid
    rw[hX2] at h6
    cases h6
  ·intro q hq hqp
   rw[hgn (fun e=>hqp e.symm),hA.keep q (by simp;omega) (hyo.ne hq),hga (by omega)]
   exact hkp q hq hqp
 ·intro s hs
  obtain⟨H',ox,rfl,hX',hown,hyo,hle,hkp⟩:=hs
  have h0:=qaQ alts.length
  rw[List.take_length] at hX'
  refine⟨_,?_,H',ox,rfl,hX',hle,hkp⟩
  unfold qgW
  simp -implicitDefEqProofs only[ev_,aOp,opd,qaa,qaB,qaA,qab,gcE,↓reduceIte,Nat.reduceEqDiff,h0]
 ·exact⟨H,some none,rfl,hX,.inl rfl,.inl rfl,Nat.le_refl _,fun _ _ _=>rfl⟩
end
section
variable {L:Lib}
theorem qCy {b:Nat} (op n:Int) (binds:List Int) (kids:List CTree) (hkl:kids.length<2 ^ 30) (kvs:List AVal) (okv:Option (Option Nat)) (base:Nat) (o a X:Nat) (v:AVal) (H:Heap) (outs:List CExpr) (own:Option (Option Nat))
  (hkid:∀ (i:Nat) (hi:i<kids.length),∃ kv,kvs[i]? = some kv∧RT H base kids[i] kv∧acells kv=[kv]) (hkvl:kvs.length=kids.length) (ih:∀ k∈kids,LW L k)
  (hbl:base≤H.length) (hbo:base≤o) (hoa:o≠a) (hba:base≤a) (ha:H[a]? = some (.box [.func 187 [] [qar a,qar o]])) (ho:H[o]? = some (.box [.list (outs.map qam) own])) (hown:OwnT H own outs.length 5) (hy:Young base own)
  (hX:H[X]? = some (lx op n binds (.list [] (some none)) (.list [] (some none)))) (hXo:X≠o) (hXa:X≠a) (hXb:base≤X) (hsz:outs.length+qaF kids<2 ^ 30) :
  ∃ T,qba L.pure (call L) b [1000000,0,1,2,5,27,28,29] [1000000,0,2,5] 0 qgV
   ⟨kt [0,1,2,5,27,28,29] [v,qar a,qar o,qar X,.list kvs okv,.int .i64 kids.length,.int .i64 0],H⟩=some (.normal,T) ∧
   ∃ H' own' ox,T=⟨kt [0,2,5] [v,qar o,qar X],H'⟩∧H'[X]? = some (lx op n binds (.list ((qbl kids outs.length).map qav) ox) (.list [] (some none)))∧H'[o]? = some (.box [.list ((outs++qbt kids outs.length).map qam) own'])∧OwnT H' own' (outs++qbt kids outs.length).length 5∧NewO own own' H.length ∧
    H.length≤H'.length∧∀ i,i<H.length→i≠o→i≠X→own≠some (some i)→H'[i]? = H[i]? := by
 have hlX:=hlt hX
 have hla:=hlt ha
 have hlo:=hlt ho
 have nt:∀ {cs:List AVal},∀ a b,AObj.box cs≠.tail a b:=fun a b e=>by cases e
 have hna:=hown.ne ha nt
 have hnX:=hown.ne hX nt
 refine qbQ (pure:=L.pure) (call:=call L) (b:=b) (id:=0) (body:=qgV)
  (fun j s=>∃ H' own' ox,s=⟨kt [0,1,2,5,27,28,29] [v,qar a,qar o,qar X,.list kvs okv,.int .i64 kids.length,.int .i64 j],H'⟩∧H'[X]? = some (lx op n binds (.list ((qbl (kids.take j) outs.length).map qav) ox) (.list [] (some none)))∧OwnT H' ox j 1 ∧
   H'[o]? = some (.box [.list ((outs++qbt (kids.take j) outs.length).map qam) own'])∧OwnT H' own' (outs++qbt (kids.take j) outs.length).length 5∧NewO own own' H.length∧Young H.length ox ∧
   H.length≤H'.length∧∀ i,i<H.length→i≠o→i≠X→own≠some (some i)→H'[i]? = H[i]?) kids.length _ ?_ ?_ ?_
 ·intro j s hj hs
  obtain⟨H',own',ox,rfl,hX',hownx,ho',hown',hy',hyx,hle,hkp⟩:=hs
  obtain⟨h1,h2,_⟩:=qaN qao kids hkl j hj
  obtain⟨kv,h3,hrt,hac⟩:=hkid j hj
  obtain⟨t1,t2,t3⟩:=qhM kids j outs.length hj
  have hts:qaF (kids.take (j+1))≤qaF kids:=by
   conv=>rhs;rw[← List.take_append_drop (j+1) kids]
   generalize kids.take (j+1)=pre
   induction pre with
   | nil=>rw[qaF];omega
   | cons q pre ih3=>rw[List.cons_append,qaF,qaF];omega
  have ha':H'[a]? = some (.box [.func 187 [] [qar a,qar o]]):=by rw[hkp a hla (fun e=>hoa e.symm) (fun e=>hXa e.symm) hna];exact ha
  have hrt':RT H' base kids[j] kv:=hrt.frame fun i hi=>hkp i (by omega) (by omega) (by omega) (hy.ne hi)
  have hll:(outs++qbt (kids.take j) outs.length).length=outs.length+qaF (kids.take j):=by rw[List.length_append,qi6]
  have hll':(outs++qbt (kids.take (j+1)) outs.length).length=outs.length+qaF (kids.take (j+1)):=by rw[List.length_append,qi6]
  have hrl:((qbl (kids.take j) outs.length).map qav).length=j:=by rw[List.length_map,qpF,List.length_take];omega
  have hci:=ih kids[j] (List.getElem_mem hj) H' base kv (outs++qbt (kids.take j) outs.length) own' o a hrt' (by omega) hbo hoa hba ha' ho' hown' (hy'.young hbl hy) (by omega)
  rw[hll] at hci
  have houts:outs++qbt (kids.take (j+1)) outs.length=(outs++qbt (kids.take j) outs.length)++qdY kids[j] (outs.length+qaF (kids.take j)):=by rw[t1,List.append_assoc]
  rw[← houts] at hci
  obtain⟨H2,own2,c1,c2,c3,c4,c5,c6⟩:=hci
  have hidx:outs.length+qaF (kids.take j)+qaJ kids[j]-1=outs.length+qaF (kids.take (j+1))-1:=by omega
  rw[hidx] at c1
  have hallr:=qfq (qbl (kids.take j) outs.length)
  have hsnoc:(qbl (kids.take (j+1)) outs.length).map qav=(qbl (kids.take j) outs.length).map qav++[.int .i64 ((outs.length+qaF (kids.take (j+1))-1:Nat):Int)]:=by rw[t2,List.map_append];rfl
  simp only[hsnoc]
  generalize outs.length+qaF (kids.take (j+1))-1=ix at *
  have hlX':=hlt hX'
  have hnX':=hown'.ne hX' nt
  have hX2:H2[X]? = some (lx op n binds (.list ((qbl (kids.take j) outs.length).map qav) ox) (.list [] (some none))):=by rw[c6 X hlX' hXo hnX'];exact hX'
  have hownx2:OwnT H2 ox ((qbl (kids.take j) outs.length).map qav).length 1:=by
   rw[hrl]
   exact hownx.keep hown' (by decide) fun i ⟨x,y,hi⟩ hne=>c6 i (hlt hi) (fun e=>by subst e;rw[ho'] at hi;cases hi) hne
  generalize (qbl (kids.take j) outs.length).map qav=ks at *
  obtain⟨ox3,H3,ha3,hA3⟩:=qeQ H2 1 8 ks [.int .i64 ix] ox (some none) hownx2 hallr rfl (by rw[hrl,List.length_singleton];omega)
  rw[hrl,List.length_singleton] at hA3
  rw[hrl] at hownx2
  have hX3:H3[X]? = some (lx op n binds (.list ks ox) (.list [] (some none))):=hA3.other hX2 (fun a b=>by intro e;cases e) hownx2
  have ho3:=hA3.other c2 (fun a b=>by intro e;cases e) hownx2
  have hlX3:=hlt hX3
  have h3l:=hA3.len
  obtain⟨r,hr0⟩:∃ r,qbc L.pure (call L) b [1000000,0,1,2,5,27,28,29] [1000000,0,2,5] qgV ⟨kt [0,1,2,5,27,28,29] [v,qar a,qar o,qar X,.list kvs okv,.int .i64 kids.length,.int .i64 j],H'⟩=r:=⟨_,rfl⟩
  have hr:=hr0
  unfold qar lx at *
  unfold qgV at hr
  simp -implicitDefEqProofs only[ev_,aOp,opd,qaa,qay,qaB,qaA,qad,qab,qaf,qag,qaT,qai,leaf,qat,qaz,↓reduceIte,reduceCtorEq,Nat.reduceEqDiff,Nat.reduceAdd,Nat.reduceSub,Nat.reduceLeDiff,forall_const,forall_eq_or_imp,forall_eq,h1,h2,h3,hac,ha',c1,ha3,hX',hX2,hX3] at hr
  subst hr
  refine⟨_,hr0,_,own2,ox3,rfl,by rw[hgs hlX3],hA3.owns.set hX3 nt,by rw[hgn hXo];exact ho3,?_,hy'.trans c4 hle,hA3.young (by omega) hyx,by rw[List.length_set];omega,?_⟩
  ·exact (c3.keep hownx2 (by decide) fun i ⟨x,y,hi⟩ hne=>hA3.keep i (hlt hi) hne).set hX3 nt
  ·intro i hi hio hiX hio2
   rw[hgn (fun e=>hiX e.symm),hA3.keep i (by omega) (hyx.ne hi),c6 i (by omega) hio (hy'.ne hi hio2)]
   exact hkp i hi hio hiX hio2
 ·intro s hs
  obtain⟨H',own',ox,rfl,hX',hownx,ho',hown',hy',hyx,hle,hkp⟩:=hs
  have h0:=qaQ kids.length
  rw[List.take_length] at hX' ho' hown'
  refine⟨_,?_,H',own',ox,rfl,hX',ho',hown',hy',hle,hkp⟩
  unfold qgV
  simp -implicitDefEqProofs only[ev_,aOp,opd,qaa,qaB,qaA,qab,gcE,↓reduceIte,reduceCtorEq,Nat.reduceEqDiff,h0]
 ·refine⟨H,own,some none,rfl,hX,.inl rfl,?_,?_,.inl rfl,.inl rfl,Nat.le_refl _,fun _ _ _ _ _=>rfl⟩
  ·rw[List.take_zero,qbt,List.append_nil];exact ho
  ·rw[List.take_zero,qbt,List.append_nil];exact hown
theorem qu8 (hL:Plain L) (hP:CPrims L qa6) (h187:L.fns 187=some fm187) (t:CTree) (hf:TFit t):LW L t:=by
 have hp:=hL.pure
 have hs:=hL.summ 187 (by rw[h187];simp)
 induction t using CTree.ind with
 | h op n binds kids alts ih =>
   intro H base v outs own o a hrt hbl hbo hoa hba ha ho hown hy hsz
   cases hf with
   | mk _ _ _ _ _ hb hk hal hfk =>
   have hbi:binds.length<2 ^ 30:=by rw[List.length_append] at hb;omega
   have hab:∀ x∈alts,x.binds.length<2 ^ 30:=fun x hx=>by
    have:=qib alts hx
    rw[List.length_append] at hb
    omega
   rw[qaJ] at hsz
   obtain⟨ob,ok,oa,kvs,avs,hN⟩:=hrt.node
   have hkvl:=hN.len
   have hc:=fun h=>hP.clone binds h hbi
   have hla:=hlt ha
   have hlo:=hlt ho
   have nt:∀ {cs:List AVal},∀ a b,AObj.box cs≠.tail a b:=fun a b e=>by cases e
   have hX:(H++[lx op n binds (.list [] (some none)) (.list [] (some none))])[H.length]? = some (lx op n binds (.list [] (some none)) (.list [] (some none))):=hgl rfl
   obtain⟨T1,g1,H1,own1,ox,rfl,hX1,ho1,hown1,hn1,hl1,hk1⟩:=qCy (L:=L) (b:=H.length+1) op n binds kids hk kvs ok base o a H.length v (H++[lx op n binds (.list [] (some none)) (.list [] (some none))]) outs own
    (fun i hi=>by
     obtain⟨kv,e1,e2,e3⟩:=hN.kid i hi
     exact⟨kv,e1,e2.frame fun q hq=>hga (by omega),e3⟩) hkvl (fun k hk=>ih k hk (hfk k hk)) (by simp;omega) hbo hoa hba (by rw[hga hla];exact ha) (by rw[hga hlo];exact ho)
    (hown.frame fun id hid=>hga (by
     rcases hown with h | ⟨t,h5,h6⟩
     ·rw[h] at hid;cases hid
     ·rw[h5] at hid
      injection hid with hid
      injection hid with hid
      subst hid
      exact hlt h6)) hy hX (by omega) (by omega) hbl (by omega)
   have hl1':H.length+1≤H1.length:=by simpa using hl1
   have hk1':∀ i,i<H.length→i≠o→own≠some (some i)→H1[i]? = H[i]? := fun i hi h1 h2=>by rw[hk1 i (by simp;omega) h1 (by omega) h2,hga hi]
   obtain⟨T2,g2,H2,ox2,rfl,hX2,hl2,hk2⟩:=qCz hL hP (b:=H1.length) op n binds (.list ((qbl kids outs.length).map qav) ox) rfl alts hal hab avs oa hN.alt o H.length H1 hX1
   have ho2:H2[o]? = some (.box [.list ((outs++qbt kids outs.length).map qam) own1]):=by rw[hk2 o (by omega) (by omega)];exact ho1
   have hown2:OwnT H2 own1 (outs++qbt kids outs.length).length 5:=hown1.frame fun id hid=>by
    rcases hown1 with h | ⟨t,h5,h6⟩
    ·rw[h] at hid;cases hid
    ·rw[h5] at hid
     injection hid with hid
     injection hid with hid
     subst hid
     exact hk2 t (hlt h6) (fun e=>by subst e;rw[hX1] at h6;cases h6)
   have hlt':qdY (.mk op n binds kids alts) outs.length=qbt kids outs.length++[⟨op,n,binds,qbl kids outs.length,alts⟩]:=by rw[qdY]
   have hll:(outs++qbt kids outs.length).length=outs.length+qaF kids:=by rw[List.length_append,qi6]
   have hall:=qtN (outs++qbt kids outs.length)
   have hlast:(outs++qdY (.mk op n binds kids alts) outs.length).map qam=(outs++qbt kids outs.length).map qam++[qam ⟨op,n,binds,qbl kids outs.length,alts⟩]:=by rw[hlt',← List.append_assoc,List.map_append];rfl
   have hlast2:(outs++qdY (.mk op n binds kids alts) outs.length).length=outs.length+qaF kids+1:=by rw[hlt',← List.append_assoc,List.length_append,hll];rfl
   rw[hlast,hlast2,qaJ]
   rw[hll] at hown2
   have hml:((outs++qbt kids outs.length).map qam).length=outs.length+qaF kids:=by rw[List.length_map,hll]
   generalize (outs++qbt kids outs.length).map qam=ms at *
   obtain⟨own3,H3,ha3,hA3⟩:=qeQ H2 5 88 ms [.agg [.int .i64 op,.int .i64 n,.list (binds.map qav) none,.list ((qbl kids outs.length).map qav) none,.list (alts.map qas) none]] own1 (some none) (by rw[hml];exact hown2) hall rfl (by rw[hml,List.length_singleton];omega)
   rw[hml,List.length_singleton] at hA3
   have ho3:=hA3.other ho2 nt hown2
   have hlo3:=hlt ho3
   have hl3:=hA3.len
   refine⟨H3.set o (.box [.list (ms++[qam ⟨op,n,binds,qbl kids outs.length,alts⟩]) own3]),own3,?_,by rw[hgs hlo3],hA3.owns.set ho3 nt,(hn1.mono (by simp)).trans hA3.new (by omega),by rw[List.length_set];omega,?_⟩
   ·refine qaL hs h187 ?_
    have hw:IntKind.i64.wrap (((ms.length+1:Nat):Int)-1)=((outs.length+(qaF kids+1)-1:Nat):Int):=by rw[hml,qcy (by omega) (by omega)];omega
    have hdI:=qah binds
    have hkl:((kvs.length:Nat):Int)=kids.length:=by rw[hkvl]
    have hal':((avs.length:Nat):Int)=alts.length:=by rw[hN.alt.len]
    generalize qbl kids outs.length=rs at *
    generalize outs.length+(qaF kids+1)-1=ix at *
    rcases hN.at_ with hv | ⟨p,hpb,hv,hbox⟩
    ·subst hv
     unfold qar lx at *
     unfold fm187
     simp -implicitDefEqProofs only[ev_,aOp,opd,qaa,qay,qaB,qbd,qaA,qab,qaf,qag,qaT,qaS,qai,qcj,qcK,leaf,qat,qan,qac,qae,qaj,qaz,↓reduceIte,reduceCtorEq,Nat.reduceEqDiff,Nat.reduceAdd,Nat.reduceSub,Nat.reduceLeDiff,forall_const,implies_true,qaw,qa5,hc,hgl,hsl,g1,hX1,g2,hX2,ho2,ha3,ho3,hgs,hlo3,hw,hdI,hkl,hal',qal L hp,hp]
    ·subst hv
     have hlp:=hlt hbox
     have hbox0:∀ l:Heap,(H++l)[p]? = H[p]? := fun l=>hga hlp
     have hbox1:=hk1' p hlp (by omega) (hy.ne hpb)
     rw[hbox] at hbox0 hbox1
     unfold qar lx at *
     unfold fm187
     simp -implicitDefEqProofs only[ev_,aOp,opd,qaa,qay,qaB,qbd,qaA,qab,qaf,qag,qaT,qaS,qai,qcj,qcK,leaf,qat,qan,qac,qae,qaj,qaz,↓reduceIte,reduceCtorEq,Nat.reduceEqDiff,Nat.reduceAdd,Nat.reduceSub,Nat.reduceLeDiff,forall_const,forall_eq_or_imp,forall_eq,qaw,qa5,hc,hgl,hsl,hbox,hbox0,hbox1,g1,hX1,g2,hX2,ho2,ha3,ho3,hgs,hlo3,hw,hdI,hkl,hal',qal L hp,hp]
   ·intro i hi hio hio2
    rw[hgn (fun e=>hio e.symm),hA3.keep i (by omega) (hn1.ne (by simp;omega) hio2),hk2 i (by omega) (by omega)]
    exact hk1' i hi hio hio2
theorem qnK (hL:Plain L) (hP:CPrims L qa6) (h187:L.fns 187=some fm187) (h159:L.fns 159=some fm159) (t:CTree) (hf:TFit t) (hsz:qaJ t<2 ^ 30) (H:Heap) (b:Nat) (hb:b≤H.length) (v:AVal) (hv:RT H b t v) :
  ∃ H' own,call L 159 [v] H=some (.val (.list ((qau t).map qam) own),H')∧H.length≤H'.length∧∀ i,i<H.length→H'[i]? = H[i]? := by
 have hw:=qu8 hL hP h187 t hf (H++[.box [.list [] (some none)],.box [.func 187 [] [qar (H.length+1),qar H.length]]]) b v [] (some none) H.length (H.length+1) (hv.frame fun i hi=>hga (by omega)) (by simp;omega) hb (by omega) (by omega) (qrF rfl) (hgl rfl) (.inl rfl) (.inl rfl) (by simpa using hsz)
 obtain⟨H',own',c1,c2,c3,c4,c5,c6⟩:=hw
 rw[List.nil_append,List.length_nil] at c2
 rw[List.nil_append,List.length_nil] at c3
 refine⟨H',own',?_,by simp at c5;omega,fun i hi=>by rw[c6 i (by simp;omega) (by omega) (by intro e;cases e),hga hi]⟩
 refine qaL (hL.summ 159 (by rw[h159];simp)) h159 ?_
 unfold qau
 unfold qar at *
 unfold fm159
 simp -implicitDefEqProofs only[ev_,aOp,opd,qaa,qay,qag,qaT,leaf,qat,qan,qac,qae,qaj,↓reduceIte,reduceCtorEq,Nat.reduceEqDiff,hgl,qrF,hsl,qB7,c1,c2]
theorem qxG (hL:Plain L) (hP:CPrims L qa6) (h187:L.fns 187=some fm187) (h159:L.fns 159=some fm159) (t:CTree) (hf:TFit t) (hsz:qaJ t<2 ^ 30) (h:Heap) :
  pcall L 159 [qao t] h=some (.val (.list ((qau t).map qam) none),h):=by
 obtain⟨H',own,c1,_,_⟩:=qnK hL hP h187 h159 t hf hsz [] 0 (Nat.le_refl _) (qao t) (.inl rfl)
 refine qcM c1 ?_ (by rw[qa3];exact qaI _) h
 unfold qf5
 rw[qjn,if_pos (by rw[qa3];exact qaI _)]
theorem qug (hL:Plain L) (hP:CPrims L qa6) (hM:MPrims L) (h187:L.fns 187=some fm187) (h159:L.fns 159=some fm159) (h160:L.fns 160=some fm160) (h316:L.fns 316=some fn316) (t:CTree) (hf:TFit t) (hsz:qaJ t<2 ^ 30) (hn:∀ x∈qau t,NodeFit x) (H:Heap) (b:Nat) (hb:b≤H.length) (p:Nat) (hv:WT H b t p) :
  ∃ H' q fp,call L 316 [qar p] H=some (.val (qar q),H')∧HT H' t q fp∧H.length≤H'.length∧H.length≤q∧∀ i,i<H.length→H'[i]? = H[i]? := by
 obtain⟨H1,own,c1,c2,c3⟩:=qnK hL hP h187 h159 t hf hsz H b hb (qar p) (.inr ⟨p,rfl,hv⟩)
 obtain⟨H2,q,fp,g1,g2,_,g4,g5,g6⟩:=qli hL hM h160 own (qau t) (by unfold qau;rw[qcv];exact hsz) hn (qgH t) H1
 rw[qb5] at g2
 have hq:H1.length<q:=g4 q (by cases g2;simp)
 refine⟨H2,q,fp,?_,g2,by omega,by omega,fun i hi=>by rw[g6 i (by omega),c3 i hi]⟩
 refine qaL (hL.summ 316 (by rw[h316];simp)) h316 ?_
 unfold qar at *
 unfold fn316
 simp -implicitDefEqProofs only[ev_,aOp,opd,qan,qac,qae,qaj,↓reduceIte,reduceCtorEq,c1,g1]
end
end Go.Abs
