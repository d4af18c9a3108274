/-
  PARTS OF A PROOF, joined: an abstract machine for quiet code, its evaluation, and what the seat's functions answer on it. Conditions: none.
-/
import Derived.Test.YtpchghpipgpkfaaDoorRwH
set_option linter.unusedVariables false
set_option linter.unusedSimpArgs false
set_option maxRecDepth 100000
set_option maxHeartbeats 4000000
namespace Go.Abs
mutual
def qdq (id:Int) (A:CTree):CTree→CTree
 | .mk op n binds kids alts=>if op=0∧n=id then A else .mk op n binds (qdD id A kids) alts
def qdD (id:Int) (A:CTree):List CTree→List CTree
 | []=>[]
 | k::ks=>qdq id A k::qdD id A ks
end
theorem qen (id:Int) (A:CTree):∀ ks:List CTree,qdD id A ks=ks.map (qdq id A)
 | []=>rfl
 | k::ks=>by rw[qdD,qen id A ks];rfl
theorem qsh {H H2:Heap} {S S':Nat→Prop} {id:Int} {A:CTree} {l:List Nat} (hA:∀ q∈l,WS H2 S' A q) (hk:∀ i,S i→i∉l→H2[i]? = H[i]?) (hS:∀ i,S i→S' i) (hv:∀ q∈l,qkl H id q) {body:CTree} {p:Nat} (hw:WS H S body p) :
  (∀ q,Reach H p q→qkl H id q→q∈l)→WS H2 S' (qdq id A body) p:=by
 induction hw with
 | mk op n binds kids alts p ps ob ok avs oa hp hbox ha hl hkk ih =>
   intro hcov
   rw[qdq]
   by_cases hc:op=0∧n=id
   ·rw[if_pos hc]
    obtain⟨rfl,rfl⟩:=hc
    exact hA p (hcov p (.refl p) ⟨_,_,_,hbox⟩)
   ·rw[if_neg hc,qen]
    have hnl:p∉l:=fun hm=>by
     obtain⟨c,k,a,e⟩:=hv p hm
     rw[hbox] at e
     simp at e
     exact hc ⟨e.1,e.2.1⟩
    refine .mk op n binds _ alts p ps ob ok avs oa (hS p hp) (by rw[hk p hp hnl];exact hbox) ha (by rw[List.length_map];exact hl) fun i hi=>?_
    rw[List.getElem_map]
    rw[List.length_map] at hi
    exact ih i hi fun q hq hvq=>hcov q (.step ⟨_,_,_,ps,ok,_,hbox,List.getElem_mem (by omega)⟩ hq) hvq
def qeb (rule:Int):CTree→Option CTree
 | .mk _ _ (id :: _) [.mk vo vn vb vk va,body] _ =>
   if rule=2∧qge (.mk vo vn vb vk va)=true then some (qdq id (.mk vo vn vb vk va) body)
   else if rule=3∧qhs id body=0∧qeF (.mk vo vn vb vk va)=true then some body
   else if rule=8∧vo=4 then some (qma (vb.getD 0 0) (vk.getD 0 .none) (qma id (vk.getD 1 .none) body))
   else if rule=9∧vo=7∧va.length=1 then some (.mk 7 0 [] [vk.getD 0 .none,qma id (vk.getD 1 .none) body] va)
   else if rule=11∧vo=2∧qhs id body=1 then some (qdq id (.mk vo vn vb vk va) body)
   else none
 | _=>none
theorem qdw (rule op n id:Int) (bs:List Int) (vo vn:Int) (vb:List Int) (vk:List CTree) (va:List CAlt) (body:CTree) (alts:List CAlt):qeb rule (.mk op n (id::bs) [.mk vo vn vb vk va,body] alts) =
  if rule=2∧qge (.mk vo vn vb vk va)=true then some (qdq id (.mk vo vn vb vk va) body)
  else if rule=3∧qhs id body=0∧qeF (.mk vo vn vb vk va)=true then some body
  else if rule=8∧vo=4 then some (qma (vb.getD 0 0) (vk.getD 0 .none) (qma id (vk.getD 1 .none) body))
  else if rule=9∧vo=7∧va.length=1 then some (.mk 7 0 [] [vk.getD 0 .none,qma id (vk.getD 1 .none) body] va)
  else if rule=11∧vo=2∧qhs id body=1 then some (qdq id (.mk vo vn vb vk va) body)
  else none:=rfl
theorem qmr {op n:Int} {binds:List Int} {kids:List CTree} {alts:List CAlt} (ha:qge (.mk op n binds kids alts)=true) (hs:qa2 op n binds.length kids.length alts=true):binds=[]∧kids=[]∧alts=[]:=by
 rw[qjW] at ha
 unfold qsw at ha
 simp only[Bool.or_eq_true,Bool.and_eq_true,beq_iff_eq] at ha
 have key:∀ r:Int × Int × Bool,kbu op n binds.length kids.length=some r→¬ (op=7∨op=13)→((kids.length:Int)==r.1)=true∧((binds.length:Int)==r.2.1)=true∧alts.length=0:=by
  intro r hr hno
  unfold qa2 at hs
  rw[if_neg hno,hr] at hs
  dsimp only at hs
  unfold qbN at hs
  simp only[Bool.and_eq_true,beq_iff_eq] at hs
  refine⟨by simp[hs.1.1.1],by simp[hs.1.1.2],by omega⟩
 rcases ha with rfl | rfl | ⟨rfl,hk⟩
 ·obtain⟨h1,h2,h3⟩:=key (0,0,true) rfl (by decide)
  simp only[beq_iff_eq] at h1 h2
  exact⟨List.length_eq_zero_iff.1 (by omega),List.length_eq_zero_iff.1 (by omega),List.length_eq_zero_iff.1 h3⟩
 ·obtain⟨h1,h2,h3⟩:=key (0,0,true) rfl (by decide)
  simp only[beq_iff_eq] at h1 h2
  exact⟨List.length_eq_zero_iff.1 (by omega),List.length_eq_zero_iff.1 (by omega),List.length_eq_zero_iff.1 h3⟩
 ·obtain⟨h1,h2,h3⟩:=key (kids.length,0,true) rfl (by decide)
  simp only[beq_iff_eq] at h2
  exact⟨List.length_eq_zero_iff.1 (by omega),List.length_eq_zero_iff.1 (by omega),List.length_eq_zero_iff.1 h3⟩
def qtB (H:Heap) (op n:Int) (q:Nat):Prop:=∃ a b c,H[q]? = some (.box [.int .i64 op,.int .i64 n,.list [] a,.list [] b,.list [] c])
section
variable {L:Lib} (hL:Plain L)
include hL
theorem quh (hP:CPrims L qa6) (hM:MPrims L) (h187:L.fns 187=some fm187) (h159:L.fns 159=some fm159) (h160:L.fns 160=some fm160) (h316:L.fns 316=some fn316) {bb:Nat} (vo vn:Int) (pv pb:Nat) (l:List Nat) (hl:l.length<2 ^ 30) (own:Option (Option Nat)) (H:Heap)
  (hv:qtB H vo vn pv) (hpl:pv∉l) (hll:∀ q∈l,∃ cs,H[q]? = some (.box cs)∧cs.length=5) :
  ∃ T,qba L.pure (call L) bb [1000000,5,6,39,40,41] [1000000,6] 1 qg7 ⟨kt [5,6,39,40,41] [.ptr (some (pv,0)),.ptr (some (pb,0)),.list (l.map qar) own,.int .i64 l.length,.int .i64 0],H⟩=some (.normal,T) ∧
   ∃ H',T=⟨kt [6] [.ptr (some (pb,0))],H'⟩∧(∀ q∈l,qtB H' vo vn q)∧H.length≤H'.length∧∀ i,i<H.length→i∉l→H'[i]? = H[i]? := by
 have hlpv:pv<H.length:=by
  obtain⟨a,b,c,e⟩:=hv
  exact hlt e
 refine qbQ (pure:=L.pure) (call:=call L) (b:=bb) (id:=1) (body:=qg7)
  (fun j s=>∃ H',s=⟨kt [5,6,39,40,41] [.ptr (some (pv,0)),.ptr (some (pb,0)),.list (l.map qar) own,.int .i64 l.length,.int .i64 j],H'⟩∧(∀ q∈l.take j,qtB H' vo vn q)∧(∀ q∈l,∃ cs,H'[q]? = some (.box cs)∧cs.length=5)∧H.length≤H'.length∧∀ i,i<H.length→i∉l→H'[i]? = H[i]?) l.length _ ?_ ?_ ?_
 ·intro j s hj hs
  obtain⟨H',rfl,hat,hbs,hle,hkp⟩:=hs
  obtain⟨h1,h2,_⟩:=qaN qar l hl j hj
  have h3:(l.map qar)[j]? = some (.ptr (some (l[j],0))):=by rw[List.getElem?_map,List.getElem?_eq_getElem hj];rfl
  obtain⟨a,b,c,e⟩:=hv
  have e':H'[pv]? = some (.box [.int .i64 vo,.int .i64 vn,.list [] a,.list [] b,.list [] c]):=by rw[hkp pv hlpv hpl];exact e
  have hw:WT H' H'.length (.mk vo vn [] [] []) pv:=qqL vo vn (hlt e') e'
  obtain⟨H2,q,fp,c1,c2,c3,c4,c5⟩:=qug hL hP hM h187 h159 h160 h316 (.mk vo vn [] [] []) (.mk _ _ _ _ _ (by simp) (by simp) (by simp) (fun k hk=>by cases hk)) (by rw[qaJ,qaF];decide) (by
   intro x hx
   unfold qau at hx
   rw[qdY] at hx
   simp only[qbt,qbl,List.nil_append,List.mem_singleton] at hx
   subst hx
   exact⟨by simp,by simp,by simp,fun a ha=>by cases ha⟩) H' H'.length (Nat.le_refl _) pv hw
  have hq:∃ a b c,H2[q]? = some (.box [.int .i64 vo,.int .i64 vn,.list [] a,.list [] b,.list [] c]):=by
   cases c2 with
   | mk _ _ _ _ _ _ bv fb ps ow fks avs oa fa hbox hb ha hl1 hl2 hk =>
     rcases hb with ⟨_,hb,_⟩ | ⟨hb,_⟩
     ·have hps:ps=[]:=List.length_eq_zero_iff.1 (by rw[hl1];rfl)
      obtain⟨hav,_⟩:=ha
      subst hb hps hav
      exact⟨_,_,_,hbox⟩
     ·exact absurd rfl hb
  obtain⟨qa,qb,qc,hq⟩:=hq
  obtain⟨cs,hx,hxl⟩:=hbs l[j] (List.getElem_mem hj)
  have hxl':=hlt hx
  have hx2:H2[l[j]]? = some (.box cs):=by rw[c5 _ hxl'];exact hx
  match cs,hxl with
  | [x0,x1,x2,x3,x4],_ =>
  have hxm:=List.getElem_mem hj
  have htake:l.take (j+1)=l.take j++[l[j]]:=List.take_succ_eq_append_getElem hj
  generalize l[j]=x at *
  obtain⟨r,hr0⟩:∃ r,qbc L.pure (call L) bb [1000000,5,6,39,40,41] [1000000,6] qg7 ⟨kt [5,6,39,40,41] [.ptr (some (pv,0)),.ptr (some (pb,0)),.list (l.map qar) own,.int .i64 l.length,.int .i64 j],H'⟩=r:=⟨_,rfl⟩
  have hr:=hr0
  rw[show qar pv=.ptr (some (pv,0)) from rfl,show qar q=.ptr (some (q,0)) from rfl] at c1
  unfold qg7 at hr
  simp -implicitDefEqProofs only[ev_,aOp,opd,qaa,qay,qaB,qaA,qad,qab,qag,qaT,qaS,leaf,qat,↓reduceIte,Nat.reduceEqDiff,Nat.reduceAdd,h1,h2,h3,c1,hq,hx2] at hr
  subst hr
  have hlx2:=hlt hx2
  refine⟨_,hr0,_,rfl,?_,?_,by rw[List.length_set];omega,?_⟩
  ·intro y hy
   rw[htake] at hy
   by_cases hyx:y=x
   ·subst hyx
    exact⟨_,_,_,hgs hlx2⟩
   ·rcases List.mem_append.1 hy with hy | hy
    ·obtain⟨ya,yb,yc,ye⟩:=hat y hy
     exact⟨ya,yb,yc,by rw[hgn (fun e=>hyx e.symm),c5 _ (hlt ye)];exact ye⟩
    ·exact absurd (List.mem_singleton.1 hy) hyx
  ·intro y hy
   by_cases hyx:y=x
   ·subst hyx
    exact⟨_,hgs hlx2,rfl⟩
   ·obtain⟨cs,ye,yl⟩:=hbs y hy
    exact⟨cs,by rw[hgn (fun e=>hyx e.symm),c5 _ (hlt ye)];exact ye,yl⟩
  ·intro i hi hil
   rw[hgn (fun e=>hil (by subst e;exact hxm)),c5 i (by omega)]
   exact hkp i hi hil
 ·intro s hs
  obtain⟨H',rfl,hat,hbs,hle,hkp⟩:=hs
  have h0:=qaQ l.length
  rw[List.take_length] at hat
  refine⟨_,?_,H',rfl,hat,hle,hkp⟩
  unfold qg7
  simp -implicitDefEqProofs only[ev_,aOp,opd,qaa,qaB,qaA,qab,gcE,↓reduceIte,Nat.reduceEqDiff,h0]
 ·exact⟨H,rfl,fun q hq=>(by simp at hq),hll,Nat.le_refl _,fun _ _ _=>rfl⟩
end
theorem WS.toT {H:Heap} {S:Nat→Prop} {t:CTree} {p:Nat} (h:WS H S t p):WT H H.length t p:=by
 induction h with
 | mk op n binds kids alts p ps ob ok avs oa hp hbox ha hl hk ih=>exact .mk op n binds kids alts p ps ob ok avs oa (hlt hbox) hbox ha hl ih
theorem qhL {α:Type} {l:List α} (h:l.length=2):∃ a b,l=[a,b]:=by
 match l,h with
 | [a,b],_=>exact⟨a,b,rfl⟩
theorem qhK {α:Type} {l:List α} (h:l.length=1):∃ a,l=[a]:=by
 match l,h with
 | [a],_=>exact⟨a,rfl⟩
theorem WS.old {H:Heap} {S:Nat→Prop} {t:CTree} {p:Nat} (h:WS H S t p):WS H (fun i=>S i∧i<H.length) t p:=by
 induction h with
 | mk op n binds kids alts p ps ob ok avs oa hp hbox ha hl hk ih=>exact .mk op n binds kids alts p ps ob ok avs oa ⟨hp,hlt hbox⟩ hbox ha hl ih
theorem WS.reach {H:Heap} {S:Nat→Prop} {t:CTree} {p:Nat} (h:WS H S t p):∀ {q:Nat},Reach H p q→S q∧∃ cs,H[q]? = some (.box cs)∧cs.length=5:=by
 induction h with
 | mk op n binds kids alts p ps ob ok avs oa hp hbox ha hl hk ih =>
   intro q hq
   cases hq with
   | refl=>exact⟨hp,_,hbox,rfl⟩
   | step h hq' =>
     obtain⟨a',b',c',ps',ok',d',e1,e2⟩:=h
     rw[hbox] at e1
     injection e1 with e1
     injection e1 with e1
     simp only[List.cons.injEq,AVal.list.injEq] at e1
     obtain⟨_,_,_,⟨e3,_⟩,_⟩:=e1
     have:=qkg e3
     subst this
     obtain⟨i,hi,rfl⟩:=List.getElem_of_mem e2
     exact ih i (by omega) hq'
theorem qiN {L:Lib} {f:Nat} {t:CTree} {b:Bool} (hc:∀ h:Heap,pcall L f [qao t] h=some (.val (.bool b),h)) {H:Heap} {S:Nat→Prop} {p:Nat} (hw:WS H S t p) (hh:hgt t≤900):qgI (call L) f [.ptr (some (p,0))] H=some (.val (.bool b),H) :=
 qdE (by rw[List.map_cons,List.map_nil,hw.lookV hh]) (by rw[qax,qbY];rfl) rfl (hc H)
section
variable {L:Lib} (hL:Plain L)
include hL
theorem qmL (hP:CPrims L qa6) (hM:MPrims L) (h187:L.fns 187=some fm187) (h159:L.fns 159=some fm159) (h160:L.fns 160=some fm160) (h316:L.fns 316=some fn316) (h313:L.fns 313=some fn313) (h314:L.fns 314=some fn314) (h315:L.fns 315=some fn315) (h317:L.fns 317=some fn317) (h298:L.fns 298=some fn298)
  (rule n id:Int) (v body:CTree) (alts:List CAlt) (hfv:TFit v) (hsv:ShT v) (hhv:hgt v≤900) (hfb:TFit body) (hsb:ShT body) (hzb:qaJ body<2 ^ 30) (H:Heap) (Sv Sb:Nat→Prop) (p pv pb:Nat) (ob ok oa:Option (Option Nat)) (avs:List AVal)
  (hbox:H[p]? = some (.box [.int .i64 4,.int .i64 n,.list [.int .i64 id] ob,.list [qar pv,qar pb] ok,.list avs oa])) (wv:WS H Sv v pv) (wb:WS H Sb body pb) (hdis:∀ q,Reach H pb q→¬ Sv q) :
  ∃ H' r,call L 298 [.int .i64 rule,.ptr (some (p,0))] H=some (.val r,H')∧qjQ H' (fun i=>Sv i∨Sb i) H.length (qeb rule (.mk 4 n [id] [v,body] alts)) r∧H.length≤H'.length∧∀ i,i<H.length→¬ (qkl H id i∧Reach H pb i)→H'[i]? = H[i]? := by
 have hs:=hL.summ 298 (by rw[h298];simp)
 have hlp:=hlt hbox
 obtain⟨H1,l,own,c1,c2,c3,c4,c5,c6⟩:=qB3 hL h314 id body hfb hsb hzb H H H.length pb wb.toT (Nat.le_refl _) (fun _ _=>rfl)
 have hll:l.length<2 ^ 30:=by have:=qvj id body;omega
 have wv1:=wv.frame' c6
 have wb1:=wb.frame' c6
 have hbox1:H1[p]? = some (.box [.int .i64 4,.int .i64 n,.list [.int .i64 id] ob,.list [.ptr (some (pv,0)),.ptr (some (pb,0))] ok,.list avs oa]):=by rw[c6 p hlp];exact hbox
 have hbox0:H[p]? = some (.box [.int .i64 4,.int .i64 n,.list [.int .i64 id] ob,.list [.ptr (some (pv,0)),.ptr (some (pb,0))] ok,.list avs oa]):=hbox
 have hv15:=qiN (qql hL h315 v) wv1 hhv
 have hv17:=qiN (qiM hL h315 h317 v hfv hsv) wv1 hhv
 have hfr:∀ i,i<H.length→¬ (qkl H id i∧Reach H pb i)→i∉l:=fun i hi hn hm=>hn ⟨(c3 i hm).1,(c3 i hm).2.1⟩
 have c1':call L 314 [.ptr (some (pb,0)),.int .i64 id] H=some (.val (.list (l.map qar) own),H1):=c1
 have wv0:=wv
 have wb0:=wb
 obtain⟨vo,vn,vb,vk,va⟩:=v
 have hlen:((l.length:Nat):Int)=(qhs id body:Int):=by rw[c2]
 rw[qdw]
 have done:∀ {X:Option CTree},X=none→call L 298 [.int .i64 rule,.ptr (some (p,0))] H=some (.val (.ptr none),H1)→∃ H' r,call L 298 [.int .i64 rule,.ptr (some (p,0))] H=some (.val r,H')∧qjQ H' (fun i=>Sv i∨Sb i) H.length X r∧H.length≤H'.length∧∀ i,i<H.length→¬ (qkl H id i∧Reach H pb i)→H'[i]? = H[i]? := by
  intro X hX hc
  subst hX
  exact⟨H1,.ptr none,hc,rfl,c5,fun i hi _=>c6 i hi⟩
 have hvbox:=wv1
 cases hvbox with
 | mk _ _ _ _ _ _ psv obv okv avsv oav hpSv hboxv hav hlv hkv =>
 cases hsv with
 | mk _ _ _ _ _ hshv hshk =>
 by_cases h2:rule=2
 ·subst h2
  cases hat:qge (.mk vo vn vb vk va) with
  | true =>
    rw[hat] at hv15
    rw[if_pos ⟨rfl,rfl⟩]
    obtain⟨eb,ek,ea⟩:=qmr hat hshv
    subst eb ek ea
    have hps:psv=[]:=List.length_eq_zero_iff.1 (by rw[hlv];rfl)
    subst hps
    have hav':avsv=[]:=hav
    subst hav'
    have hpl:pv∉l:=fun hm=>hdis pv (c3 pv hm).2.1 wv0.at_
    obtain⟨T,g1,H2,rfl,g2,g3,g4⟩:=quh hL hP hM h187 h159 h160 h316 (bb:=H1.length) vo vn pv pb l hll own H1 ⟨_,_,_,hboxv⟩ hpl (fun q hq=>by
     obtain⟨cs,e1,e2⟩:=(wb0.reach (c3 q hq).2.1).2
     exact⟨cs,by rw[c6 q (c3 q hq).2.2];exact e1,e2⟩)
    refine⟨H2,.ptr (some (pb,0)),qaL hs h298 ?_,⟨pb,rfl,?_⟩,by omega,fun i hi hn=>by rw[g4 i (by omega) (hfr i hi hn),c6 i hi]⟩
    ·unfold fn298
     simp -implicitDefEqProofs only[ev_,aOp,opd,qaa,qaB,qbd,qaA,qad,qab,qaf,qag,qai,qan,qac,qae,qaj,qaz,↓reduceIte,reduceCtorEq,Nat.reduceEqDiff,Int.reduceToNat,Int.reduceLE,Int.le_refl,hbox0,hbox1,c1',hv15,g1]
    ·refine qsh (S:=fun i=>Sb i∧i<H.length) (l:=l) (fun q hq=>?_) (fun i hi hil=>by rw[g4 i (by omega) hil,c6 i hi.2]) (fun i hi=>.inl (.inr hi.1)) (fun q hq=>(c3 q hq).1) wb0.old c4
     obtain⟨a,b,c,e⟩:=g2 q hq
     exact qqL vo vn (.inl (.inr (wb0.reach (c3 q hq).2.1).1)) e
  | false =>
    rw[hat] at hv15
    refine done (by simp) (qaL hs h298 ?_)
    unfold fn298
    simp -implicitDefEqProofs only[ev_,aOp,opd,qaa,qaB,qaA,qad,qab,qaf,qag,qai,qan,qac,qae,qaj,qaz,↓reduceIte,reduceCtorEq,Nat.reduceEqDiff,Int.reduceToNat,Int.reduceLE,Int.reduceBEq,Int.le_refl,hbox0,hbox1,c1',hv15]
 have h2':(rule==2)=false:=by simpa using h2
 rw[if_neg (fun h=>h2 h.1)]
 by_cases h3:rule=3
 ·subst h3
  by_cases hz:qhs id body=0
  ·have hz':((l.length:Int)==0)=true:=by rw[hlen,hz];rfl
   cases hval:qeF (.mk vo vn vb vk va) with
   | true =>
     rw[hval] at hv17
     rw[if_pos ⟨rfl,hz,rfl⟩]
     refine⟨H1,.ptr (some (pb,0)),qaL hs h298 ?_,⟨pb,rfl,wb1.mono fun i hi=>.inl (.inr hi)⟩,c5,fun i hi _=>c6 i hi⟩
     unfold fn298
     simp -implicitDefEqProofs only[ev_,aOp,opd,qaa,qaB,qbd,qaA,qad,qab,qaf,qag,qai,qan,qac,qae,qaj,qaz,↓reduceIte,reduceCtorEq,Nat.reduceEqDiff,Int.reduceToNat,Int.reduceLE,Int.reduceBEq,Int.le_refl,hbox0,hbox1,c1',hv17,hz',List.length_map]
   | false =>
     rw[hval] at hv17
     refine done (by simp) (qaL hs h298 ?_)
     unfold fn298
     simp -implicitDefEqProofs only[ev_,aOp,opd,qaa,qaB,qbd,qaA,qad,qab,qaf,qag,qai,qan,qac,qae,qaj,qaz,↓reduceIte,reduceCtorEq,Nat.reduceEqDiff,Int.reduceToNat,Int.reduceLE,Int.reduceBEq,Int.le_refl,hbox0,hbox1,c1',hv17,hz',List.length_map]
  ·have hz':((l.length:Int)==0)=false:=by rw[hlen];simpa using hz
   refine done (by simp[hz]) (qaL hs h298 ?_)
   unfold fn298
   simp -implicitDefEqProofs only[ev_,aOp,opd,qaa,qaB,qbd,qaA,qad,qab,qaf,qag,qai,qan,qac,qae,qaj,qaz,↓reduceIte,reduceCtorEq,Nat.reduceEqDiff,Int.reduceToNat,Int.reduceLE,Int.reduceBEq,Int.le_refl,hbox0,hbox1,c1',hz',List.length_map]
 have h3':(rule==3)=false:=by simpa using h3
 rw[if_neg (fun h=>h3 h.1)]
 by_cases h8:rule=8
 ·subst h8
  by_cases ho:vo=4
  ·subst ho
   rw[if_pos ⟨rfl,rfl⟩]
   obtain⟨sk,sb,_,_⟩:=qcE hshv rfl
   obtain⟨k0,k1,rfl⟩:=qhL sk
   obtain⟨vid,rfl⟩:=qhK sb
   obtain⟨p0,p1,rfl,w0,w1⟩:=qAy hlv hkv
   have hbv:H1[pv]? = some (.box [.int .i64 4,.int .i64 vn,.list [.int .i64 vid] obv,.list [.ptr (some (p0,0)),.ptr (some (p1,0))] okv,.list avsv oav]):=hboxv
   have hl1:=qo6 hL h313 id p1 pb H1
   have hl2:=qo6 hL h313 vid p0 H1.length (H1++[qkd id p1 pb])
   have hbv2:(H1++[qkd id p1 pb])[pv]? = some (.box [.int .i64 4,.int .i64 vn,.list [.int .i64 vid] obv,.list [.ptr (some (p0,0)),.ptr (some (p1,0))] okv,.list avsv oav]):=by rw[hga (hlt hbv)];exact hbv
   have hfr2:∀ i,i<H1.length→((H1++[qkd id p1 pb])++[qkd vid p0 H1.length])[i]? = H1[i]? := fun i hi=>by rw[hga (by simp;omega),hga hi]
   refine⟨(H1++[qkd id p1 pb])++[qkd vid p0 H1.length],.ptr (some (H1.length+1,0)),qaL hs h298 ?_,⟨_,rfl,?_⟩,by simp;omega,fun i hi _=>by rw[hfr2 i (by omega),c6 i hi]⟩
   ·rw[List.length_append,List.length_singleton] at hl2
    generalize H1++[qkd id p1 pb]=H2 at *
    unfold fn298
    simp -implicitDefEqProofs only[ev_,aOp,opd,qaa,qaB,qaA,qad,qab,qaf,qag,qai,qan,qac,qae,qaj,qaz,↓reduceIte,reduceCtorEq,Nat.reduceEqDiff,Nat.reduceAdd,Nat.reduceSub,Int.reduceToNat,Int.reduceLE,forall_const,implies_true,forall_eq_or_imp,forall_eq,Int.reduceBEq,Int.le_refl,hbox0,hbox1,c1',hbv,hbv2,hl1,hl2]
   ·refine qrT (id:=vid) (x:=H1.length+1) (p:=p0) (q:=H1.length) (by rw[List.getElem?_append_right (by simp)];simp) (.inr (by omega)) ((w0.frame' hfr2).mono fun i hi=>.inl (.inl hi)) ?_
    refine qrT (id:=id) (x:=H1.length) (p:=p1) (q:=pb) (by rw[hga (by simp),hgl rfl]) (.inr (by omega)) ((w1.frame' hfr2).mono fun i hi=>.inl (.inl hi)) ((wb1.frame' hfr2).mono fun i hi=>.inl (.inr hi))
  ·have ho':(vo==4)=false:=by simpa using ho
   refine done (by simp[ho]) (qaL hs h298 ?_)
   unfold fn298
   simp -implicitDefEqProofs only[ev_,aOp,opd,qaa,qaB,qaA,qad,qab,qaf,qag,qai,qan,qac,qae,qaj,qaz,↓reduceIte,reduceCtorEq,Nat.reduceEqDiff,Int.reduceToNat,Int.reduceLE,Int.reduceBEq,Int.le_refl,hbox0,hbox1,c1',hboxv,ho']
 have h8':(rule==8)=false:=by simpa using h8
 rw[if_neg (fun h=>h8 h.1)]
 by_cases h9:rule=9
 ·subst h9
  by_cases ho:vo=7
  ·subst ho
   have havl:((avsv.length:Nat):Int)=va.length:=by rw[hav.len]
   by_cases hone:va.length=1
   ·have hone':(((va.length:Nat):Int)==1)=true:=by rw[hone];rfl
    rw[if_pos ⟨rfl,rfl,hone⟩]
    have sk:=(qdC hshv).1 (.inl rfl)
    rw[hone] at sk
    obtain⟨k0,k1,rfl⟩:=qhL sk
    obtain⟨p0,p1,rfl,w0,w1⟩:=qAy hlv hkv
    have hbv:H1[pv]? = some (.box [.int .i64 7,.int .i64 vn,.list (vb.map qav) obv,.list [.ptr (some (p0,0)),.ptr (some (p1,0))] okv,.list avsv oav]):=hboxv
    have hl1:=qo6 hL h313 id p1 pb H1
    have hbv2:(H1++[qkd id p1 pb])[pv]? = some (.box [.int .i64 7,.int .i64 vn,.list (vb.map qav) obv,.list [.ptr (some (p0,0)),.ptr (some (p1,0))] okv,.list avsv oav]):=by rw[hga (hlt hbv)];exact hbv
    have hfr2:∀ o:AObj,∀ i,i<H1.length→((H1++[qkd id p1 pb])++[o])[i]? = H1[i]? := fun o i hi=>by rw[hga (by simp;omega),hga hi]
    refine⟨(H1++[qkd id p1 pb])++[.box [.int .i64 7,.int .i64 0,.list [] (some none),.list [.ptr (some (p0,0)),.ptr (some (H1.length,0))] (some none),.list avsv oav]],.ptr (some (H1.length+1,0)),qaL hs h298 ?_,⟨_,rfl,?_⟩,by simp;omega,fun i hi _=>by rw[hfr2 _ i (by omega),c6 i hi]⟩
    ·have hl2:(H1++[qkd id p1 pb]).length=H1.length+1:=by simp
     generalize H1++[qkd id p1 pb]=H2 at *
     unfold fn298
     simp -implicitDefEqProofs only[ev_,aOp,opd,qaa,qaB,qbd,qaA,qad,qab,qaf,qag,qai,qcj,qcK,leaf,qat,qan,qac,qae,qaj,qaz,↓reduceIte,reduceCtorEq,Nat.reduceEqDiff,Nat.reduceAdd,Nat.reduceSub,Nat.reduceLeDiff,Int.reduceToNat,Int.reduceLE,forall_const,implies_true,forall_eq_or_imp,forall_eq,Int.reduceBEq,Int.le_refl,hbox0,hbox1,c1',hbv,hbv2,hl1,hl2,havl,hone']
    ·refine .mk 7 0 [] [_,_] va _ [p0,H1.length] (some none) (some none) avsv oav (.inr (by omega)) (by rw[List.getElem?_append_right (by simp)];simp[qar]) hav rfl fun i hi=>?_
     match i,hi with
     | 0,_=>exact (w0.frame' (hfr2 _)).mono fun i hi=>.inl (.inl hi)
     | 1,_=>exact qrT (id:=id) (x:=H1.length) (p:=p1) (q:=pb) (by rw[hga (by simp),hgl rfl]) (.inr (by omega)) ((w1.frame' (hfr2 _)).mono fun i hi=>.inl (.inl hi)) ((wb1.frame' (hfr2 _)).mono fun i hi=>.inl (.inr hi))
   ·have hone':(((va.length:Nat):Int)==1)=false:=by simp;omega
    refine done (by simp[hone]) (qaL hs h298 ?_)
    unfold fn298
    simp -implicitDefEqProofs only[ev_,aOp,opd,qaa,qaB,qbd,qaA,qad,qab,qaf,qag,qai,qan,qac,qae,qaj,qaz,↓reduceIte,reduceCtorEq,Nat.reduceEqDiff,Int.reduceToNat,Int.reduceLE,Int.reduceBEq,Int.le_refl,hbox0,hbox1,c1',hboxv,havl,hone']
  ·have ho':(vo==7)=false:=by simpa using ho
   refine done (by simp[ho]) (qaL hs h298 ?_)
   unfold fn298
   simp -implicitDefEqProofs only[ev_,aOp,opd,qaa,qaB,qaA,qad,qab,qaf,qag,qai,qan,qac,qae,qaj,qaz,↓reduceIte,reduceCtorEq,Nat.reduceEqDiff,Int.reduceToNat,Int.reduceLE,Int.reduceBEq,Int.le_refl,hbox0,hbox1,c1',hboxv,ho']
 have h9':(rule==9)=false:=by simpa using h9
 rw[if_neg (fun h=>h9 h.1)]
 by_cases h11:rule=11
 ·subst h11
  by_cases ho:vo=2
  ·subst ho
   by_cases hone:qhs id body=1
   ·have hone':((l.length:Int)==1)=true:=by rw[hlen,hone];rfl
    rw[if_pos ⟨rfl,rfl,hone⟩]
    match l,(by rw[c2,hone]:l.length=1),c3,c4,c1',hone',hfr with
    | [q0],_,c3,c4,c1',hone',hfr =>
    obtain⟨q1,q2,q3⟩:=c3 q0 (by simp)
    obtain⟨cs,hq0,hq0l⟩:=(wb0.reach q2).2
    have hq01:H1[q0]? = some (.box cs):=by rw[c6 q0 q3];exact hq0
    match cs,hq0l with
    | [x0,x1,x2,x3,x4],_ =>
    have hl1:=hlt hq01
    have hnv:¬ Sv q0:=hdis q0 q2
    have wv2:WS (H1.set q0 (.box [.int .i64 2,.int .i64 vn,.list (vb.map qav) obv,.list (psv.map qar) okv,.list avsv oav])) (fun i=>Sv i) (.mk 2 vn vb vk va) pv:=wv1.frame fun i hi=>hgn fun e=>hnv (by rw[e];exact hi)
    refine⟨H1.set q0 (.box [.int .i64 2,.int .i64 vn,.list (vb.map qav) obv,.list (psv.map qar) okv,.list avsv oav]),.ptr (some (pb,0)),qaL hs h298 ?_,⟨pb,rfl,?_⟩,by rw[List.length_set];exact c5,fun i hi hn=>by rw[hgn (fun e=>hfr i hi hn (by rw[e];simp)),c6 i hi]⟩
    ·have c1'':call L 314 [.ptr (some (pb,0)),.int .i64 id] H=some (.val (.list [.ptr (some (q0,0))] own),H1):=c1'
     unfold fn298
     simp -implicitDefEqProofs only[ev_,aOp,opd,qaa,qay,qaB,qbd,qaA,qad,qab,qaf,qag,qaT,qaS,qai,leaf,qat,qan,qac,qae,qaj,qaz,↓reduceIte,reduceCtorEq,Nat.reduceEqDiff,Nat.reduceAdd,Int.reduceToNat,Int.reduceLE,Int.reduceBEq,Int.le_refl,hbox0,hbox1,c1'',hboxv,hq01]
    ·refine qsh (S:=fun i=>Sb i∧i<H.length) (l:=[q0]) (fun q hq=>?_) (fun i hi hil=>by rw[hgn (fun e=>hil (by rw[e];simp)),c6 i hi.2]) (fun i hi=>.inl (.inr hi.1)) (fun q hq=>(c3 q hq).1) wb0.old c4
     rw[List.mem_singleton.1 hq]
     refine .mk 2 vn vb vk va q0 psv obv okv avsv oav (.inl (.inr (wb0.reach q2).1)) (hgs hl1) hav hlv fun i hi=>?_
     cases wv2 with
     | mk _ _ _ _ _ _ ps2 ob2 ok2 avs2 oa2 hp2 hbox2 ha2 hl2 hk2 =>
       rw[hgn (fun e=>hnv (by rw[e];exact hpSv)),hboxv] at hbox2
       injection hbox2 with e1
       injection e1 with e1
       simp only[List.cons.injEq,AVal.list.injEq] at e1
       have:=qkg e1.2.2.2.1.1
       subst this
       exact (hk2 i hi).mono fun j hj=>.inl (.inl hj)
   ·have hone':((l.length:Int)==1)=false:=by rw[hlen];simp;omega
    refine done (by simp[hone]) (qaL hs h298 ?_)
    unfold fn298
    simp -implicitDefEqProofs only[ev_,aOp,opd,qaa,qaB,qbd,qaA,qad,qab,qaf,qag,qai,qan,qac,qae,qaj,qaz,↓reduceIte,reduceCtorEq,Nat.reduceEqDiff,Int.reduceToNat,Int.reduceLE,Int.reduceBEq,Int.le_refl,hbox0,hbox1,c1',hboxv,hone',List.length_map]
  ·have ho':(vo==2)=false:=by simpa using ho
   refine done (by simp[ho]) (qaL hs h298 ?_)
   unfold fn298
   simp -implicitDefEqProofs only[ev_,aOp,opd,qaa,qaB,qaA,qad,qab,qaf,qag,qai,qan,qac,qae,qaj,qaz,↓reduceIte,reduceCtorEq,Nat.reduceEqDiff,Int.reduceToNat,Int.reduceLE,Int.reduceBEq,Int.le_refl,hbox0,hbox1,c1',hboxv,ho']
 have h11':(rule==11)=false:=by simpa using h11
 rw[if_neg (fun h=>h11 h.1)]
 refine done rfl (qaL hs h298 ?_)
 unfold fn298
 simp -implicitDefEqProofs only[ev_,aOp,opd,qaa,qaB,qaA,qad,qab,qaf,qag,qai,qan,qac,qae,qaj,qaz,↓reduceIte,reduceCtorEq,Nat.reduceEqDiff,Int.reduceToNat,Int.reduceLE,Int.le_refl,hbox0,hbox1,c1',h2',h3',h8',h9',h11']
end
inductive Blw (e:List CExpr):Nat→Nat→Prop
 | refl (k:Nat):Blw e k k
 | step {p c m:Nat} (h:c∈qbm e p) (hb:Blw e c m):Blw e p m
theorem qk9 {e:List CExpr} (hA:qdr e) {p c:Nat} (h:c∈qbm e p):∃ hp:p<e.length,(c:Int)∈e[p].kids∧c<p:=by
 unfold qbm at h
 cases hq:e[p]? with
 | none=>rw[hq] at h;cases h
 | some x =>
   rw[hq] at h
   obtain⟨hp,rfl⟩:=List.getElem?_eq_some_iff.1 hq
   obtain⟨k,hk,rfl⟩:=List.mem_map.1 h
   have:=hA p hp k hk
   exact⟨hp,by rw[Int.toNat_of_nonneg this.1];exact hk,by omega⟩
theorem qky {e:List CExpr} (hA:qdr e) {p m:Nat} (h:Blw e p m):m≤p:=by
 induction h with
 | refl=>exact Nat.le_refl _
 | step h _ ih=>obtain⟨_,_,hlt⟩:=qk9 hA h;omega
theorem qmw {e:List CExpr} {p:Nat} (hp:p<e.length) (z:Int):e[p].kids.count z≤(e.flatMap (·.kids)).count z:=by
 induction e generalizing p with
 | nil=>simp at hp
 | cons x xs ih =>
   rw[List.flatMap_cons,List.count_append]
   cases p with
   | zero=>simp
   | succ p =>
     have:=ih (p:=p) (by simpa using hp)
     simp only[List.getElem_cons_succ]
     omega
theorem qkO {e:List CExpr} {p q:Nat} (hpq:p<q) (hq:q<e.length) (z:Int):(e[p]'(by omega)).kids.count z+e[q].kids.count z≤(e.flatMap (·.kids)).count z:=by
 induction e generalizing p q with
 | nil=>simp at hq
 | cons x xs ih =>
   rw[List.flatMap_cons,List.count_append]
   obtain⟨q,rfl⟩:∃ q',q=q'+1:=⟨q-1,by omega⟩
   have hq':q<xs.length:=by simpa using hq
   cases p with
   | zero =>
     have:=qmw (e:=xs) hq' z
     simp only[List.getElem_cons_zero,List.getElem_cons_succ]
     omega
   | succ p =>
     have:=ih (p:=p) (q:=q) (by omega) hq'
     simp only[List.getElem_cons_succ]
     omega
theorem qAx {e:List CExpr} (hT:TreeL e) {p q c:Nat} (h:c∈qbm e p) (h':c∈qbm e q):p=q:=by
 obtain⟨hp,m1,l1⟩:=qk9 hT.ahead h
 obtain⟨hq,m2,l2⟩:=qk9 hT.ahead h'
 have ho:=hT.once c (by omega)
 have c1:=List.count_pos_iff.2 m1
 have c2:=List.count_pos_iff.2 m2
 rcases Nat.lt_trichotomy p q with hlt | heq | hgt
 ·have:=qkO hlt hq (c:Int)
  omega
 ·exact heq
 ·have:=qkO hgt hp (c:Int)
  omega
theorem quZ {e:List CExpr} (hT:TreeL e) {p:Nat} (hp:p<e.length) {x y:Nat} (hx:x<e[p].kids.length) (hy:y<e[p].kids.length) (hxy:x≠y):e[p].kids[x]≠e[p].kids[y]:=by
 intro he
 have ha:=hT.ahead p hp _ (List.getElem_mem hx)
 have ho:=hT.once e[p].kids[x].toNat (by omega)
 rw[Int.toNat_of_nonneg ha.1] at ho
 have:=qmw hp e[p].kids[x]
 have h2:2≤e[p].kids.count e[p].kids[x]:=by
  rw[← List.replicate_sublist_iff]
  have key:∀ (l:List Int) (x y:Nat) (hx:x<l.length) (hy:y<l.length),x<y→l[x]=l[y]→(List.replicate 2 l[x]).Sublist l:=by
   intro l x y hx hy hlt hxy
   have h1:l=l.take y++l.drop y:=(List.take_append_drop y l).symm
   have h2:l.drop y=l[y]::l.drop (y+1):=List.drop_eq_getElem_cons hy
   have h3:l[x]∈l.take y:=by
    rw[List.mem_take_iff_getElem]
    exact⟨x,by omega,rfl⟩
   conv=>rhs;rw[h1,h2]
   show (([l[x]]:List Int)++[l[x]]).Sublist _
   refine (List.singleton_sublist.2 h3).append ?_
   rw[hxy]
   exact (List.singleton_sublist.2 List.mem_cons_self)
  rcases Nat.lt_or_gt_of_ne hxy with h | h
  ·exact key _ x y hx hy h he
  ·have:=key _ y x hy hx h he.symm
   rw[he]
   exact this
 omega
theorem qe2 {e:List CExpr} (hT:TreeL e) {b c p:Nat} (h:Blw e b c):b≠c→c∈qbm e p→Blw e b p:=by
 induction h with
 | refl=>exact fun hne _=>absurd rfl hne
 | @step q d m hd hb ih =>
   intro hne hc
   by_cases hdm:d=m
   ·subst hdm
    rw[qAx hT hd hc]
    exact .refl _
   ·exact .step hd (ih hdm hc)
theorem qtV {e:List CExpr} (hT:TreeL e) {a b m:Nat} (h:Blw e a m):Blw e b m→Blw e a b∨Blw e b a:=by
 induction h with
 | refl=>exact fun h=>.inr h
 | @step p c m hc hb ih =>
   intro hbm
   rcases ih hbm with h | h
   ·exact .inl (.step hc h)
   ·by_cases hbc:b=c
    ·subst hbc
     exact .inl (.step hc (.refl _))
    ·exact .inr (qe2 hT h hbc hc)
theorem qtW {e:List CExpr} (hT:TreeL e) {i a b m:Nat} (ha:a∈qbm e i) (hb:b∈qbm e i) (hab:a≠b) (h1:Blw e a m) (h2:Blw e b m):False:=by
 obtain⟨_,_,l1⟩:=qk9 hT.ahead ha
 obtain⟨_,_,l2⟩:=qk9 hT.ahead hb
 rcases qtV hT h1 h2 with h | h
 ·have:=qky hT.ahead (qe2 hT h hab hb)
  omega
 ·have:=qky hT.ahead (qe2 hT h (fun e=>hab e.symm) ha)
  omega
def qiI (i:Nat) (t':CTree) (ts:List CTree) (x:CExpr):List CTree:=ts++[if ts.length=i then t' else .mk x.op x.n x.binds (x.kids.map fun k=>ts.getD k.toNat .none) x.alts]
def qbF (e:List CExpr) (i:Nat) (t':CTree) (k:Nat):CTree:=(e.foldl (qiI i t') []).getD k .none
theorem qoF (i:Nat) (t':CTree):∀ (e:List CExpr) (ts:List CTree),(e.foldl (qiI i t') ts).length=ts.length+e.length
 | [],ts=>rfl
 | x::e,ts=>by rw[List.foldl_cons,qoF i t' e,qiI];simp;omega
theorem qk0 (i:Nat) (t':CTree):∀ (e:List CExpr) (ts:List CTree) (k:Nat),k<ts.length→(e.foldl (qiI i t') ts).getD k .none=ts.getD k .none
 | [],ts,k,_=>rfl
 | x :: e,ts,k,h => by
   rw[List.foldl_cons,qk0 i t' e _ k (by unfold qiI;simp;omega)]
   unfold qiI
   rw[List.getD_eq_getElem?_getD,List.getD_eq_getElem?_getD,List.getElem?_append_left h]
theorem qwa (i:Nat) (t':CTree) (ts:List CTree) (x:CExpr):(qiI i t' ts x).length=ts.length+1:=by unfold qiI;simp
theorem qts (i:Nat) (t':CTree) (ts:List CTree) (x:CExpr) {k:Nat} (h:ts.length=k):(qiI i t' ts x).getD k .none=if k=i then t' else .mk x.op x.n x.binds (x.kids.map fun k=>ts.getD k.toNat .none) x.alts:=by
 subst h
 unfold qiI
 rw[List.getD_eq_getElem?_getD,List.getElem?_append_right (Nat.le_refl _),Nat.sub_self]
 rfl
theorem qfm (e:List CExpr) (hA:qdr e) (i:Nat) (t':CTree) (k:Nat) (hk:k<e.length):qbF e i t' k=if k=i then t' else .mk e[k].op e[k].n e[k].binds (e[k].kids.map fun q=>qbF e i t' q.toNat) e[k].alts:=by
 have hs:e=e.take k++e[k]::e.drop (k+1):=by rw[← List.drop_eq_getElem_cons hk,List.take_append_drop]
 have hl:((e.take k).foldl (qiI i t') []).length=k:=by rw[qoF];simp;omega
 have hpre:∀ q,q<k→qbF e i t' q=((e.take k).foldl (qiI i t') []).getD q .none:=by
  intro q hq
  unfold qbF
  conv=>lhs;rw[hs]
  rw[List.foldl_append,qk0 i t' _ _ q (by rw[hl];exact hq)]
 have hat:qbF e i t' k=(qiI i t' ((e.take k).foldl (qiI i t') []) e[k]).getD k .none:=by
  unfold qbF
  conv=>lhs;rw[hs]
  rw[List.foldl_append,List.foldl_cons,qk0 i t' _ _ k (by rw[qwa,hl];omega)]
 rw[hat,qts i t' _ _ hl]
 by_cases hki:k=i
 ·rw[if_pos hki,if_pos hki]
 ·rw[if_neg hki,if_neg hki]
  congr 1
  refine List.map_congr_left fun q hq=>?_
  have:=hA k hk q hq
  exact (hpre q.toNat (by omega)).symm
theorem qjH {ps:List Nat} (hn:ps.Nodup) {a b:Nat} (ha:a<ps.length) (hb:b<ps.length) (h:ps.getD a 0=ps.getD b 0):a=b:=by
 rw[List.getD_eq_getElem?_getD,List.getD_eq_getElem?_getD,List.getElem?_eq_getElem ha,List.getElem?_eq_getElem hb] at h
 exact (List.getElem_inj hn).1 h
def At (e:List CExpr) (ps:List Nat) (k:Nat):Nat→Prop:=fun q=>∃ m,Blw e k m∧m<e.length∧q=ps.getD m 0
theorem OJ.ws {e:List CExpr} {w0:Nat} {H:Heap} {ps:List Nat} {ow:Option (Option Nat)} {rt:AVal} (h:OJ e w0 e.length H ps ow rt) (hA:qdr e):∀ k,k<e.length→WS H (At e ps k) (qaG e k) (ps.getD k 0):=by
 intro k
 induction k using Nat.strongRecOn with
 | ind k ih =>
   intro hk
   have hl:=h.len
   obtain⟨ob,ok,avs,oa,n1,n2⟩:=h.node k hk (by omega)
   have hg:ps.getD k 0=ps[k]'(by omega):=by
    rw[List.getD_eq_getElem?_getD,List.getElem?_eq_getElem (by omega)]
    rfl
   rw[qb0 e hA k hk,hg]
   refine .mk _ _ _ _ _ _ _ ob ok avs oa ⟨k,.refl k,hk,hg.symm⟩ n1 n2 (by simp) fun i hi=>?_
   rw[List.length_map] at hi
   rw[List.getElem_map,List.getElem_map]
   have hlt:=hA k hk _ (List.getElem_mem hi)
   refine (ih _ (by omega) (by omega)).mono fun q ⟨m,m1,m2,m3⟩=>⟨m,.step ?_ m1,m2,m3⟩
   unfold qbm
   rw[List.getElem?_eq_getElem hk]
   exact List.mem_map_of_mem (List.getElem_mem hi)
theorem At.lt {e:List CExpr} {w0:Nat} {H:Heap} {ps:List Nat} {ow:Option (Option Nat)} {rt:AVal} (h:OJ e w0 e.length H ps ow rt) {k q:Nat} (hq:At e ps k q):q<H.length:=by
 obtain⟨m,_,m2,rfl⟩:=hq
 have hl:=h.len
 have:=h.low (ps.getD m 0) (by rw[List.getD_eq_getElem?_getD,List.getElem?_eq_getElem (by omega)];exact List.getElem_mem _)
 exact this.2
theorem glob {e:List CExpr} (hT:TreeL e) {w0:Nat} {H H2:Heap} {ps:List Nat} {ow:Option (Option Nat)} {rt:AVal} (h:OJ e w0 e.length H ps ow rt) {i:Nat} (hi:i<e.length) {t':CTree} {S:Nat→Prop} (hw:WS H2 S t' (ps.getD i 0))
  (hk:∀ k,k<e.length→¬ Blw e i k→H2[ps.getD k 0]? = H[ps.getD k 0]?):∀ k,k<e.length→(k=i∨¬ Blw e i k)→WS H2 (fun _=>True) (qbF e i t' k) (ps.getD k 0):=by
 intro k
 induction k using Nat.strongRecOn with
 | ind k ih =>
   intro hkl hc
   rw[qfm e hT.ahead i t' k hkl]
   by_cases hki:k=i
   ·rw[if_pos hki]
    subst hki
    exact hw.mono fun _ _=>trivial
   ·rw[if_neg hki]
    have hnb:¬ Blw e i k:=by
     rcases hc with h | h
     ·exact absurd h hki
     ·exact h
    have hl:=h.len
    obtain⟨ob,ok,avs,oa,n1,n2⟩:=h.node k hkl (by omega)
    have hg:ps.getD k 0=ps[k]'(by omega):=by
     rw[List.getD_eq_getElem?_getD,List.getElem?_eq_getElem (by omega)]
     rfl
    have hh:=hk k hkl hnb
    rw[hg] at hh ⊢
    refine .mk _ _ _ _ _ _ _ ob ok avs oa trivial (by rw[hh];exact n1) n2 (by simp) fun x hx=>?_
    rw[List.length_map] at hx
    rw[List.getElem_map,List.getElem_map]
    have hlt:=hT.ahead k hkl _ (List.getElem_mem hx)
    have hkid:e[k].kids[x].toNat∈qbm e k:=by
     unfold qbm
     rw[List.getElem?_eq_getElem hkl]
     exact List.mem_map_of_mem (List.getElem_mem hx)
    refine ih _ (by omega) (by omega) ?_
    by_cases hci:e[k].kids[x].toNat=i
    ·exact .inl hci
    ·exact .inr fun hb=>hnb (qe2 hT hb (fun e=>hci e.symm) hkid)
end Go.Abs
