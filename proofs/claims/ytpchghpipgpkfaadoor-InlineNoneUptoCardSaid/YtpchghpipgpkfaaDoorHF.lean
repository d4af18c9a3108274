/-
  PARTS OF A PROOF, joined: an abstract machine for quiet code, its evaluation, and what the seat's functions answer on it. Conditions: none.
-/
import Derived.Test.YtpchghpipgpkfaaDoorHB
import Derived.Test.YtpchghpipgpkfaaDoorW
import Derived.Test.YtpchghpipgpkfaaDoorHA
import Derived.Test.YtpchghpipgpkfaaDoorC
set_option linter.unusedVariables false
set_option linter.unusedSimpArgs false
set_option maxRecDepth 100000
set_option maxHeartbeats 4000000
namespace Go.Abs
abbrev RS:=IM Int × Int
def frL (l:List Int) (s:RS):RS:=l.foldl (fun s v=>(qjf v s.2 s.1,s.2+1)) s
def qih (a:Int) (n:Nat):List Int:=(List.range n).map fun i:Nat=>a+(i:Int)
def frA:List CAlt→RS→List CAlt × RS
 | [],s=>([],s)
 | a::as,s=>(⟨a.tag,qih s.2 a.binds.length⟩::(frA as (frL a.binds s)).1,(frA as (frL a.binds s)).2)
def qzc (op n:Int) (m:IM Int):Int:=match qbu n m with | some x=>if op=0 then x else n | none=>n
def qk9 (op:Int) (binds:List Int) (s:RS):List Int:=if op=9 then binds else qih s.2 binds.length
def qdX (op:Int) (binds:List Int) (s:RS):RS:=if op=9 then s else frL binds s
mutual
def qfR:CTree→RS→CTree × RS
 | .mk op n binds kids alts,s=>(.mk op (qzc op n s.1) (qk9 op binds s) (qbv kids (frA alts (qdX op binds s)).2).1 (frA alts (qdX op binds s)).1,(qbv kids (frA alts (qdX op binds s)).2).2)
def qbv:List CTree→RS→List CTree × RS
 | [],s=>([],s)
 | k::ks,s=>((qfR k s).1::(qbv ks (qfR k s).2).1,(qbv ks (qfR k s).2).2)
end
theorem qto (s:RS):frL [] s=s:=rfl
theorem qi7 (v:Int) (l:List Int) (s:RS):frL (v::l) s=frL l (qjf v s.2 s.1,s.2+1):=rfl
theorem qh6 (l l':List Int) (s:RS):frL (l++l') s=frL l' (frL l s):=List.foldl_append
theorem qcU (l:List Int):∀ s:RS,(frL l s).2=s.2+l.length:=by
 induction l with
 | nil=>intro s;simp[frL]
 | cons v l ih=>intro s;rw[qi7,ih];simp;omega
theorem qcW (a:Int) (n:Nat):(qih a n).length=n:=by simp[qih]
theorem qut (a:Int) (n:Nat):qih a (n+1)=qih a n++[a+n]:=by unfold qih;rw[List.range_succ,List.map_append];rfl
theorem qtm (s:RS) (as:List CAlt):(frA as s).1.length=as.length:=by
 induction as generalizing s with
 | nil=>rfl
 | cons a as ih=>rw[frA];simp[ih]
theorem qh5 (as bs:List CAlt):∀ s:RS,frA (as++bs) s=((frA as s).1++(frA bs (frA as s).2).1,(frA bs (frA as s).2).2):=by
 induction as with
 | nil=>intro s;rfl
 | cons a as ih=>intro s;rw[List.cons_append,frA,frA,ih];rfl
theorem qiL (ks ls:List CTree):∀ s:RS,qbv (ks++ls) s=((qbv ks s).1++(qbv ls (qbv ks s).2).1,(qbv ls (qbv ks s).2).2):=by
 induction ks with
 | nil=>intro s;simp[qbv]
 | cons k ks ih=>intro s;rw[List.cons_append,qbv,qbv,ih];rfl
theorem qoK (ks:List CTree):∀ s:RS,(qbv ks s).1.length=ks.length:=by
 induction ks with
 | nil=>intro s;simp[qbv]
 | cons k ks ih=>intro s;rw[qbv];simp[ih]
section
variable {L:Lib}
theorem qwM (hL:Plain L) (h208:L.fns 208=some fn208) (l:List Int) (hl:l.length<2 ^ 30) (m:IM Int) (a:Int) (ha:0≤a) (hb:a+l.length<2 ^ 50) (H:Heap) (v:AVal) (f:List Nat) (hv:HInts H l v f) (pf pm r:Nat)
  (hf:H[pf]? = some (.box [.int .i64 a])) (hm:H[pm]? = some (.box [.map (some r)])) (hr:H[r]? = some (.map (encB m))) (hpf:pf∉f) (hpm:pm∉f) (hrf:r∉f) (hfm:pf≠pm) (hfr:pf≠r) (hmr:pm≠r) :
  ∃ H',call L 208 [v,qau pf,qau pm] H=some (.val (.tuple []),H')∧H'[pf]? = some (.box [.int .i64 (frL l (m,a)).2])∧H'[r]? = some (.map (encB (frL l (m,a)).1))∧HInts H' (qih a l.length) v f∧H'.length=H.length∧∀ q,q≠pf→q≠r→q∉f→H'[q]? = H[q]? := by
 have hs:=hL.summ 208 (by rw[h208];simp)
 rcases hv with ⟨rfl,rfl,rfl⟩ | ⟨hne,id,rfl,hid,rfl⟩
 ·refine⟨H,?_,by rw[qto];exact hf,hr,.inl ⟨rfl,rfl,rfl⟩,rfl,fun _ _ _ _=>rfl⟩
  refine qaK hs h208 ?_
  have hloop:qa2 L.pure (call L) H.length [1000000,0,1,2,6,7] [1000000] 0 qeY ⟨kt [0,1,2,6,7] [.list [] none,qau pf,qau pm,.int .i64 0,.int .i64 0],H⟩=some (.normal,⟨kt [] [],H⟩):=by
   refine qb4 ?_
   unfold qeY
   simp -implicitDefEqProofs only[ev_,aOp,opd,qaa,qaA,qaz,qab,gcE,↓reduceIte,reduceCtorEq,Nat.reduceEqDiff,Int.reduceLT]
  unfold qau at *
  unfold fn208
  simp -implicitDefEqProofs only[ev_,aOp,opd,qaa,qa7,qap,qac,qaj,↓reduceIte,reduceCtorEq,Nat.reduceEqDiff,hloop]
 ·have hfi:pf≠id:=fun e=>hpf (by simp[e])
  have hmi:pm≠id:=fun e=>hpm (by simp[e])
  have hri:r≠id:=fun e=>hrf (by simp[e])
  have hlf:=hlt hf
  have hlr:=hlt hr
  have hli:=hlt hid
  have hmf':pm≠pf:=fun e=>hfm e.symm
  have hrf':r≠pf:=fun e=>hfr e.symm
  have hrm':r≠pm:=fun e=>hmr e.symm
  have hif':id≠pf:=fun e=>hfi e.symm
  have him':id≠pm:=fun e=>hmi e.symm
  have hir':id≠r:=fun e=>hri e.symm
  obtain⟨T,ht,H',rfl,g1,g2,g3,g4,g5⟩:=qbt (pure:=L.pure) (call:=call L) (b:=H.length) (keep:=[1000000,0,1,2,6,7]) (fk:=[1000000]) (id:=0) (body:=qeY)
   (fun j s=>∃ H',s=⟨kt [0,1,2,6,7] [.vec id l.length,qau pf,qau pm,.int .i64 l.length,.int .i64 j],H'⟩∧H'[pf]? = some (.box [.int .i64 (a+j)])∧H'[r]? = some (.map (encB (frL (l.take j) (m,a)).1)) ∧
    H'[id]? = some (.vec ((qih a j++l.drop j).map qat) 1)∧H'.length=H.length∧∀ q,q≠pf→q≠r→q≠id→H'[q]? = H[q]?) l.length
   (fun T=>∃ H',T=⟨kt [] [],H'⟩∧H'[pf]? = some (.box [.int .i64 (a+l.length)])∧H'[r]? = some (.map (encB (frL l (m,a)).1)) ∧
    H'[id]? = some (.vec ((qih a l.length).map qat) 1)∧H'.length=H.length∧∀ q,q≠pf→q≠r→q≠id→H'[q]? = H[q]?)
   (s0:=⟨kt [0,1,2,6,7] [.vec id l.length,qau pf,qau pm,.int .i64 l.length,.int .i64 0],H⟩)
   (by
    intro j s hj hs
    obtain⟨H',rfl,g1,g2,g3,g4,g5⟩:=hs
    have gm:H'[pm]? = some (.box [.map (some r)]):=by rw[g5 pm hmf' hmr hmi];exact hm
    obtain⟨h1,h2,_⟩:=qaM qat l hl j hj
    have h3:((qih a j++l.drop j).map qat)[j]? = some (qat l[j]):=by
     rw[List.getElem?_map,List.getElem?_append_right (by rw[qcW];omega),qcW,Nat.sub_self,List.drop_eq_getElem_cons hj]
     rfl
    have hcl:((qih a j++l.drop j).map qat).length=l.length:=by simp[qcW];omega
    have hput:((qih a j++l.drop j).map qat).take j++qat (a+j)::((qih a j++l.drop j).map qat).drop (j+1)=(qih a (j+1)++l.drop (j+1)).map qat:=by
     rw[qut,← List.map_take,← List.map_drop,List.take_append_of_le_length (by rw[qcW];omega),List.take_of_length_le (by rw[qcW];omega),List.drop_append,List.drop_of_length_le (by rw[qcW];omega),qcW,List.drop_drop]
     have:j+(j+1-j)=j+1:=by omega
     simp[this]
    have hw:IntKind.i64.wrap (a+j+1)=a+((j+1:Nat):Int):=by rw[qb3 (by omega) (by omega)];omega
    have hup:=fun (h:Heap) (hr:h[r]? = some (.map (encB (frL (l.take j) (m,a)).1)))=>qzZ h r l[j] (a+j) _ hr
    have hfr':frL (l.take (j+1)) (m,a)=(qjf l[j] (a+j) (frL (l.take j) (m,a)).1,a+((j+1:Nat):Int)):=by
     rw[List.take_succ_eq_append_getElem hj,qh6]
     have:=qcU (l.take j) (m,a)
     rw[List.length_take,Nat.min_eq_left (by omega)] at this
     rw[qi7,qto,this]
     simp
     omega
    rw[hfr']
    generalize (frL (l.take j) (m,a)).1=m1 at *
    generalize hcs:(qih a j++l.drop j).map qat=cs at *
    have hjl:j+1≤l.length:=by omega
    obtain⟨rr,hr0⟩:∃ rr,qa1 L.pure (call L) H.length [1000000,0,1,2,6,7] [1000000] qeY ⟨kt [0,1,2,6,7] [.vec id l.length,qau pf,qau pm,.int .i64 l.length,.int .i64 j],H'⟩=rr:=⟨_,rfl⟩
    have hrr:=hr0
    rw[qaT] at hput h3
    have k1:=hlt g1
    have k2:=hlt g2
    have k3:=hlt g3
    unfold qau at hrr
    unfold qeY at hrr
    simp -implicitDefEqProofs only[ev_,aOp,opd,qaa,qar,qaA,qaz,qad,qab,qae,qag,qaI,leaf,qaq,qay,↓reduceIte,reduceCtorEq,Nat.reduceEqDiff,ne_eq,Nat.mul_one,h1,h2,h3,hup,hcl,hjl,hput,g1,g2,g3,gm,hgs,hgn,k1,k2,k3,hfm,hfr,hmr,hfi,hmi,hri,hmf',hrf',hrm',hif',him',hir',hw] at hrr
    subst hrr
    refine⟨_,hr0,_,rfl,hgs (by simpa using k1),?_,?_,by simpa using g4,fun q q1 q2 q3=>?_⟩
    ·rw[hgn hfr,hgn hir',hgs k2]
    ·rw[hgn hfi,hgs (by simpa using k3),List.map_append]
    ·rw[hgn (fun e=>q1 e.symm),hgn (fun e=>q3 e.symm),hgn (fun e=>q2 e.symm)]
     exact g5 q q1 q2 q3)
   (by
    intro s hs
    obtain⟨H',rfl,g1,g2,g3,g4,g5⟩:=hs
    have h0:=qaQ l.length
    refine⟨⟨kt [] [],H'⟩,?_,H',rfl,g1,by rw[List.take_length] at g2;exact g2,by rw[List.drop_length,List.append_nil] at g3;exact g3,g4,g5⟩
    unfold qeY
    simp -implicitDefEqProofs only[ev_,aOp,opd,qaa,qaA,qaz,qab,gcE,↓reduceIte,reduceCtorEq,Nat.reduceEqDiff,h0])
   ⟨H,rfl,by simpa using hf,hr,by simpa[qih] using hid,rfl,fun _ _ _ _=>rfl⟩
  refine⟨H',?_,by rw[qcU];exact g1,g2,.inr ⟨by intro e;have:=congrArg List.length e;rw[qcW] at this;exact hne (List.length_eq_zero_iff.1 this),id,by rw[qcW],g3,rfl⟩,g4,fun q h1 h2 h3=>g5 q h1 h2 (fun e=>h3 (by simp[e]))⟩
  refine qaK hs h208 ?_
  unfold qau at *
  unfold fn208
  simp -implicitDefEqProofs only[ev_,aOp,opd,qaa,qa7,qap,qac,qaj,↓reduceIte,reduceCtorEq,Nat.reduceEqDiff,ht]
end
def HKids (H:Heap):List CTree→List Nat→List (List Nat)→Prop
 | [],ps,fs=>ps=[]∧fs=[]
 | t::ts,ps,fs=>∃ p f ps' fs',ps=p::ps'∧fs=f::fs'∧HT H t p f∧HKids H ts ps' fs'
theorem qqP {H:Heap}:∀ {ts:List CTree} {ps:List Nat} {fs:List (List Nat)} (h1:ps.length=ts.length) (h2:fs.length=ts.length),(∀ (i:Nat) (hi:i<ts.length),HT H ts[i] (ps[i]'(by omega)) (fs[i]'(by omega)))→HKids H ts ps fs
 | [],ps,fs,h1,h2,h=>⟨List.length_eq_zero_iff.1 h1,List.length_eq_zero_iff.1 h2⟩
 | t::ts,[],fs,h1,h2,h=>by simp at h1
 | t::ts,p::ps,[],h1,h2,h=>by simp at h2
 | t::ts,p::ps,f::fs,h1,h2,h=>⟨p,f,ps,fs,rfl,rfl,h 0 (by simp),qqP (by simpa using h1) (by simpa using h2) fun i hi=>h (i+1) (by simp;omega)⟩
theorem qqQ {H:Heap}:∀ {ts:List CTree} {ps:List Nat} {fs:List (List Nat)},HKids H ts ps fs→∃ (h1:ps.length=ts.length) (h2:fs.length=ts.length),∀ (i:Nat) (hi:i<ts.length),HT H ts[i] (ps[i]'(by omega)) (fs[i]'(by omega))
 | [],ps,fs,h => by
   obtain⟨rfl,rfl⟩:=h
   exact⟨rfl,rfl,fun i hi=>absurd hi (by simp)⟩
 | t :: ts,ps,fs,⟨p,f,ps',fs',e1,e2,h3,h4⟩ => by
   subst e1
   subst e2
   obtain⟨h5,h6,h7⟩:=qqQ h4
   refine⟨by simp[h5],by simp[h6],fun i hi=>?_⟩
   cases i with
   | zero=>exact h3
   | succ i=>exact h7 i (by simpa using hi)
theorem HKids.frame {H H':Heap}:∀ {ts:List CTree} {ps:List Nat} {fs:List (List Nat)},HKids H ts ps fs→(∀ q∈fs.flatten,H'[q]? = H[q]?)→HKids H' ts ps fs
 | [],ps,fs,h,_=>h
 | t::ts,ps,fs,⟨p,f,ps',fs',e1,e2,h3,h4⟩,he=>⟨p,f,ps',fs',e1,e2,h3.frame fun q hq=>he q (by rw[e2];simp[hq]),h4.frame fun q hq=>he q (by
   rw[e2,List.flatten_cons]
   exact List.mem_append.2 (.inr hq))⟩
theorem HKids.snoc {H:Heap} {t:CTree} {p:Nat} {f:List Nat} (ht:HT H t p f):∀ {ts:List CTree} {ps:List Nat} {fs:List (List Nat)},HKids H ts ps fs→HKids H (ts++[t]) (ps++[p]) (fs++[f])
 | [],ps,fs,h => by
   obtain⟨rfl,rfl⟩:=h
   exact⟨p,f,[],[],rfl,rfl,ht,rfl,rfl⟩
 | t'::ts,ps,fs,⟨p',f',ps',fs',e1,e2,h3,h4⟩=>⟨p',f',_,_,by rw[e1];rfl,by rw[e2];rfl,h3,h4.snoc ht⟩
theorem HKids.len {H:Heap}:∀ {ts:List CTree} {ps:List Nat} {fs:List (List Nat)},HKids H ts ps fs→ps.length=ts.length
 | [],ps,fs,h=>by obtain⟨rfl,_⟩:=h;rfl
 | t::ts,ps,fs,⟨p,f,ps',fs',e1,e2,h3,h4⟩=>by rw[e1];simp[h4.len]
structure RE (H:Heap) (pm pf pw r:Nat) (s:RS):Prop where
 m:H[pm]? = some (.box [.map (some r)])
 f:H[pf]? = some (.box [.int .i64 s.2])
 w:H[pw]? = some (.box [.func 207 [] [qau pm,qau pf,qau pw]])
 r:H[r]? = some (.map (encB s.1))
theorem RE.ne {H:Heap} {pm pf pw r:Nat} {s:RS} (h:RE H pm pf pw r s):pf≠pm∧pf≠r∧pm≠r∧pw≠pf∧pw≠r:=by
 have h1:=h.m
 have h2:=h.f
 have h3:=h.w
 have h4:=h.r
 refine⟨?_,?_,?_,?_,?_⟩<;>rintro rfl
 ·rw[h1] at h2;cases h2
 ·rw[h4] at h2;cases h2
 ·rw[h1] at h4;cases h4
 ·rw[h3] at h2;cases h2
 ·rw[h3] at h4;cases h4
theorem RE.frame {H H':Heap} {pm pf pw r:Nat} {s s':RS} (h:RE H pm pf pw r s) (hf:H'[pf]? = some (.box [.int .i64 s'.2])) (hr:H'[r]? = some (.map (encB s'.1))) (he:∀ q,q≠pf→q≠r→(q=pm∨q=pw)→H'[q]? = H[q]?):RE H' pm pf pw r s':=by
 obtain⟨a,b,c,d,e⟩:=h.ne
 exact⟨by rw[he pm (fun x=>a x.symm) c (.inl rfl)];exact h.m,hf,by rw[he pw d e (.inr rfl)];exact h.w,hr⟩
section
variable {L:Lib}
theorem qzO (hL:Plain L) (h208:L.fns 208=some fn208) {b:Nat} (alts:List CAlt) (ha:alts.length<2 ^ 30) (hab:∀ a∈alts,a.binds.length<2 ^ 30) (s:RS) (hs0:0≤s.2) (hs1:(frA alts s).2.2<2 ^ 50) (H:Heap) (p pm pf pw r:Nat) (hE:RE H pm pf pw r s)
  (c1 c2 c3 c4:AVal) (avs:List AVal) (oa:Option (Option Nat)) (fa:List Nat) (hn:H[p]? = some (.box [c1,c2,c3,c4,.list avs oa])) (hA:HAlts H alts avs fa) (hnd:fa.Nodup) (hpa:p∉fa) (hp1:p≠pf) (hp2:p≠r) (h1:pm∉fa) (h2:pf∉fa) (h3:pw∉fa) (h4:r∉fa) :
  ∃ T,qa2 L.pure (call L) b [1000000,0,3,7,48,49] [1000000,0,3] 0 qeW ⟨kt [0,3,7,48,49] [qau p,qau pw,.func 208 [] [qau pf,qau pm],.int .i64 alts.length,.int .i64 0],H⟩=some (.normal,T) ∧
   ∃ H',T=⟨kt [0,3] [qau p,qau pw],H'⟩∧RE H' pm pf pw r (frA alts s).2∧HAlts H' (frA alts s).1 avs fa∧H'.length=H.length∧∀ q,q≠pf→q≠r→q∉fa→H'[q]? = H[q]? := by
 have hmono:∀ as:List CAlt,∀ s:RS,s.2≤(frA as s).2.2:=by
  intro as
  induction as with
  | nil=>intro s;exact Int.le_refl _
  | cons a as ih =>
    intro s
    rw[frA]
    have:=ih (frL a.binds s)
    rw[qcU] at this
    show s.2≤(frA as (frL a.binds s)).2.2
    omega
 refine qbt (pure:=L.pure) (call:=call L) (b:=b) (id:=0) (body:=qeW)
  (fun j st=>∃ H' av1 av2 f1 f2,st=⟨kt [0,3,7,48,49] [qau p,qau pw,.func 208 [] [qau pf,qau pm],.int .i64 alts.length,.int .i64 j],H'⟩∧RE H' pm pf pw r (frA (alts.take j) s).2∧avs=av1++av2∧fa=f1++f2 ∧
   HAlts H' (frA (alts.take j) s).1 av1 f1∧HAlts H' (alts.drop j) av2 f2∧H'.length=H.length∧∀ q,q≠pf→q≠r→q∉fa→H'[q]? = H[q]?) alts.length _ ?_ ?_ ?_
 ·intro j st hj hst
  obtain⟨H',av1,av2,f1,f2,rfl,g1,g2,g3,g4,g5,g6,g7⟩:=hst
  obtain⟨w1,w2,_⟩:=qaM qas alts ha j hj
  have htake:alts.take (j+1)=alts.take j++[alts[j]]:=List.take_succ_eq_append_getElem hj
  rw[List.drop_eq_getElem_cons hj] at g5
  have hb:=hab alts[j] (List.getElem_mem hj)
  have hl1:=g4.len
  rw[qtm,List.length_take,Nat.min_eq_left (by omega)] at hl1
  have hbound:(frA (alts.take j) s).2.2+alts[j].binds.length<2 ^ 50:=by
   have hx:=hmono (alts.drop (j+1)) (frA (alts.take (j+1)) s).2
   have e1:(frA (alts.take (j+1)++alts.drop (j+1)) s).2=(frA (alts.drop (j+1)) (frA (alts.take (j+1)) s).2).2:=by rw[qh5]
   rw[List.take_append_drop] at e1
   rw[← e1] at hx
   rw[htake,qh5] at hx
   dsimp only at hx
   have hy:((frA [alts[j]] (frA (alts.take j) s).2).2).2=(frA (alts.take j) s).2.2+alts[j].binds.length:=by
    rw[frA]
    show (frL alts[j].binds _).2=_
    rw[qcU]
   omega
  have hlow:0≤(frA (alts.take j) s).2.2:=by have:=hmono (alts.take j) s;omega
  have hfr:frA (alts.take (j+1)) s=((frA (alts.take j) s).1++[⟨alts[j].tag,qih (frA (alts.take j) s).2.2 alts[j].binds.length⟩],frL alts[j].binds (frA (alts.take j) s).2):=by
   rw[htake,qh5]
   rfl
  rw[hfr]
  generalize alts[j]=a at *
  generalize frA (alts.take j) s=rs at *
  obtain⟨bv,fb,av2',f2',e1,e2,k3,k4⟩:=g5
  subst e1
  subst e2
  have hnode:H'[p]? = some (.box [c1,c2,c3,c4,.list avs oa]):=by rw[g7 p hp1 hp2 hpa];exact hn
  have hget:avs[j]? = some (.agg [.int .i64 a.tag,bv]):=by rw[g2,List.getElem?_append_right (by omega),hl1,Nat.sub_self];rfl
  have hfbm:∀ q∈fb,q∈fa:=fun q hq=>by rw[g3];simp[hq]
  obtain⟨n1,n2,n3,n4,n5⟩:=g1.ne
  obtain⟨H2,q1,q2,q3,q4,q5,q6⟩:=qwM hL h208 a.binds hb rs.2.1 rs.2.2 hlow hbound H' bv fb k3 pf pm r g1.f g1.m g1.r (fun h=>h2 (hfbm _ h)) (fun h=>h1 (hfbm _ h)) (fun h=>h4 (hfbm _ h)) n1 n2 n3
  have hnd':=hnd
  rw[g3,List.nodup_append] at hnd'
  obtain⟨d1,d2,d3⟩:=hnd'
  rw[List.nodup_append] at d2
  obtain⟨d4,d5,d6⟩:=d2
  obtain⟨rr,hr0⟩:∃ rr,qa1 L.pure (call L) b [1000000,0,3,7,48,49] [1000000,0,3] qeW ⟨kt [0,3,7,48,49] [qau p,qau pw,.func 208 [] [qau pf,qau pm],.int .i64 alts.length,.int .i64 j],H'⟩=rr:=⟨_,rfl⟩
  have hrr:=hr0
  unfold qau at hrr q1
  unfold qeW at hrr
  simp -implicitDefEqProofs only[ev_,aOp,opd,qaa,qaA,qaz,qad,qab,qag,qai,↓reduceIte,reduceCtorEq,Nat.reduceEqDiff,Nat.reduceAdd,w1,w2,hnode,hget,q1] at hrr
  subst hrr
  refine⟨_,hr0,H2,av1++[.agg [.int .i64 a.tag,bv]],av2',f1++fb,f2',rfl,?_,by rw[g2];simp,by rw[g3];simp,?_,?_,by omega,?_⟩
  ·refine g1.frame q2 q3 fun q x1 x2 x3=>q6 q x1 x2 fun hm=>?_
   rcases x3 with rfl | rfl
   ·exact h1 (hfbm _ hm)
   ·exact h3 (hfbm _ hm)
  ·refine (g4.frame fun q hq=>q6 q (fun e=>h2 (by rw[g3,← e];simp[hq])) (fun e=>h4 (by rw[g3,← e];simp[hq])) fun hm=>d3 q hq q (by simp[hm]) rfl).snoc ?_
   exact q4
  ·refine k4.frame fun q hq=>q6 q (fun e=>h2 (by rw[g3,← e];simp[hq])) (fun e=>h4 (by rw[g3,← e];simp[hq])) fun hm=>d6 q hm q hq rfl
  ·intro q x1 x2 x3
   rw[q6 q x1 x2 (fun hm=>x3 (hfbm _ hm)),g7 q x1 x2 x3]
 ·intro st hst
  obtain⟨H',av1,av2,f1,f2,rfl,g1,g2,g3,g4,g5,g6,g7⟩:=hst
  have h0:=qaQ alts.length
  rw[List.drop_length] at g5
  obtain⟨e1,e2⟩:=g5
  subst e1
  subst e2
  rw[List.append_nil] at g2 g3
  subst g2
  subst g3
  rw[List.take_length] at g1 g4
  refine⟨_,?_,H',rfl,g1,g4,g6,g7⟩
  unfold qeW
  simp -implicitDefEqProofs only[ev_,aOp,opd,qaa,qaA,qaz,qab,gcE,↓reduceIte,reduceCtorEq,Nat.reduceEqDiff,h0]
 ·exact⟨H,[],avs,[],fa,rfl,hE,rfl,rfl,⟨rfl,rfl⟩,hA,rfl,fun _ _ _ _=>rfl⟩
end
theorem qqJ:∀ (as:List CAlt) (s:RS),s.2≤(frA as s).2.2:=by
 intro as
 induction as with
 | nil=>intro s;exact Int.le_refl _
 | cons a as ih =>
   intro s
   rw[frA]
   have:=ih (frL a.binds s)
   rw[qcU] at this
   show s.2≤(frA as (frL a.binds s)).2.2
   omega
theorem ql6 (op:Int) (binds:List Int) (s:RS):s.2≤(qdX op binds s).2:=by
 unfold qdX
 split
 ·exact Int.le_refl _
 ·rw[qcU];omega
theorem qif (ks:List CTree) (h:∀ k∈ks,∀ s:RS,s.2≤(qfR k s).2.2):∀ s:RS,s.2≤(qbv ks s).2.2:=by
 induction ks with
 | nil=>intro s;rw[qbv];exact Int.le_refl _
 | cons k ks ih =>
   intro s
   rw[qbv]
   have h1:=h k (by simp) s
   have h2:=ih (fun q hq=>h q (by simp[hq])) (qfR k s).2
   show s.2≤(qbv ks (qfR k s).2).2.2
   omega
theorem qoH (t:CTree):∀ s:RS,s.2≤(qfR t s).2.2:=by
 induction t using CTree.ind with
 | h op n binds kids alts ih =>
   intro s
   rw[qfR]
   have h1:=ql6 op binds s
   have h2:=qqJ alts (qdX op binds s)
   have h3:=qif kids ih (frA alts (qdX op binds s)).2
   dsimp only
   omega
def qpt (L:Lib) (t:CTree):Prop:=∀ (H:Heap) (p:Nat) (fp:List Nat) (s:RS) (pm pf pw r:Nat),HT H t p fp→fp.Nodup→RE H pm pf pw r s→pm∉fp→pf∉fp→pw∉fp→r∉fp→0≤s.2→(qfR t s).2.2<2 ^ 50 →
 ∃ H',call L 207 [qau p,qau pm,qau pf,qau pw] H=some (.val (.tuple []),H')∧RE H' pm pf pw r (qfR t s).2∧HT H' (qfR t s).1 p fp∧H'.length=H.length∧∀ q,q≠pf→q≠r→q∉fp→H'[q]? = H[q]?
section
variable {L:Lib}
theorem qzP {b:Nat} (kids:List CTree) (hk:kids.length<2 ^ 30) (ih:∀ k∈kids,qpt L k) (s:RS) (hs0:0≤s.2) (hs1:(qbv kids s).2.2<2 ^ 50) (H:Heap) (pm pf pw r:Nat) (hE:RE H pm pf pw r s)
  (ps:List Nat) (ow:Option (Option Nat)) (fks:List (List Nat)) (hA:HKids H kids ps fks) (hnd:fks.flatten.Nodup) (h1:pm∉fks.flatten) (h2:pf∉fks.flatten) (h3:pw∉fks.flatten) (h4:r∉fks.flatten) :
  ∃ T,qa2 L.pure (call L) b [1000000,3,66,67,68] [1000000] 2 qeX ⟨kt [3,66,67,68] [qau pw,.list (ps.map qau) ow,.int .i64 kids.length,.int .i64 0],H⟩=some (.normal,T) ∧
   ∃ H',T=⟨kt [] [],H'⟩∧RE H' pm pf pw r (qbv kids s).2∧HKids H' (qbv kids s).1 ps fks∧H'.length=H.length∧∀ q,q≠pf→q≠r→q∉fks.flatten→H'[q]? = H[q]? := by
 have hmono:=fun (ks:List CTree) (s:RS)=>qif ks (fun k _=>qoH k) s
 refine qbt (pure:=L.pure) (call:=call L) (b:=b) (id:=2) (body:=qeX)
  (fun j st=>∃ H' ps1 ps2 f1 f2,st=⟨kt [3,66,67,68] [qau pw,.list (ps.map qau) ow,.int .i64 kids.length,.int .i64 j],H'⟩∧RE H' pm pf pw r (qbv (kids.take j) s).2∧ps=ps1++ps2∧fks=f1++f2 ∧
   HKids H' (qbv (kids.take j) s).1 ps1 f1∧HKids H' (kids.drop j) ps2 f2∧H'.length=H.length∧∀ q,q≠pf→q≠r→q∉fks.flatten→H'[q]? = H[q]?) kids.length _ ?_ ?_ ?_
 ·intro j st hj hst
  obtain⟨H',ps1,ps2,f1,f2,rfl,g1,g2,g3,g4,g5,g6,g7⟩:=hst
  obtain⟨w1,w2,_⟩:=qaM qao kids hk j hj
  have htake:kids.take (j+1)=kids.take j++[kids[j]]:=List.take_succ_eq_append_getElem hj
  rw[List.drop_eq_getElem_cons hj] at g5
  have hih:=ih kids[j] (List.getElem_mem hj)
  have hl1:=g4.len
  rw[qoK,List.length_take,Nat.min_eq_left (by omega)] at hl1
  have hfr:qbv (kids.take (j+1)) s=((qbv (kids.take j) s).1++[(qfR kids[j] (qbv (kids.take j) s).2).1],(qfR kids[j] (qbv (kids.take j) s).2).2):=by
   rw[htake,qiL,qbv,qbv]
  have hbound:(qfR kids[j] (qbv (kids.take j) s).2).2.2<2 ^ 50:=by
   have hx:=hmono (kids.drop (j+1)) (qbv (kids.take (j+1)) s).2
   have e1:(qbv (kids.take (j+1)++kids.drop (j+1)) s).2=(qbv (kids.drop (j+1)) (qbv (kids.take (j+1)) s).2).2:=by rw[qiL]
   rw[List.take_append_drop] at e1
   rw[← e1,hfr] at hx
   dsimp only at hx
   omega
  have hlow:0≤(qbv (kids.take j) s).2.2:=by have:=hmono (kids.take j) s;omega
  rw[hfr]
  generalize kids[j]=t at *
  generalize qbv (kids.take j) s=rs at *
  obtain⟨p,f,ps2',f2',e1,e2,k3,k4⟩:=g5
  subst e1
  subst e2
  have hget:(ps.map qau)[j]? = some (qau p):=by rw[g2,List.getElem?_map,List.getElem?_append_right (by omega),hl1,Nat.sub_self];rfl
  have hfbm:∀ q∈f,q∈fks.flatten:=fun q hq=>by rw[g3];simp[hq]
  have hfl:fks.flatten=f1.flatten++(f++f2'.flatten):=by rw[g3,List.flatten_append,List.flatten_cons]
  have hnd':=hnd
  rw[hfl,List.nodup_append] at hnd'
  obtain⟨d1,d2,d3⟩:=hnd'
  rw[List.nodup_append] at d2
  obtain⟨d4,d5,d6⟩:=d2
  obtain⟨H2,q1,q2,q3,q4,q5⟩:=hih H' p f rs.2 pm pf pw r k3 d4 g1 (fun h=>h1 (hfbm _ h)) (fun h=>h2 (hfbm _ h)) (fun h=>h3 (hfbm _ h)) (fun h=>h4 (hfbm _ h)) hlow hbound
  have gw:=g1.w
  obtain⟨rr,hr0⟩:∃ rr,qa1 L.pure (call L) b [1000000,3,66,67,68] [1000000] qeX ⟨kt [3,66,67,68] [qau pw,.list (ps.map qau) ow,.int .i64 kids.length,.int .i64 j],H'⟩=rr:=⟨_,rfl⟩
  have hrr:=hr0
  generalize ps.map qau=PS at *
  unfold qau at hrr q1 gw hget
  unfold qeX at hrr
  simp -implicitDefEqProofs only[ev_,aOp,opd,qaa,qaA,qaz,qad,qab,qag,↓reduceIte,Nat.reduceEqDiff,w1,w2,hget,gw,q1] at hrr
  subst hrr
  refine⟨_,hr0,H2,ps1++[p],ps2',f1++[f],f2',rfl,q2,by rw[g2];simp,by rw[g3];simp,?_,?_,by omega,?_⟩
  ·refine (g4.frame fun q hq=>q5 q (fun e=>h2 (by rw[hfl,← e];simp[hq])) (fun e=>h4 (by rw[hfl,← e];simp[hq])) fun hm=>d3 q hq q (by simp[hm]) rfl).snoc q3
  ·refine k4.frame fun q hq=>q5 q (fun e=>h2 (by rw[hfl,← e];simp[hq])) (fun e=>h4 (by rw[hfl,← e];simp[hq])) fun hm=>d6 q hm q hq rfl
  ·intro q x1 x2 x3
   rw[q5 q x1 x2 (fun hm=>x3 (hfbm _ hm)),g7 q x1 x2 x3]
 ·intro st hst
  obtain⟨H',ps1,ps2,f1,f2,rfl,g1,g2,g3,g4,g5,g6,g7⟩:=hst
  have h0:=qaQ kids.length
  rw[List.drop_length] at g5
  obtain⟨e1,e2⟩:=g5
  subst e1
  subst e2
  rw[List.append_nil] at g2 g3
  subst g2
  subst g3
  rw[List.take_length] at g1 g4
  refine⟨_,?_,H',rfl,g1,g4,g6,g7⟩
  unfold qeX
  simp -implicitDefEqProofs only[ev_,aOp,opd,qaa,qaA,qaz,qab,gcE,↓reduceIte,Nat.reduceEqDiff,h0]
 ·exact⟨H,[],ps,[],fks,rfl,by rw[List.take_zero,qbv];exact hE,rfl,rfl,by rw[List.take_zero,qbv];exact⟨rfl,rfl⟩,hA,rfl,fun _ _ _ _=>rfl⟩
theorem qzQ (hL:Plain L) (h207:L.fns 207=some fn207) (h208:L.fns 208=some fn208) (t:CTree) (hf:TFit t):qpt L t:=by
 have hs:=hL.summ 207 (by rw[h207];simp)
 induction t using CTree.ind with
 | h op n binds kids alts ih =>
   intro H p fp s pm pf pw r hT hnd hE h1 h2 h3 h4 hs0 hs1
   cases hf with
   | mk _ _ _ _ _ hb hk ha hfk =>
   have ih':∀ k∈kids,qpt L k:=fun k hk=>ih k hk (hfk k hk)
   clear ih
   have hbl:binds.length<2 ^ 30:=by have:=hb;simp at this;omega
   have hab:∀ a∈alts,a.binds.length<2 ^ 30:=fun a ha=>by
    have:=qhl alts ha
    simp at hb
    have h3:(alts.flatMap (·.binds)).length=(alts.map fun a=>a.binds.length).sum:=List.length_flatMap
    omega
   cases hT with
   | mk _ _ _ _ _ _ bv fb ps ow fks avs oa fa hbox hbi hal hl1 hl2 hks =>
   have hK:=qqP hl1 hl2 hks
   clear hks
   obtain⟨n1,n2,n3,n4,n5⟩:=hE.ne
   rw[qfR] at hs1 ⊢
   dsimp only at hs1 ⊢
   have m1:=ql6 op binds s
   have m2:=qqJ alts (qdX op binds s)
   have m3:=qif kids (fun k _=>qoH k) (frA alts (qdX op binds s)).2
   have hpm:pm≠p:=fun e=>h1 (by simp[e])
   have hpf:pf≠p:=fun e=>h2 (by simp[e])
   have hpw:pw≠p:=fun e=>h3 (by simp[e])
   have hpr:r≠p:=fun e=>h4 (by simp[e])
   have hnd':=hnd
   rw[List.nodup_cons,List.nodup_append] at hnd'
   obtain⟨d0,d1,d2,d3⟩:=hnd'
   rw[List.nodup_append] at d2
   obtain⟨d4,d5,d6⟩:=d2
   have sb:∀ q∈fb,q∈p::(fb++(fa++fks.flatten)):=fun q hq=>by simp[hq]
   have sa:∀ q∈fa,q∈p::(fb++(fa++fks.flatten)):=fun q hq=>by simp[hq]
   have sk:∀ q∈fks.flatten,q∈p::(fb++(fa++fks.flatten)):=fun q hq=>List.mem_cons_of_mem _ (List.mem_append.2 (.inr (List.mem_append.2 (.inr hq))))
   have pb:p∉fb:=fun hm=>d0 (by simp[hm])
   have pa:p∉fa:=fun hm=>d0 (by simp[hm])
   have pk:p∉fks.flatten:=fun hm=>d0 (List.mem_append.2 (.inr (List.mem_append.2 (.inr hm))))
   have rest:∀ (H1:Heap) (n':Int),H1[p]? = some (.box [.int .i64 op,.int .i64 n',bv,.list (ps.map qau) ow,.list avs oa])→H1.length=H.length→(∀ q,q≠p→H1[q]? = H[q]?)→∃ H2 H3 H4,
    (op≠9→call L 208 [bv,qau pf,qau pm] H1=some (.val (.tuple []),H2))∧(op=9→H2=H1)∧H2[p]? = some (.box [.int .i64 op,.int .i64 n',bv,.list (ps.map qau) ow,.list avs oa]) ∧
    qa2 L.pure (call L) H2.length [1000000,0,3,7,48,49] [1000000,0,3] 0 qeW ⟨kt [0,3,7,48,49] [qau p,qau pw,.func 208 [] [qau pf,qau pm],.int .i64 alts.length,.int .i64 0],H2⟩=some (.normal,⟨kt [0,3] [qau p,qau pw],H3⟩)∧H3[p]? = some (.box [.int .i64 op,.int .i64 n',bv,.list (ps.map qau) ow,.list avs oa]) ∧
    qa2 L.pure (call L) H3.length [1000000,3,66,67,68] [1000000] 2 qeX ⟨kt [3,66,67,68] [qau pw,.list (ps.map qau) ow,.int .i64 kids.length,.int .i64 0],H3⟩=some (.normal,⟨kt [] [],H4⟩)∧RE H4 pm pf pw r (qbv kids (frA alts (qdX op binds s)).2).2 ∧
    HT H4 (.mk op n' (qk9 op binds s) (qbv kids (frA alts (qdX op binds s)).2).1 (frA alts (qdX op binds s)).1) p (p::(fb++(fa++fks.flatten)))∧H4.length=H.length ∧
    ∀ q,q≠pf→q≠r→q∉p::(fb++(fa++fks.flatten))→H4[q]? = H[q]? := by
    intro H1 n' hb1 hlen1 hk1
    have hE1:RE H1 pm pf pw r s:=⟨by rw[hk1 pm hpm];exact hE.m,by rw[hk1 pf hpf];exact hE.f,by rw[hk1 pw hpw];exact hE.w,by rw[hk1 r hpr];exact hE.r⟩
    have hbi1:=hbi.frame (H':=H1) fun q hq=>hk1 q fun e=>pb (e ▸ hq)
    have hal1:=hal.frame (H':=H1) fun q hq=>hk1 q fun e=>pa (e ▸ hq)
    have hK1:=hK.frame (H':=H1) fun q hq=>hk1 q fun e=>pk (e ▸ hq)
    have two:∃ H2,(op≠9→call L 208 [bv,qau pf,qau pm] H1=some (.val (.tuple []),H2))∧(op=9→H2=H1)∧RE H2 pm pf pw r (qdX op binds s)∧HInts H2 (qk9 op binds s) bv fb∧H2.length=H1.length∧∀ q,q≠pf→q≠r→q∉fb→H2[q]? = H1[q]? := by
     by_cases h9:op=9
     ·refine⟨H1,fun h=>absurd h9 h,fun _=>rfl,?_,?_,rfl,fun _ _ _ _=>rfl⟩
      ·rw[qdX,if_pos h9];exact hE1
      ·rw[qk9,if_pos h9];exact hbi1
     ·rw[qdX,if_neg h9] at m1 m2 m3 hs1 ⊢
      rw[qk9,if_neg h9]
      have hn:=qcU binds s
      obtain⟨H2,q1,q2,q3,q4,q5,q6⟩:=qwM hL h208 binds hbl s.1 s.2 hs0 (by omega) H1 bv fb hbi1 pf pm r hE1.f hE1.m hE1.r (fun h=>h2 (sb _ h)) (fun h=>h1 (sb _ h)) (fun h=>h4 (sb _ h)) n1 n2 n3
      refine⟨H2,fun _=>q1,fun h=>absurd h h9,?_,q4,q5,q6⟩
      refine hE1.frame q2 q3 fun q x1 x2 x3=>q6 q x1 x2 fun hm=>?_
      rcases x3 with rfl | rfl
      ·exact h1 (sb _ hm)
      ·exact h3 (sb _ hm)
    obtain⟨H2,t1,t2,t3,t4,t5,t6⟩:=two
    have hb2:H2[p]? = some (.box [.int .i64 op,.int .i64 n',bv,.list (ps.map qau) ow,.list avs oa]):=by rw[t6 p (fun e=>hpf e.symm) (fun e=>hpr e.symm) pb];exact hb1
    have hal2:=hal1.frame (H':=H2) fun q hq=>t6 q (fun e=>h2 (e ▸ sa _ hq)) (fun e=>h4 (e ▸ sa _ hq)) fun hm=>d3 q hm q (by simp[hq]) rfl
    have hK2:=hK1.frame (H':=H2) fun q hq=>t6 q (fun e=>h2 (e ▸ sk _ hq)) (fun e=>h4 (e ▸ sk _ hq)) fun hm=>d3 q hm q (List.mem_append.2 (.inr hq)) rfl
    obtain⟨T,u1,H3,rfl,u2,u3,u4,u5⟩:=qzO hL h208 (b:=H2.length) alts ha hab (qdX op binds s) (by omega) (by omega) H2 p pm pf pw r t3 _ _ _ _ avs oa fa hb2 hal2 d4 pa (fun e=>hpf e.symm) (fun e=>hpr e.symm) (fun h=>h1 (sa _ h)) (fun h=>h2 (sa _ h)) (fun h=>h3 (sa _ h)) (fun h=>h4 (sa _ h))
    have hb3:H3[p]? = some (.box [.int .i64 op,.int .i64 n',bv,.list (ps.map qau) ow,.list avs oa]):=by rw[u5 p (fun e=>hpf e.symm) (fun e=>hpr e.symm) pa];exact hb2
    have hK3:=hK2.frame (H':=H3) fun q hq=>u5 q (fun e=>h2 (e ▸ sk _ hq)) (fun e=>h4 (e ▸ sk _ hq)) fun hm=>d6 q hm q hq rfl
    have hbi3:=t4.frame (H':=H3) fun q hq=>u5 q (fun e=>h2 (e ▸ sb _ hq)) (fun e=>h4 (e ▸ sb _ hq)) fun hm=>d3 q hq q (by simp[hm]) rfl
    obtain⟨T,v1,H4,rfl,v2,v3,v4,v5⟩:=qzP (L:=L) (b:=H3.length) kids hk ih' (frA alts (qdX op binds s)).2 (by omega) hs1 H3 pm pf pw r u2 ps ow fks hK3 d5 (fun h=>h1 (sk _ h)) (fun h=>h2 (sk _ h)) (fun h=>h3 (sk _ h)) (fun h=>h4 (sk _ h))
    have hb4:H4[p]? = some (.box [.int .i64 op,.int .i64 n',bv,.list (ps.map qau) ow,.list avs oa]):=by rw[v5 p (fun e=>hpf e.symm) (fun e=>hpr e.symm) pk];exact hb3
    have hbi4:=hbi3.frame (H':=H4) fun q hq=>v5 q (fun e=>h2 (e ▸ sb _ hq)) (fun e=>h4 (e ▸ sb _ hq)) fun hm=>d3 q hq q (List.mem_append.2 (.inr hm)) rfl
    have hal4:=u3.frame (H':=H4) fun q hq=>v5 q (fun e=>h2 (e ▸ sa _ hq)) (fun e=>h4 (e ▸ sa _ hq)) fun hm=>d6 q hq q hm rfl
    obtain⟨x1,x2,x3⟩:=qqQ v3
    refine⟨H2,H3,H4,t1,t2,hb2,u1,hb3,v1,v2,.mk _ _ _ _ _ p bv fb ps ow fks avs oa fa hb4 hbi4 hal4 x1 x2 x3,by omega,fun q y1 y2 y3=>?_⟩
    have z1:q≠p:=fun e=>y3 (by simp[e])
    rw[v5 q y1 y2 (fun hm=>y3 (sk _ hm)),u5 q y1 y2 (fun hm=>y3 (sa _ hm)),t6 q y1 y2 (fun hm=>y3 (sb _ hm)),hk1 q z1]
   have hmm:=hE.m
   have hlk:=fun (h:Heap) (hr:h[r]? = some (.map (encB s.1)))=>qoh qat h r (.int .i64 0) true n s.1 hr
   have hlk:=hlk H hE.r
   have hav:=hal.len
   have hlp:=hlt hbox
   by_cases hset:(∃ x,qbu n s.1=some x)∧op=0
   ·obtain⟨⟨x,hx⟩,h0⟩:=hset
    subst h0
    rw[hx] at hlk
    dsimp only at hlk
    have hren:qzc 0 n s.1=x:=by unfold qzc;rw[hx];rfl
    rw[hren]
    obtain⟨H2,H3,H4,a1,a2,a3,a4,a5,a6,a7,a8,a9,a10⟩:=rest (H.set p (.box [.int .i64 0,.int .i64 x,bv,.list (ps.map qau) ow,.list avs oa])) x (hgs hlp) (by simp) (fun q hq=>hgn fun e=>hq e.symm)
    refine⟨H4,?_,a7,a8,a9,a10⟩
    have a1:=a1 (by decide)
    refine qaK hs h207 ?_
    clear rest
    have hPl:(ps.map qau).length=kids.length:=by simpa using hl1
    generalize ps.map qau=PS at *
    unfold qau at *
    unfold fn207
    simp -implicitDefEqProofs only[ev_,aOp,opd,qaa,qar,qaA,qa7,qaz,qab,qae,qag,qaI,qai,leaf,qaq,qap,qac,qaj,qay,↓reduceIte,reduceCtorEq,Nat.reduceEqDiff,Nat.reduceAdd,Nat.reduceLeDiff,Int.reduceBEq,qaT,hbox,hmm,hlk,a1,a3,a4,a5,a6,hav,hPl,hgs,hlp,bne]
   ·obtain⟨H2,H3,H4,a1,a2,a3,a4,a5,a6,a7,a8,a9,a10⟩:=rest H n hbox rfl (fun _ _=>rfl)
    have hPl:(ps.map qau).length=kids.length:=by simpa using hl1
    have hren:qzc op n s.1=n:=by
     unfold qzc
     cases hq:qbu n s.1 with
     | none=>rfl
     | some x=>exact if_neg fun h0=>hset ⟨⟨x,hq⟩,h0⟩
    rw[hren]
    refine⟨H4,?_,a7,a8,a9,a10⟩
    refine qaK hs h207 ?_
    clear rest hren
    generalize ps.map qau=PS at *
    unfold qau at *
    cases hq:qbu n s.1 with
    | none =>
      rw[hq] at hlk
      by_cases h9:op=9
      ·have a2:=a2 h9
       subst a2
       subst h9
       unfold fn207
       simp -implicitDefEqProofs only[ev_,aOp,opd,qaa,qaA,qa7,qaz,qab,qae,qag,qai,qap,qac,qaj,qay,↓reduceIte,reduceCtorEq,Nat.reduceEqDiff,hbox,hmm,hlk,a4,a5,a6,hav,hPl,bne]
      ·have a1:=a1 h9
       have h9':(op==9)=false:=by simpa using h9
       unfold fn207
       simp -implicitDefEqProofs only[ev_,aOp,opd,qaa,qaA,qa7,qaz,qab,qae,qag,qai,qap,qac,qaj,qay,↓reduceIte,reduceCtorEq,Nat.reduceEqDiff,hbox,hmm,hlk,a1,a3,a4,a5,a6,hav,hPl,h9',bne]
    | some x =>
      rw[hq] at hlk
      have h0':(op==0)=false:=by
       have:op≠0:=fun h0=>hset ⟨⟨x,hq⟩,h0⟩
       simpa using this
      by_cases h9:op=9
      ·have a2:=a2 h9
       subst a2
       subst h9
       unfold fn207
       simp -implicitDefEqProofs only[ev_,aOp,opd,qaa,qaA,qa7,qaz,qab,qae,qag,qai,qap,qac,qaj,qay,↓reduceIte,reduceCtorEq,Nat.reduceEqDiff,Int.reduceBEq,qaT,hbox,hmm,hlk,a4,a5,a6,hav,hPl,bne]
      ·have a1:=a1 h9
       have h9':(op==9)=false:=by simpa using h9
       unfold fn207
       simp -implicitDefEqProofs only[ev_,aOp,opd,qaa,qaA,qa7,qaz,qab,qae,qag,qai,qap,qac,qaj,qay,↓reduceIte,reduceCtorEq,Nat.reduceEqDiff,qaT,hbox,hmm,hlk,a1,a3,a4,a5,a6,hav,hPl,h0',h9',bne]
end
theorem HT.lt {H:Heap} {t:CTree} {p:Nat} {fp:List Nat} (h:HT H t p fp):∀ q∈fp,q<H.length:=by
 induction h with
 | mk op n binds kids alts p bv fb ps ow fks avs oa fa hbox hb ha hl1 hl2 hk ih =>
   intro q hq
   rcases List.mem_cons.1 hq with rfl | hq
   ·exact hlt hbox
   ·rcases List.mem_append.1 hq with hq | hq
    ·exact hb.lt q hq
    ·rcases List.mem_append.1 hq with hq | hq
     ·exact ha.lt q hq
     ·obtain⟨f,hf,hq⟩:=List.mem_flatten.1 hq
      obtain⟨i,hi,rfl⟩:=List.getElem_of_mem hf
      exact ih i (by omega) q hq
mutual
theorem qm0:∀ (t:CTree) (s:RS),hgt (qfR t s).1=hgt t
 | .mk op n binds kids alts,s=>by rw[qfR,hgt,hgt,qoJ]
theorem qoJ:∀ (ts:List CTree) (s:RS),qdi (qbv ts s).1=qdi ts
 | [],s=>by rw[qbv]
 | t::ts,s=>by rw[qbv,qdi,qdi,qm0 t,qoJ ts]
end
mutual
theorem qoI:∀ (t:CTree) (s:RS),qaR (qfR t s).1=qaR t
 | .mk op n binds kids alts,s=>by rw[qfR,qaR,qaR,ql7]
theorem ql7:∀ (ts:List CTree) (s:RS),qaC (qbv ts s).1=qaC ts
 | [],s=>by rw[qbv]
 | t::ts,s=>by rw[qbv,qaC,qaC,qoI t,ql7 ts]
end
theorem qvw (as:List CAlt):∀ s:RS,((frA as s).1.flatMap (·.binds)).length=(as.flatMap (·.binds)).length:=by
 induction as with
 | nil=>intro s;rfl
 | cons a as ih =>
   intro s
   rw[frA,List.flatMap_cons,List.flatMap_cons,List.length_append,List.length_append,ih,qcW]
theorem quk (op:Int) (binds:List Int) (s:RS):(qk9 op binds s).length=binds.length:=by
 unfold qk9
 split
 ·rfl
 ·exact qcW _ _
theorem qoL:∀ (ks:List CTree) (s:RS),∀ k'∈(qbv ks s).1,∃ k∈ks,∃ s',k'=(qfR k s').1
 | [],s,k',h=>by rw[qbv] at h;cases h
 | k :: ks,s,k',h => by
   rw[qbv] at h
   rcases List.mem_cons.1 h with h | h
   ·exact⟨k,by simp,s,h⟩
   ·obtain⟨q,hq,s',he⟩:=qoL ks _ k' h
    exact⟨q,by simp[hq],s',he⟩
theorem qrk (t:CTree) (h:TFit t):∀ s:RS,TFit (qfR t s).1:=by
 induction t using CTree.ind with
 | h op n binds kids alts ih =>
   intro s
   cases h with
   | mk _ _ _ _ _ hb hk ha hfk =>
   rw[qfR]
   refine .mk _ _ _ _ _ ?_ (by rw[qoK];exact hk) (by rw[qtm];exact ha) ?_
   ·rw[List.length_append] at hb ⊢
    rw[qvw,quk]
    exact hb
   ·intro k' hk'
    obtain⟨k,hk,s',rfl⟩:=qoL _ _ _ hk'
    exact ih k hk (hfk k hk) s'
theorem qAH {A l:Heap} {o o2 o3 b:AObj} {n:Nat} (h:n=A.length+2):(A++o::o2::o3::l).set n b=A++o::o2::b::l:=by subst h;simp
theorem qAI {A l:Heap} {o o2 o3 o4 b:AObj} {n:Nat} (h:n=A.length+3):(A++o::o2::o3::o4::l).set n b=A++o::o2::o3::b::l:=by subst h;simp
theorem qAG {A l:Heap} {o o2 o3 o4:AObj} {n:Nat} (h:n=A.length+3):(A++o::o2::o3::o4::l)[n]? = some o4:=by subst h;simp
theorem qjj (tm:Tmps) (h:Heap):qpc ⟨tm,h⟩=⟨fun i=>viewV h (tm i),h.map fun _=>.gone⟩:=rfl
section
variable {L:Lib}
theorem qrW (hL:Plain L) (hP:MPrims L) (h160:L.fns 160=some fm160) (e:List CExpr) (h:Heap) (hl:e.length<2 ^ 30) (hf:∀ x∈e,NodeFit x) (hT:TreeL e) (hh:hgt (qbr e)≤400) :
  pcall L 160 [.list (e.map qal) none] h=some (.val (qao (qbr e)),h):=by
 obtain⟨H,p,fp,h1,h2,_⟩:=qvU hL hP h160 e hl hf hT []
 have hv:=h2.look (by omega)
 obtain⟨tc,htc,hdt⟩:=qbz (qbr e)
 refine qco h1 ?_ (qbO _) h
 unfold qfo
 rw[if_neg (by simp[qau,wipeR,wipe,wipeCell,qaB]),hv,htc,qgw]
end
section
end
theorem qfa (a:Int) (n m:Nat):qih a (n+m)=qih a n++qih (a+n) m:=by
 unfold qih
 rw[List.range_add,List.map_append,List.map_map]
 congr 1
 refine List.map_congr_left fun i _=>?_
 simp only[Function.comp]
 omega
theorem qtn (as:List CAlt):∀ s:RS,(frA as s).2=frL (as.flatMap (·.binds)) s:=by
 induction as with
 | nil=>intro s;rfl
 | cons a as ih=>intro s;rw[frA,List.flatMap_cons,qh6];exact ih _
theorem qtl (as:List CAlt):∀ s:RS,(frA as s).1.flatMap (·.binds)=qih s.2 (as.flatMap (·.binds)).length:=by
 induction as with
 | nil=>intro s;rfl
 | cons a as ih =>
   intro s
   rw[frA,List.flatMap_cons,List.flatMap_cons,List.length_append,qfa,ih,qcU]
def BG (op:Int) (binds:List Int):Prop:=op≠9→qe4 op=false→binds=[]
def qz9 (op:Int) (binds:List Int):List Int:=if qe4 op=true then binds else []
theorem qhW (op:Int) (binds:List Int) (as:List CAlt):qaN op binds as=qz9 op binds++as.flatMap (·.binds):=rfl
theorem qrj {op:Int} {binds:List Int} (h:BG op binds) (s:RS):qdX op binds s=frL (qz9 op binds) s:=by
 unfold qdX qz9
 by_cases h9:op=9
 ·subst h9
  rfl
 ·rw[if_neg h9]
  cases ho:qe4 op with
  | true=>rfl
  | false=>rw[h h9 ho];rfl
theorem qoP {op:Int} {binds:List Int} (h:BG op binds) (as:List CAlt) (s:RS):(frA as (qdX op binds s)).2=frL (qaN op binds as) s:=by
 rw[qtn,qrj h,qhW,qh6]
theorem qp7 {op:Int} {binds:List Int} (h:BG op binds) (as:List CAlt) (s:RS):qaN op (qk9 op binds s) (frA as (qdX op binds s)).1=qih s.2 (qaN op binds as).length:=by
 rw[qhW,qhW,qtl,qrj h,List.length_append,qfa,qcU]
 congr 1
 unfold qz9 qk9
 cases ho:qe4 op with
 | true =>
   rw[if_pos rfl,if_pos rfl,if_neg]
   rintro rfl
   cases ho
 | false=>rfl
inductive BGt:CTree→Prop
 | mk (op n:Int) (binds:List Int) (kids:List CTree) (alts:List CAlt) (hb:BG op binds) (h0:op=0→kids=[]∧alts=[]) (h:∀ k∈kids,BGt k):BGt (.mk op n binds kids alts)
theorem qum (t:CTree) (h:BGt t):∀ s:RS,(qfR t s).2.2=s.2+((qbG t).flatMap qbF).length∧((qbG (qfR t s).1).flatMap qbF).Perm (qih s.2 ((qbG t).flatMap qbF).length):=by
 induction t using CTree.ind with
 | h op n binds kids alts ih =>
   intro s
   cases h with
   | mk _ _ _ _ _ hb hz hk =>
   have key:∀ (ks:List CTree),(∀ k∈ks,k∈kids)→∀ s:RS,(qbv ks s).2.2=s.2+((qbB ks).flatMap qbF).length∧((qbB (qbv ks s).1).flatMap qbF).Perm (qih s.2 ((qbB ks).flatMap qbF).length):=by
    intro ks
    induction ks with
    | nil=>intro _ s;rw[qbv,qbB];exact⟨by simp,List.Perm.refl _⟩
    | cons k ks ih2 =>
      intro hks s
      obtain⟨a1,a2⟩:=ih k (hks k (by simp)) (hk k (hks k (by simp))) s
      obtain⟨b1,b2⟩:=ih2 (fun q hq=>hks q (by simp[hq])) (qfR k s).2
      rw[qbv,qbB,qbB,List.flatMap_append,List.flatMap_append,List.length_append,qfa]
      refine⟨?_,?_⟩
      ·show (qbv ks (qfR k s).2).2.2=_
       omega
      ·rw[a1] at b2
       exact a2.append b2
   obtain⟨c1,c2⟩:=key kids (fun k hk=>hk) (frA alts (qdX op binds s)).2
   rw[qfR,qbG,qbG,List.flatMap_append,List.flatMap_append,List.flatMap_cons,List.flatMap_cons,List.flatMap_nil,List.append_nil,List.append_nil,List.length_append]
   have e1:qbF ⟨op,n,binds,kids.map qgK,alts⟩=qaN op binds alts:=rfl
   have e2:∀ ro,qbF ⟨op,qzc op n s.1,qk9 op binds s,ro,(frA alts (qdX op binds s)).1⟩=qih s.2 (qaN op binds alts).length:=fun ro=>qp7 hb alts s
   rw[e1,e2]
   rw[qoP hb,qcU] at c1
   rw[qoP hb] at c2 ⊢
   rw[qcU] at c2
   refine⟨?_,?_⟩
   ·show (qbv kids (frL (qaN op binds alts) s)).2.2=_
    omega
   ·rw[Nat.add_comm,qfa]
    exact List.perm_append_comm.trans (List.Perm.append_left _ c2)
theorem qwi {op n:Int} {binds:List Int} {kl:Nat} {as:List CAlt} (h:qba op n binds.length kl as=true):BG op binds∧(op=0→kl=0∧as=[]):=by
 unfold qba at h
 split at h
 ·rename_i ho
  simp only[Bool.and_eq_true,beq_iff_eq] at h
  refine⟨fun _ _=>List.length_eq_zero_iff.1 (by omega),fun h0=>?_⟩
  subst h0
  exact absurd ho (by decide)
 ·split at h
  ·cases h
  ·rename_i r hr
   unfold qbL at h
   simp only[Bool.and_eq_true,beq_iff_eq] at h
   obtain⟨⟨⟨a1,a2⟩,a3⟩,_⟩:=h
   refine⟨fun h9 hob=>List.length_eq_zero_iff.1 ?_,fun h0=>?_⟩
   ·unfold qe4 at hob
    simp only[Bool.or_eq_false_iff,beq_eq_false_iff_ne] at hob
    obtain⟨⟨o1,o2⟩,o3⟩:=hob
    unfold kbu at hr
    rw[if_neg o1,if_neg o2,if_neg o3,if_neg h9] at hr
    repeat' (split at hr)
    all_goals first
     | (cases hr;done)
     | (injection hr with hr;subst hr;simpa using a2)
   ·subst h0
    have:kbu 0 n binds.length kl=some (0,0,true):=rfl
    rw[this] at hr
    injection hr with hr
    subst hr
    exact⟨by simpa using a1,List.length_eq_zero_iff.1 (by simpa using a3)⟩
theorem qyF {l:Lab} (h:qbM false l=0):qrV l=0:=by
 unfold qbM at h
 split at h
 ·cases h
 ·exact h
theorem qcl {l:Lab} (h:qbM false l=0):qba l.op l.n l.binds.length l.kops.length l.alts=true∧qcv l.op l.n l.binds l.kops.length l.alts=0:=by
 have he:=qyF h
 unfold qrV at he
 split at he
 ·cases he
 ·rename_i h1
  split at he
  ·rename_i h2;exact absurd he h2
  ·rename_i h2
   exact⟨by simpa using h1,Classical.not_not.1 h2⟩
theorem qtS {k:CTree} {ks:List CTree} (h:k∈ks):∀ l∈qbG k,l∈qbB ks:=by
 induction ks with
 | nil=>cases h
 | cons a ks ih =>
   intro l hl
   rw[qbB]
   rcases List.mem_cons.1 h with h | h
   ·subst h;exact List.mem_append.2 (.inl hl)
   ·exact List.mem_append.2 (.inr (ih h l hl))
theorem qzl (t:CTree) (h:∀ l∈qbG t,qbM false l=0):BGt t:=by
 induction t using CTree.ind with
 | h op n binds kids alts ih =>
   rw[qbG] at h
   obtain⟨h1,_⟩:=qcl (h ⟨op,n,binds,kids.map qgK,alts⟩ (by simp))
   obtain⟨b1,b2⟩:=qwi h1
   refine .mk _ _ _ _ _ b1 (fun h0=>?_) fun k hk=>ih k hk fun l hl=>h l (List.mem_append.2 (.inl (qtS hk l hl)))
   obtain⟨x1,x2⟩:=b2 h0
   exact⟨by simpa using x1,x2⟩
def NM (s:RS):Prop:=∀ x y,qbu x s.1=some y→0≤y∧y<s.2
theorem NM.frL (l:List Int):∀ {s:RS},NM s→0≤s.2→NM (frL l s):=by
 induction l with
 | nil=>exact fun h _=>h
 | cons v l ih =>
   intro s h h0
   rw[qi7]
   refine ih (fun x y hxy=>?_) (by show 0≤s.2+1;omega)
   dsimp only at hxy ⊢
   rw[qcR] at hxy
   split at hxy
   ·injection hxy with hxy;omega
   ·have:=h x y hxy;omega
mutual
theorem qq1:∀ t:CTree,((qbG t).map fun l=>l.kops.length).sum+1=qaR t
 | .mk op n binds kids alts => by
   rw[qbG,qaR,List.map_append,List.sum_append]
   have:=qn9 kids
   simp
   omega
theorem qn9:∀ ts:List CTree,((qbB ts).map fun l=>l.kops.length).sum+ts.length=qaC ts
 | []=>by rw[qbB,qaC];rfl
 | t :: ts => by
   rw[qbB,qaC,List.map_append,List.sum_append,List.length_cons]
   have:=qq1 t
   have:=qn9 ts
   omega
end
theorem qyG {l:Lab} (h:qbM false l=0):(qbF l).length≤16+16*l.kops.length:=by
 obtain⟨h1,h2⟩:=qcl h
 have hf:=qe8 h2
 obtain⟨f1,f2⟩:=qhg l.alts (l.binds.length:Int)
 have h3:=qlB l.alts fun a ha=>by have:=f2 a ha;omega
 have h4:(qbF l).length≤l.binds.length+(l.alts.flatMap (·.binds)).length:=by
  have:=qmW l.op l.binds l.alts
  rw[List.length_append] at this
  exact this
 rcases qmd h1 with h5 | h5<;>omega
theorem qpE {t:CTree} (h:TOk t):((qbG t).flatMap qbF).length≤131072:=by
 have h1:∀ ls:List Lab,(∀ l∈ls,qbM false l=0)→(ls.flatMap qbF).length≤16*ls.length+16*(ls.map fun l=>l.kops.length).sum:=by
  intro ls
  induction ls with
  | nil=>intro _;simp
  | cons l ls ih =>
    intro hl
    have a1:=qyG (hl l (by simp))
    have a2:=ih fun x hx=>hl x (by simp[hx])
    rw[List.flatMap_cons,List.length_append,List.length_cons,List.map_cons,List.sum_cons]
    omega
 have h2:=h1 _ h.lab
 have h3:=qq1 t
 have h4:=h.size
 rw[qkp] at h2
 omega
section
end
def h7 (s:List Int):Heap:=if s=[] then [] else [.vec (s.map qat) 1]
section
end
end Go.Abs
