/-
  PARTS OF A PROOF, joined: an abstract machine for quiet code, its evaluation, and what the seat's functions answer on it. Conditions: none.
-/
import Derived.Test.YtpchghpipgpkfaaDoorHB
import Derived.Test.YtpchghpipgpkfaaDoorW
import Derived.Test.YtpchghpipgpkfaaDoorHA
import Derived.Test.YtpchghpipgpkfaaDoorC
set_option linter.unusedVariables false
set_option linter.unusedSimpArgs false
set_option maxRecDepth 100000
set_option maxHeartbeats 4000000
namespace Go.Abs
abbrev RS:=IM Int × Int
def frL (l:List Int) (s:RS):RS:=l.foldl (fun s v=>(qlv v s.2 s.1,s.2+1)) s
def qem (a:Int) (n:Nat):List Int:=(List.range n).map fun i:Nat=>a+(i:Int)
def frA:List CAlt→RS→List CAlt × RS
 | [],s=>([],s)
 | a::as,s=>(⟨a.tag,qem s.2 a.binds.length⟩::(frA as (frL a.binds s)).1,(frA as (frL a.binds s)).2)
def qoh (op n:Int) (m:IM Int):Int:=match qaW n m with | some x=>if op=0 then x else n | none=>n
def qfj (op:Int) (binds:List Int) (s:RS):List Int:=if op=9 then binds else qem s.2 binds.length
def qbT (op:Int) (binds:List Int) (s:RS):RS:=if op=9 then s else frL binds s
mutual
def qb3:CTree→RS→CTree × RS
 | .mk op n binds kids alts,s=>(.mk op (qoh op n s.1) (qfj op binds s) (qaU kids (frA alts (qbT op binds s)).2).1 (frA alts (qbT op binds s)).1,(qaU kids (frA alts (qbT op binds s)).2).2)
def qaU:List CTree→RS→List CTree × RS
 | [],s=>([],s)
 | k::ks,s=>((qb3 k s).1::(qaU ks (qb3 k s).2).1,(qaU ks (qb3 k s).2).2)
end
theorem qnC (s:RS):frL [] s=s:=rfl
theorem qd8 (v:Int) (l:List Int) (s:RS):frL (v::l) s=frL l (qlv v s.2 s.1,s.2+1):=rfl
theorem qc9 (l l':List Int) (s:RS):frL (l++l') s=frL l' (frL l s):=List.foldl_append
theorem qbU (l:List Int):∀ s:RS,(frL l s).2=s.2+l.length:=by
 induction l with
 | nil=>intro s;simp[frL]
 | cons v l ih=>intro s;rw[qd8,ih];simp;omega
theorem qcP (a:Int) (n:Nat):(qem a n).length=n:=by simp[qem]
theorem qv5 (a:Int) (n:Nat):qem a (n+1)=qem a n++[a+n]:=by unfold qem;rw[List.range_succ,List.map_append];rfl
theorem qqC (s:RS) (as:List CAlt):(frA as s).1.length=as.length:=by
 induction as generalizing s with
 | nil=>rfl
 | cons a as ih=>rw[frA];simp[ih]
theorem qi2 (as bs:List CAlt):∀ s:RS,frA (as++bs) s=((frA as s).1++(frA bs (frA as s).2).1,(frA bs (frA as s).2).2):=by
 induction as with
 | nil=>intro s;rfl
 | cons a as ih=>intro s;rw[List.cons_append,frA,frA,ih];rfl
theorem qjK (ks ls:List CTree):∀ s:RS,qaU (ks++ls) s=((qaU ks s).1++(qaU ls (qaU ks s).2).1,(qaU ls (qaU ks s).2).2):=by
 induction ks with
 | nil=>intro s;simp[qaU]
 | cons k ks ih=>intro s;rw[List.cons_append,qaU,qaU,ih];rfl
theorem qgz (ks:List CTree):∀ s:RS,(qaU ks s).1.length=ks.length:=by
 induction ks with
 | nil=>intro s;simp[qaU]
 | cons k ks ih=>intro s;rw[qaU];simp[ih]
section
variable {L:Lib}
theorem qyJ (hL:Plain L) (h208:L.fns 208=some fn208) (l:List Int) (hl:l.length<2 ^ 30) (m:IM Int) (a:Int) (ha:0≤a) (hb:a+l.length<2 ^ 50) (H:Heap) (v:AVal) (f:List Nat) (hv:HInts H l v f) (pf pm r:Nat)
  (hf:H[pf]? = some (.box [.int .i64 a])) (hm:H[pm]? = some (.box [.map (some r)])) (hr:H[r]? = some (.map (encB m))) (hpf:pf∉f) (hpm:pm∉f) (hrf:r∉f) (hfm:pf≠pm) (hfr:pf≠r) (hmr:pm≠r) :
  ∃ H',call L 208 [v,qar pf,qar pm] H=some (.val (.tuple []),H')∧H'[pf]? = some (.box [.int .i64 (frL l (m,a)).2])∧H'[r]? = some (.map (encB (frL l (m,a)).1))∧HInts H' (qem a l.length) v f∧H'.length=H.length∧∀ q,q≠pf→q≠r→q∉f→H'[q]? = H[q]? := by
 have hs:=hL.summ 208 (by rw[h208];simp)
 rcases hv with ⟨rfl,rfl,rfl⟩ | ⟨hne,id,rfl,hid,rfl⟩
 ·refine⟨H,?_,by rw[qnC];exact hf,hr,.inl ⟨rfl,rfl,rfl⟩,rfl,fun _ _ _ _=>rfl⟩
  refine qaL hs h208 ?_
  have hloop:qba L.pure (call L) H.length [1000000,0,1,2,6,7] [1000000] 0 qfH ⟨kt [0,1,2,6,7] [.list [] none,qar pf,qar pm,.int .i64 0,.int .i64 0],H⟩=some (.normal,⟨kt [] [],H⟩):=by
   refine qej ?_
   unfold qfH
   simp -implicitDefEqProofs only[ev_,aOp,opd,qaa,qaB,qaA,qab,gcE,↓reduceIte,reduceCtorEq,Nat.reduceEqDiff,Int.reduceLT]
  unfold qar at *
  unfold fn208
  simp -implicitDefEqProofs only[ev_,aOp,opd,qaa,qbd,qan,qac,qaj,↓reduceIte,reduceCtorEq,Nat.reduceEqDiff,hloop]
 ·have hfi:pf≠id:=fun e=>hpf (by simp[e])
  have hmi:pm≠id:=fun e=>hpm (by simp[e])
  have hri:r≠id:=fun e=>hrf (by simp[e])
  have hlf:=hlt hf
  have hlr:=hlt hr
  have hli:=hlt hid
  have hmf':pm≠pf:=fun e=>hfm e.symm
  have hrf':r≠pf:=fun e=>hfr e.symm
  have hrm':r≠pm:=fun e=>hmr e.symm
  have hif':id≠pf:=fun e=>hfi e.symm
  have him':id≠pm:=fun e=>hmi e.symm
  have hir':id≠r:=fun e=>hri e.symm
  obtain⟨T,ht,H',rfl,g1,g2,g3,g4,g5⟩:=qbQ (pure:=L.pure) (call:=call L) (b:=H.length) (keep:=[1000000,0,1,2,6,7]) (fk:=[1000000]) (id:=0) (body:=qfH)
   (fun j s=>∃ H',s=⟨kt [0,1,2,6,7] [.vec id l.length,qar pf,qar pm,.int .i64 l.length,.int .i64 j],H'⟩∧H'[pf]? = some (.box [.int .i64 (a+j)])∧H'[r]? = some (.map (encB (frL (l.take j) (m,a)).1)) ∧
    H'[id]? = some (.vec ((qem a j++l.drop j).map qav) 1)∧H'.length=H.length∧∀ q,q≠pf→q≠r→q≠id→H'[q]? = H[q]?) l.length
   (fun T=>∃ H',T=⟨kt [] [],H'⟩∧H'[pf]? = some (.box [.int .i64 (a+l.length)])∧H'[r]? = some (.map (encB (frL l (m,a)).1)) ∧
    H'[id]? = some (.vec ((qem a l.length).map qav) 1)∧H'.length=H.length∧∀ q,q≠pf→q≠r→q≠id→H'[q]? = H[q]?)
   (s0:=⟨kt [0,1,2,6,7] [.vec id l.length,qar pf,qar pm,.int .i64 l.length,.int .i64 0],H⟩)
   (by
    intro j s hj hs
    obtain⟨H',rfl,g1,g2,g3,g4,g5⟩:=hs
    have gm:H'[pm]? = some (.box [.map (some r)]):=by rw[g5 pm hmf' hmr hmi];exact hm
    obtain⟨h1,h2,_⟩:=qaN qav l hl j hj
    have h3:((qem a j++l.drop j).map qav)[j]? = some (qav l[j]):=by
     rw[List.getElem?_map,List.getElem?_append_right (by rw[qcP];omega),qcP,Nat.sub_self,List.drop_eq_getElem_cons hj]
     rfl
    have hcl:((qem a j++l.drop j).map qav).length=l.length:=by simp[qcP];omega
    have hput:((qem a j++l.drop j).map qav).take j++qav (a+j)::((qem a j++l.drop j).map qav).drop (j+1)=(qem a (j+1)++l.drop (j+1)).map qav:=by
     rw[qv5,← List.map_take,← List.map_drop,List.take_append_of_le_length (by rw[qcP];omega),List.take_of_length_le (by rw[qcP];omega),List.drop_append,List.drop_of_length_le (by rw[qcP];omega),qcP,List.drop_drop]
     have:j+(j+1-j)=j+1:=by omega
     simp[this]
    have hw:IntKind.i64.wrap (a+j+1)=a+((j+1:Nat):Int):=by rw[qcy (by omega) (by omega)];omega
    have hup:=fun (h:Heap) (hr:h[r]? = some (.map (encB (frL (l.take j) (m,a)).1)))=>qCc h r l[j] (a+j) _ hr
    have hfr':frL (l.take (j+1)) (m,a)=(qlv l[j] (a+j) (frL (l.take j) (m,a)).1,a+((j+1:Nat):Int)):=by
     rw[List.take_succ_eq_append_getElem hj,qc9]
     have:=qbU (l.take j) (m,a)
     rw[List.length_take,Nat.min_eq_left (by omega)] at this
     rw[qd8,qnC,this]
     simp
     omega
    rw[hfr']
    generalize (frL (l.take j) (m,a)).1=m1 at *
    generalize hcs:(qem a j++l.drop j).map qav=cs at *
    have hjl:j+1≤l.length:=by omega
    obtain⟨rr,hr0⟩:∃ rr,qbc L.pure (call L) H.length [1000000,0,1,2,6,7] [1000000] qfH ⟨kt [0,1,2,6,7] [.vec id l.length,qar pf,qar pm,.int .i64 l.length,.int .i64 j],H'⟩=rr:=⟨_,rfl⟩
    have hrr:=hr0
    rw[qa1] at hput h3
    have k1:=hlt g1
    have k2:=hlt g2
    have k3:=hlt g3
    unfold qar at hrr
    unfold qfH at hrr
    simp -implicitDefEqProofs only[ev_,aOp,opd,qaa,qay,qaB,qaA,qad,qab,qaf,qag,qaT,leaf,qat,qaz,↓reduceIte,reduceCtorEq,Nat.reduceEqDiff,ne_eq,Nat.mul_one,h1,h2,h3,hup,hcl,hjl,hput,g1,g2,g3,gm,hgs,hgn,k1,k2,k3,hfm,hfr,hmr,hfi,hmi,hri,hmf',hrf',hrm',hif',him',hir',hw] at hrr
    subst hrr
    refine⟨_,hr0,_,rfl,hgs (by simpa using k1),?_,?_,by simpa using g4,fun q q1 q2 q3=>?_⟩
    ·rw[hgn hfr,hgn hir',hgs k2]
    ·rw[hgn hfi,hgs (by simpa using k3),List.map_append]
    ·rw[hgn (fun e=>q1 e.symm),hgn (fun e=>q3 e.symm),hgn (fun e=>q2 e.symm)]
     exact g5 q q1 q2 q3)
   (by
    intro s hs
    obtain⟨H',rfl,g1,g2,g3,g4,g5⟩:=hs
    have h0:=qaQ l.length
    refine⟨⟨kt [] [],H'⟩,?_,H',rfl,g1,by rw[List.take_length] at g2;exact g2,by rw[List.drop_length,List.append_nil] at g3;exact g3,g4,g5⟩
    unfold qfH
    simp -implicitDefEqProofs only[ev_,aOp,opd,qaa,qaB,qaA,qab,gcE,↓reduceIte,reduceCtorEq,Nat.reduceEqDiff,h0])
   ⟨H,rfl,by simpa using hf,hr,by simpa[qem] using hid,rfl,fun _ _ _ _=>rfl⟩
  refine⟨H',?_,by rw[qbU];exact g1,g2,.inr ⟨by intro e;have:=congrArg List.length e;rw[qcP] at this;exact hne (List.length_eq_zero_iff.1 this),id,by rw[qcP],g3,rfl⟩,g4,fun q h1 h2 h3=>g5 q h1 h2 (fun e=>h3 (by simp[e]))⟩
  refine qaL hs h208 ?_
  unfold qar at *
  unfold fn208
  simp -implicitDefEqProofs only[ev_,aOp,opd,qaa,qbd,qan,qac,qaj,↓reduceIte,reduceCtorEq,Nat.reduceEqDiff,ht]
end
def HKids (H:Heap):List CTree→List Nat→List (List Nat)→Prop
 | [],ps,fs=>ps=[]∧fs=[]
 | t::ts,ps,fs=>∃ p f ps' fs',ps=p::ps'∧fs=f::fs'∧HT H t p f∧HKids H ts ps' fs'
theorem qrH {H:Heap}:∀ {ts:List CTree} {ps:List Nat} {fs:List (List Nat)} (h1:ps.length=ts.length) (h2:fs.length=ts.length),(∀ (i:Nat) (hi:i<ts.length),HT H ts[i] (ps[i]'(by omega)) (fs[i]'(by omega)))→HKids H ts ps fs
 | [],ps,fs,h1,h2,h=>⟨List.length_eq_zero_iff.1 h1,List.length_eq_zero_iff.1 h2⟩
 | t::ts,[],fs,h1,h2,h=>by simp at h1
 | t::ts,p::ps,[],h1,h2,h=>by simp at h2
 | t::ts,p::ps,f::fs,h1,h2,h=>⟨p,f,ps,fs,rfl,rfl,h 0 (by simp),qrH (by simpa using h1) (by simpa using h2) fun i hi=>h (i+1) (by simp;omega)⟩
theorem qrI {H:Heap}:∀ {ts:List CTree} {ps:List Nat} {fs:List (List Nat)},HKids H ts ps fs→∃ (h1:ps.length=ts.length) (h2:fs.length=ts.length),∀ (i:Nat) (hi:i<ts.length),HT H ts[i] (ps[i]'(by omega)) (fs[i]'(by omega))
 | [],ps,fs,h => by
   obtain⟨rfl,rfl⟩:=h
   exact⟨rfl,rfl,fun i hi=>absurd hi (by simp)⟩
 | t :: ts,ps,fs,⟨p,f,ps',fs',e1,e2,h3,h4⟩ => by
   subst e1
   subst e2
   obtain⟨h5,h6,h7⟩:=qrI h4
   refine⟨by simp[h5],by simp[h6],fun i hi=>?_⟩
   cases i with
   | zero=>exact h3
   | succ i=>exact h7 i (by simpa using hi)
theorem HKids.frame {H H':Heap}:∀ {ts:List CTree} {ps:List Nat} {fs:List (List Nat)},HKids H ts ps fs→(∀ q∈fs.flatten,H'[q]? = H[q]?)→HKids H' ts ps fs
 | [],ps,fs,h,_=>h
 | t::ts,ps,fs,⟨p,f,ps',fs',e1,e2,h3,h4⟩,he=>⟨p,f,ps',fs',e1,e2,h3.frame fun q hq=>he q (by rw[e2];simp[hq]),h4.frame fun q hq=>he q (by
   rw[e2,List.flatten_cons]
   exact List.mem_append.2 (.inr hq))⟩
theorem HKids.snoc {H:Heap} {t:CTree} {p:Nat} {f:List Nat} (ht:HT H t p f):∀ {ts:List CTree} {ps:List Nat} {fs:List (List Nat)},HKids H ts ps fs→HKids H (ts++[t]) (ps++[p]) (fs++[f])
 | [],ps,fs,h => by
   obtain⟨rfl,rfl⟩:=h
   exact⟨p,f,[],[],rfl,rfl,ht,rfl,rfl⟩
 | t'::ts,ps,fs,⟨p',f',ps',fs',e1,e2,h3,h4⟩=>⟨p',f',_,_,by rw[e1];rfl,by rw[e2];rfl,h3,h4.snoc ht⟩
theorem HKids.len {H:Heap}:∀ {ts:List CTree} {ps:List Nat} {fs:List (List Nat)},HKids H ts ps fs→ps.length=ts.length
 | [],ps,fs,h=>by obtain⟨rfl,_⟩:=h;rfl
 | t::ts,ps,fs,⟨p,f,ps',fs',e1,e2,h3,h4⟩=>by rw[e1];simp[h4.len]
structure RE (H:Heap) (pm pf pw r:Nat) (s:RS):Prop where
 m:H[pm]? = some (.box [.map (some r)])
 f:H[pf]? = some (.box [.int .i64 s.2])
 w:H[pw]? = some (.box [.func 207 [] [qar pm,qar pf,qar pw]])
 r:H[r]? = some (.map (encB s.1))
theorem RE.ne {H:Heap} {pm pf pw r:Nat} {s:RS} (h:RE H pm pf pw r s):pf≠pm∧pf≠r∧pm≠r∧pw≠pf∧pw≠r:=by
 have h1:=h.m
 have h2:=h.f
 have h3:=h.w
 have h4:=h.r
 refine⟨?_,?_,?_,?_,?_⟩<;>rintro rfl
 ·rw[h1] at h2;cases h2
 ·rw[h4] at h2;cases h2
 ·rw[h1] at h4;cases h4
 ·rw[h3] at h2;cases h2
 ·rw[h3] at h4;cases h4
theorem RE.frame {H H':Heap} {pm pf pw r:Nat} {s s':RS} (h:RE H pm pf pw r s) (hf:H'[pf]? = some (.box [.int .i64 s'.2])) (hr:H'[r]? = some (.map (encB s'.1))) (he:∀ q,q≠pf→q≠r→(q=pm∨q=pw)→H'[q]? = H[q]?):RE H' pm pf pw r s':=by
 obtain⟨a,b,c,d,e⟩:=h.ne
 exact⟨by rw[he pm (fun x=>a x.symm) c (.inl rfl)];exact h.m,hf,by rw[he pw d e (.inr rfl)];exact h.w,hr⟩
section
variable {L:Lib}
theorem qBP (hL:Plain L) (h208:L.fns 208=some fn208) {b:Nat} (alts:List CAlt) (ha:alts.length<2 ^ 30) (hab:∀ a∈alts,a.binds.length<2 ^ 30) (s:RS) (hs0:0≤s.2) (hs1:(frA alts s).2.2<2 ^ 50) (H:Heap) (p pm pf pw r:Nat) (hE:RE H pm pf pw r s)
  (c1 c2 c3 c4:AVal) (avs:List AVal) (oa:Option (Option Nat)) (fa:List Nat) (hn:H[p]? = some (.box [c1,c2,c3,c4,.list avs oa])) (hA:HAlts H alts avs fa) (hnd:fa.Nodup) (hpa:p∉fa) (hp1:p≠pf) (hp2:p≠r) (h1:pm∉fa) (h2:pf∉fa) (h3:pw∉fa) (h4:r∉fa) :
  ∃ T,qba L.pure (call L) b [1000000,0,3,7,48,49] [1000000,0,3] 0 qfF ⟨kt [0,3,7,48,49] [qar p,qar pw,.func 208 [] [qar pf,qar pm],.int .i64 alts.length,.int .i64 0],H⟩=some (.normal,T) ∧
   ∃ H',T=⟨kt [0,3] [qar p,qar pw],H'⟩∧RE H' pm pf pw r (frA alts s).2∧HAlts H' (frA alts s).1 avs fa∧H'.length=H.length∧∀ q,q≠pf→q≠r→q∉fa→H'[q]? = H[q]? := by
 have hmono:∀ as:List CAlt,∀ s:RS,s.2≤(frA as s).2.2:=by
  intro as
  induction as with
  | nil=>intro s;exact Int.le_refl _
  | cons a as ih =>
    intro s
    rw[frA]
    have:=ih (frL a.binds s)
    rw[qbU] at this
    show s.2≤(frA as (frL a.binds s)).2.2
    omega
 refine qbQ (pure:=L.pure) (call:=call L) (b:=b) (id:=0) (body:=qfF)
  (fun j st=>∃ H' av1 av2 f1 f2,st=⟨kt [0,3,7,48,49] [qar p,qar pw,.func 208 [] [qar pf,qar pm],.int .i64 alts.length,.int .i64 j],H'⟩∧RE H' pm pf pw r (frA (alts.take j) s).2∧avs=av1++av2∧fa=f1++f2 ∧
   HAlts H' (frA (alts.take j) s).1 av1 f1∧HAlts H' (alts.drop j) av2 f2∧H'.length=H.length∧∀ q,q≠pf→q≠r→q∉fa→H'[q]? = H[q]?) alts.length _ ?_ ?_ ?_
 ·intro j st hj hst
  obtain⟨H',av1,av2,f1,f2,rfl,g1,g2,g3,g4,g5,g6,g7⟩:=hst
  obtain⟨w1,w2,_⟩:=qaN qas alts ha j hj
  have htake:alts.take (j+1)=alts.take j++[alts[j]]:=List.take_succ_eq_append_getElem hj
  rw[List.drop_eq_getElem_cons hj] at g5
  have hb:=hab alts[j] (List.getElem_mem hj)
  have hl1:=g4.len
  rw[qqC,List.length_take,Nat.min_eq_left (by omega)] at hl1
  have hbound:(frA (alts.take j) s).2.2+alts[j].binds.length<2 ^ 50:=by
   have hx:=hmono (alts.drop (j+1)) (frA (alts.take (j+1)) s).2
   have e1:(frA (alts.take (j+1)++alts.drop (j+1)) s).2=(frA (alts.drop (j+1)) (frA (alts.take (j+1)) s).2).2:=by rw[qi2]
   rw[List.take_append_drop] at e1
   rw[← e1] at hx
   rw[htake,qi2] at hx
   dsimp only at hx
   have hy:((frA [alts[j]] (frA (alts.take j) s).2).2).2=(frA (alts.take j) s).2.2+alts[j].binds.length:=by
    rw[frA]
    show (frL alts[j].binds _).2=_
    rw[qbU]
   omega
  have hlow:0≤(frA (alts.take j) s).2.2:=by have:=hmono (alts.take j) s;omega
  have hfr:frA (alts.take (j+1)) s=((frA (alts.take j) s).1++[⟨alts[j].tag,qem (frA (alts.take j) s).2.2 alts[j].binds.length⟩],frL alts[j].binds (frA (alts.take j) s).2):=by
   rw[htake,qi2]
   rfl
  rw[hfr]
  generalize alts[j]=a at *
  generalize frA (alts.take j) s=rs at *
  obtain⟨bv,fb,av2',f2',e1,e2,k3,k4⟩:=g5
  subst e1
  subst e2
  have hnode:H'[p]? = some (.box [c1,c2,c3,c4,.list avs oa]):=by rw[g7 p hp1 hp2 hpa];exact hn
  have hget:avs[j]? = some (.agg [.int .i64 a.tag,bv]):=by rw[g2,List.getElem?_append_right (by omega),hl1,Nat.sub_self];rfl
  have hfbm:∀ q∈fb,q∈fa:=fun q hq=>by rw[g3];simp[hq]
  obtain⟨n1,n2,n3,n4,n5⟩:=g1.ne
  obtain⟨H2,q1,q2,q3,q4,q5,q6⟩:=qyJ hL h208 a.binds hb rs.2.1 rs.2.2 hlow hbound H' bv fb k3 pf pm r g1.f g1.m g1.r (fun h=>h2 (hfbm _ h)) (fun h=>h1 (hfbm _ h)) (fun h=>h4 (hfbm _ h)) n1 n2 n3
  have hnd':=hnd
  rw[g3,List.nodup_append] at hnd'
  obtain⟨d1,d2,d3⟩:=hnd'
  rw[List.nodup_append] at d2
  obtain⟨d4,d5,d6⟩:=d2
  obtain⟨rr,hr0⟩:∃ rr,qbc L.pure (call L) b [1000000,0,3,7,48,49] [1000000,0,3] qfF ⟨kt [0,3,7,48,49] [qar p,qar pw,.func 208 [] [qar pf,qar pm],.int .i64 alts.length,.int .i64 j],H'⟩=rr:=⟨_,rfl⟩
  have hrr:=hr0
  unfold qar at hrr q1
  unfold qfF at hrr
  simp -implicitDefEqProofs only[ev_,aOp,opd,qaa,qaB,qaA,qad,qab,qag,qai,↓reduceIte,reduceCtorEq,Nat.reduceEqDiff,Nat.reduceAdd,w1,w2,hnode,hget,q1] at hrr
  subst hrr
  refine⟨_,hr0,H2,av1++[.agg [.int .i64 a.tag,bv]],av2',f1++fb,f2',rfl,?_,by rw[g2];simp,by rw[g3];simp,?_,?_,by omega,?_⟩
  ·refine g1.frame q2 q3 fun q x1 x2 x3=>q6 q x1 x2 fun hm=>?_
   rcases x3 with rfl | rfl
   ·exact h1 (hfbm _ hm)
   ·exact h3 (hfbm _ hm)
  ·refine (g4.frame fun q hq=>q6 q (fun e=>h2 (by rw[g3,← e];simp[hq])) (fun e=>h4 (by rw[g3,← e];simp[hq])) fun hm=>d3 q hq q (by simp[hm]) rfl).snoc ?_
   exact q4
  ·refine k4.frame fun q hq=>q6 q (fun e=>h2 (by rw[g3,← e];simp[hq])) (fun e=>h4 (by rw[g3,← e];simp[hq])) fun hm=>d6 q hm q hq rfl
  ·intro q x1 x2 x3
   rw[q6 q x1 x2 (fun hm=>x3 (hfbm _ hm)),g7 q x1 x2 x3]
 ·intro st hst
  obtain⟨H',av1,av2,f1,f2,rfl,g1,g2,g3,g4,g5,g6,g7⟩:=hst
  have h0:=qaQ alts.length
  rw[List.drop_length] at g5
  obtain⟨e1,e2⟩:=g5
  subst e1
  subst e2
  rw[List.append_nil] at g2 g3
  subst g2
  subst g3
  rw[List.take_length] at g1 g4
  refine⟨_,?_,H',rfl,g1,g4,g6,g7⟩
  unfold qfF
  simp -implicitDefEqProofs only[ev_,aOp,opd,qaa,qaB,qaA,qab,gcE,↓reduceIte,reduceCtorEq,Nat.reduceEqDiff,h0]
 ·exact⟨H,[],avs,[],fa,rfl,hE,rfl,rfl,⟨rfl,rfl⟩,hA,rfl,fun _ _ _ _=>rfl⟩
end
theorem qnB:∀ (as:List CAlt) (s:RS),s.2≤(frA as s).2.2:=by
 intro as
 induction as with
 | nil=>intro s;exact Int.le_refl _
 | cons a as ih =>
   intro s
   rw[frA]
   have:=ih (frL a.binds s)
   rw[qbU] at this
   show s.2≤(frA as (frL a.binds s)).2.2
   omega
theorem qjd (op:Int) (binds:List Int) (s:RS):s.2≤(qbT op binds s).2:=by
 unfold qbT
 split
 ·exact Int.le_refl _
 ·rw[qbU];omega
theorem qfk (ks:List CTree) (h:∀ k∈ks,∀ s:RS,s.2≤(qb3 k s).2.2):∀ s:RS,s.2≤(qaU ks s).2.2:=by
 induction ks with
 | nil=>intro s;rw[qaU];exact Int.le_refl _
 | cons k ks ih =>
   intro s
   rw[qaU]
   have h1:=h k (by simp) s
   have h2:=ih (fun q hq=>h q (by simp[hq])) (qb3 k s).2
   show s.2≤(qaU ks (qb3 k s).2).2.2
   omega
theorem qgx (t:CTree):∀ s:RS,s.2≤(qb3 t s).2.2:=by
 induction t using CTree.ind with
 | h op n binds kids alts ih =>
   intro s
   rw[qb3]
   have h1:=qjd op binds s
   have h2:=qnB alts (qbT op binds s)
   have h3:=qfk kids ih (frA alts (qbT op binds s)).2
   dsimp only
   omega
def qqa (L:Lib) (t:CTree):Prop:=∀ (H:Heap) (p:Nat) (fp:List Nat) (s:RS) (pm pf pw r:Nat),HT H t p fp→fp.Nodup→RE H pm pf pw r s→pm∉fp→pf∉fp→pw∉fp→r∉fp→0≤s.2→(qb3 t s).2.2<2 ^ 50 →
 ∃ H',call L 207 [qar p,qar pm,qar pf,qar pw] H=some (.val (.tuple []),H')∧RE H' pm pf pw r (qb3 t s).2∧HT H' (qb3 t s).1 p fp∧H'.length=H.length∧∀ q,q≠pf→q≠r→q∉fp→H'[q]? = H[q]?
section
variable {L:Lib}
theorem qBQ {b:Nat} (kids:List CTree) (hk:kids.length<2 ^ 30) (ih:∀ k∈kids,qqa L k) (s:RS) (hs0:0≤s.2) (hs1:(qaU kids s).2.2<2 ^ 50) (H:Heap) (pm pf pw r:Nat) (hE:RE H pm pf pw r s)
  (ps:List Nat) (ow:Option (Option Nat)) (fks:List (List Nat)) (hA:HKids H kids ps fks) (hnd:fks.flatten.Nodup) (h1:pm∉fks.flatten) (h2:pf∉fks.flatten) (h3:pw∉fks.flatten) (h4:r∉fks.flatten) :
  ∃ T,qba L.pure (call L) b [1000000,3,66,67,68] [1000000] 2 qfG ⟨kt [3,66,67,68] [qar pw,.list (ps.map qar) ow,.int .i64 kids.length,.int .i64 0],H⟩=some (.normal,T) ∧
   ∃ H',T=⟨kt [] [],H'⟩∧RE H' pm pf pw r (qaU kids s).2∧HKids H' (qaU kids s).1 ps fks∧H'.length=H.length∧∀ q,q≠pf→q≠r→q∉fks.flatten→H'[q]? = H[q]? := by
 have hmono:=fun (ks:List CTree) (s:RS)=>qfk ks (fun k _=>qgx k) s
 refine qbQ (pure:=L.pure) (call:=call L) (b:=b) (id:=2) (body:=qfG)
  (fun j st=>∃ H' ps1 ps2 f1 f2,st=⟨kt [3,66,67,68] [qar pw,.list (ps.map qar) ow,.int .i64 kids.length,.int .i64 j],H'⟩∧RE H' pm pf pw r (qaU (kids.take j) s).2∧ps=ps1++ps2∧fks=f1++f2 ∧
   HKids H' (qaU (kids.take j) s).1 ps1 f1∧HKids H' (kids.drop j) ps2 f2∧H'.length=H.length∧∀ q,q≠pf→q≠r→q∉fks.flatten→H'[q]? = H[q]?) kids.length _ ?_ ?_ ?_
 ·intro j st hj hst
  obtain⟨H',ps1,ps2,f1,f2,rfl,g1,g2,g3,g4,g5,g6,g7⟩:=hst
  obtain⟨w1,w2,_⟩:=qaN qao kids hk j hj
  have htake:kids.take (j+1)=kids.take j++[kids[j]]:=List.take_succ_eq_append_getElem hj
  rw[List.drop_eq_getElem_cons hj] at g5
  have hih:=ih kids[j] (List.getElem_mem hj)
  have hl1:=g4.len
  rw[qgz,List.length_take,Nat.min_eq_left (by omega)] at hl1
  have hfr:qaU (kids.take (j+1)) s=((qaU (kids.take j) s).1++[(qb3 kids[j] (qaU (kids.take j) s).2).1],(qb3 kids[j] (qaU (kids.take j) s).2).2):=by
   rw[htake,qjK,qaU,qaU]
  have hbound:(qb3 kids[j] (qaU (kids.take j) s).2).2.2<2 ^ 50:=by
   have hx:=hmono (kids.drop (j+1)) (qaU (kids.take (j+1)) s).2
   have e1:(qaU (kids.take (j+1)++kids.drop (j+1)) s).2=(qaU (kids.drop (j+1)) (qaU (kids.take (j+1)) s).2).2:=by rw[qjK]
   rw[List.take_append_drop] at e1
   rw[← e1,hfr] at hx
   dsimp only at hx
   omega
  have hlow:0≤(qaU (kids.take j) s).2.2:=by have:=hmono (kids.take j) s;omega
  rw[hfr]
  generalize kids[j]=t at *
  generalize qaU (kids.take j) s=rs at *
  obtain⟨p,f,ps2',f2',e1,e2,k3,k4⟩:=g5
  subst e1
  subst e2
  have hget:(ps.map qar)[j]? = some (qar p):=by rw[g2,List.getElem?_map,List.getElem?_append_right (by omega),hl1,Nat.sub_self];rfl
  have hfbm:∀ q∈f,q∈fks.flatten:=fun q hq=>by rw[g3];simp[hq]
  have hfl:fks.flatten=f1.flatten++(f++f2'.flatten):=by rw[g3,List.flatten_append,List.flatten_cons]
  have hnd':=hnd
  rw[hfl,List.nodup_append] at hnd'
  obtain⟨d1,d2,d3⟩:=hnd'
  rw[List.nodup_append] at d2
  obtain⟨d4,d5,d6⟩:=d2
  obtain⟨H2,q1,q2,q3,q4,q5⟩:=hih H' p f rs.2 pm pf pw r k3 d4 g1 (fun h=>h1 (hfbm _ h)) (fun h=>h2 (hfbm _ h)) (fun h=>h3 (hfbm _ h)) (fun h=>h4 (hfbm _ h)) hlow hbound
  have gw:=g1.w
  obtain⟨rr,hr0⟩:∃ rr,qbc L.pure (call L) b [1000000,3,66,67,68] [1000000] qfG ⟨kt [3,66,67,68] [qar pw,.list (ps.map qar) ow,.int .i64 kids.length,.int .i64 j],H'⟩=rr:=⟨_,rfl⟩
  have hrr:=hr0
  generalize ps.map qar=PS at *
  unfold qar at hrr q1 gw hget
  unfold qfG at hrr
  simp -implicitDefEqProofs only[ev_,aOp,opd,qaa,qaB,qaA,qad,qab,qag,↓reduceIte,Nat.reduceEqDiff,w1,w2,hget,gw,q1] at hrr
  subst hrr
  refine⟨_,hr0,H2,ps1++[p],ps2',f1++[f],f2',rfl,q2,by rw[g2];simp,by rw[g3];simp,?_,?_,by omega,?_⟩
  ·refine (g4.frame fun q hq=>q5 q (fun e=>h2 (by rw[hfl,← e];simp[hq])) (fun e=>h4 (by rw[hfl,← e];simp[hq])) fun hm=>d3 q hq q (by simp[hm]) rfl).snoc q3
  ·refine k4.frame fun q hq=>q5 q (fun e=>h2 (by rw[hfl,← e];simp[hq])) (fun e=>h4 (by rw[hfl,← e];simp[hq])) fun hm=>d6 q hm q hq rfl
  ·intro q x1 x2 x3
   rw[q5 q x1 x2 (fun hm=>x3 (hfbm _ hm)),g7 q x1 x2 x3]
 ·intro st hst
  obtain⟨H',ps1,ps2,f1,f2,rfl,g1,g2,g3,g4,g5,g6,g7⟩:=hst
  have h0:=qaQ kids.length
  rw[List.drop_length] at g5
  obtain⟨e1,e2⟩:=g5
  subst e1
  subst e2
  rw[List.append_nil] at g2 g3
  subst g2
  subst g3
  rw[List.take_length] at g1 g4
  refine⟨_,?_,H',rfl,g1,g4,g6,g7⟩
  unfold qfG
  simp -implicitDefEqProofs only[ev_,aOp,opd,qaa,qaB,qaA,qab,gcE,↓reduceIte,Nat.reduceEqDiff,h0]
 ·exact⟨H,[],ps,[],fks,rfl,by rw[List.take_zero,qaU];exact hE,rfl,rfl,by rw[List.take_zero,qaU];exact⟨rfl,rfl⟩,hA,rfl,fun _ _ _ _=>rfl⟩
theorem qyK (hL:Plain L) (h207:L.fns 207=some fn207) (h208:L.fns 208=some fn208) (t:CTree) (hf:TFit t):qqa L t:=by
 have hs:=hL.summ 207 (by rw[h207];simp)
 induction t using CTree.ind with
 | h op n binds kids alts ih =>
   intro H p fp s pm pf pw r hT hnd hE h1 h2 h3 h4 hs0 hs1
   cases hf with
   | mk _ _ _ _ _ hb hk ha hfk =>
   have ih':∀ k∈kids,qqa L k:=fun k hk=>ih k hk (hfk k hk)
   clear ih
   have hbl:binds.length<2 ^ 30:=by have:=hb;simp at this;omega
   have hab:∀ a∈alts,a.binds.length<2 ^ 30:=fun a ha=>by
    have:=qib alts ha
    simp at hb
    have h3:(alts.flatMap (·.binds)).length=(alts.map fun a=>a.binds.length).sum:=List.length_flatMap
    omega
   cases hT with
   | mk _ _ _ _ _ _ bv fb ps ow fks avs oa fa hbox hbi hal hl1 hl2 hks =>
   have hK:=qrH hl1 hl2 hks
   clear hks
   obtain⟨n1,n2,n3,n4,n5⟩:=hE.ne
   rw[qb3] at hs1 ⊢
   dsimp only at hs1 ⊢
   have m1:=qjd op binds s
   have m2:=qnB alts (qbT op binds s)
   have m3:=qfk kids (fun k _=>qgx k) (frA alts (qbT op binds s)).2
   have hpm:pm≠p:=fun e=>h1 (by simp[e])
   have hpf:pf≠p:=fun e=>h2 (by simp[e])
   have hpw:pw≠p:=fun e=>h3 (by simp[e])
   have hpr:r≠p:=fun e=>h4 (by simp[e])
   have hnd':=hnd
   rw[List.nodup_cons,List.nodup_append] at hnd'
   obtain⟨d0,d1,d2,d3⟩:=hnd'
   rw[List.nodup_append] at d2
   obtain⟨d4,d5,d6⟩:=d2
   have sb:∀ q∈fb,q∈p::(fb++(fa++fks.flatten)):=fun q hq=>by simp[hq]
   have sa:∀ q∈fa,q∈p::(fb++(fa++fks.flatten)):=fun q hq=>by simp[hq]
   have sk:∀ q∈fks.flatten,q∈p::(fb++(fa++fks.flatten)):=fun q hq=>List.mem_cons_of_mem _ (List.mem_append.2 (.inr (List.mem_append.2 (.inr hq))))
   have pb:p∉fb:=fun hm=>d0 (by simp[hm])
   have pa:p∉fa:=fun hm=>d0 (by simp[hm])
   have pk:p∉fks.flatten:=fun hm=>d0 (List.mem_append.2 (.inr (List.mem_append.2 (.inr hm))))
   have rest:∀ (H1:Heap) (n':Int),H1[p]? = some (.box [.int .i64 op,.int .i64 n',bv,.list (ps.map qar) ow,.list avs oa])→H1.length=H.length→(∀ q,q≠p→H1[q]? = H[q]?)→∃ H2 H3 H4,
    (op≠9→call L 208 [bv,qar pf,qar pm] H1=some (.val (.tuple []),H2))∧(op=9→H2=H1)∧H2[p]? = some (.box [.int .i64 op,.int .i64 n',bv,.list (ps.map qar) ow,.list avs oa]) ∧
    qba L.pure (call L) H2.length [1000000,0,3,7,48,49] [1000000,0,3] 0 qfF ⟨kt [0,3,7,48,49] [qar p,qar pw,.func 208 [] [qar pf,qar pm],.int .i64 alts.length,.int .i64 0],H2⟩=some (.normal,⟨kt [0,3] [qar p,qar pw],H3⟩)∧H3[p]? = some (.box [.int .i64 op,.int .i64 n',bv,.list (ps.map qar) ow,.list avs oa]) ∧
    qba L.pure (call L) H3.length [1000000,3,66,67,68] [1000000] 2 qfG ⟨kt [3,66,67,68] [qar pw,.list (ps.map qar) ow,.int .i64 kids.length,.int .i64 0],H3⟩=some (.normal,⟨kt [] [],H4⟩)∧RE H4 pm pf pw r (qaU kids (frA alts (qbT op binds s)).2).2 ∧
    HT H4 (.mk op n' (qfj op binds s) (qaU kids (frA alts (qbT op binds s)).2).1 (frA alts (qbT op binds s)).1) p (p::(fb++(fa++fks.flatten)))∧H4.length=H.length ∧
    ∀ q,q≠pf→q≠r→q∉p::(fb++(fa++fks.flatten))→H4[q]? = H[q]? := by
    intro H1 n' hb1 hlen1 hk1
    have hE1:RE H1 pm pf pw r s:=⟨by rw[hk1 pm hpm];exact hE.m,by rw[hk1 pf hpf];exact hE.f,by rw[hk1 pw hpw];exact hE.w,by rw[hk1 r hpr];exact hE.r⟩
    have hbi1:=hbi.frame (H':=H1) fun q hq=>hk1 q fun e=>pb (e ▸ hq)
    have hal1:=hal.frame (H':=H1) fun q hq=>hk1 q fun e=>pa (e ▸ hq)
    have hK1:=hK.frame (H':=H1) fun q hq=>hk1 q fun e=>pk (e ▸ hq)
    have two:∃ H2,(op≠9→call L 208 [bv,qar pf,qar pm] H1=some (.val (.tuple []),H2))∧(op=9→H2=H1)∧RE H2 pm pf pw r (qbT op binds s)∧HInts H2 (qfj op binds s) bv fb∧H2.length=H1.length∧∀ q,q≠pf→q≠r→q∉fb→H2[q]? = H1[q]? := by
     by_cases h9:op=9
     ·refine⟨H1,fun h=>absurd h9 h,fun _=>rfl,?_,?_,rfl,fun _ _ _ _=>rfl⟩
      ·rw[qbT,if_pos h9];exact hE1
      ·rw[qfj,if_pos h9];exact hbi1
     ·rw[qbT,if_neg h9] at m1 m2 m3 hs1 ⊢
      rw[qfj,if_neg h9]
      have hn:=qbU binds s
      obtain⟨H2,q1,q2,q3,q4,q5,q6⟩:=qyJ hL h208 binds hbl s.1 s.2 hs0 (by omega) H1 bv fb hbi1 pf pm r hE1.f hE1.m hE1.r (fun h=>h2 (sb _ h)) (fun h=>h1 (sb _ h)) (fun h=>h4 (sb _ h)) n1 n2 n3
      refine⟨H2,fun _=>q1,fun h=>absurd h h9,?_,q4,q5,q6⟩
      refine hE1.frame q2 q3 fun q x1 x2 x3=>q6 q x1 x2 fun hm=>?_
      rcases x3 with rfl | rfl
      ·exact h1 (sb _ hm)
      ·exact h3 (sb _ hm)
    obtain⟨H2,t1,t2,t3,t4,t5,t6⟩:=two
    have hb2:H2[p]? = some (.box [.int .i64 op,.int .i64 n',bv,.list (ps.map qar) ow,.list avs oa]):=by rw[t6 p (fun e=>hpf e.symm) (fun e=>hpr e.symm) pb];exact hb1
    have hal2:=hal1.frame (H':=H2) fun q hq=>t6 q (fun e=>h2 (e ▸ sa _ hq)) (fun e=>h4 (e ▸ sa _ hq)) fun hm=>d3 q hm q (by simp[hq]) rfl
    have hK2:=hK1.frame (H':=H2) fun q hq=>t6 q (fun e=>h2 (e ▸ sk _ hq)) (fun e=>h4 (e ▸ sk _ hq)) fun hm=>d3 q hm q (List.mem_append.2 (.inr hq)) rfl
    obtain⟨T,u1,H3,rfl,u2,u3,u4,u5⟩:=qBP hL h208 (b:=H2.length) alts ha hab (qbT op binds s) (by omega) (by omega) H2 p pm pf pw r t3 _ _ _ _ avs oa fa hb2 hal2 d4 pa (fun e=>hpf e.symm) (fun e=>hpr e.symm) (fun h=>h1 (sa _ h)) (fun h=>h2 (sa _ h)) (fun h=>h3 (sa _ h)) (fun h=>h4 (sa _ h))
    have hb3:H3[p]? = some (.box [.int .i64 op,.int .i64 n',bv,.list (ps.map qar) ow,.list avs oa]):=by rw[u5 p (fun e=>hpf e.symm) (fun e=>hpr e.symm) pa];exact hb2
    have hK3:=hK2.frame (H':=H3) fun q hq=>u5 q (fun e=>h2 (e ▸ sk _ hq)) (fun e=>h4 (e ▸ sk _ hq)) fun hm=>d6 q hm q hq rfl
    have hbi3:=t4.frame (H':=H3) fun q hq=>u5 q (fun e=>h2 (e ▸ sb _ hq)) (fun e=>h4 (e ▸ sb _ hq)) fun hm=>d3 q hq q (by simp[hm]) rfl
    obtain⟨T,v1,H4,rfl,v2,v3,v4,v5⟩:=qBQ (L:=L) (b:=H3.length) kids hk ih' (frA alts (qbT op binds s)).2 (by omega) hs1 H3 pm pf pw r u2 ps ow fks hK3 d5 (fun h=>h1 (sk _ h)) (fun h=>h2 (sk _ h)) (fun h=>h3 (sk _ h)) (fun h=>h4 (sk _ h))
    have hb4:H4[p]? = some (.box [.int .i64 op,.int .i64 n',bv,.list (ps.map qar) ow,.list avs oa]):=by rw[v5 p (fun e=>hpf e.symm) (fun e=>hpr e.symm) pk];exact hb3
    have hbi4:=hbi3.frame (H':=H4) fun q hq=>v5 q (fun e=>h2 (e ▸ sb _ hq)) (fun e=>h4 (e ▸ sb _ hq)) fun hm=>d3 q hq q (List.mem_append.2 (.inr hm)) rfl
    have hal4:=u3.frame (H':=H4) fun q hq=>v5 q (fun e=>h2 (e ▸ sa _ hq)) (fun e=>h4 (e ▸ sa _ hq)) fun hm=>d6 q hq q hm rfl
    obtain⟨x1,x2,x3⟩:=qrI v3
    refine⟨H2,H3,H4,t1,t2,hb2,u1,hb3,v1,v2,.mk _ _ _ _ _ p bv fb ps ow fks avs oa fa hb4 hbi4 hal4 x1 x2 x3,by omega,fun q y1 y2 y3=>?_⟩
    have z1:q≠p:=fun e=>y3 (by simp[e])
    rw[v5 q y1 y2 (fun hm=>y3 (sk _ hm)),u5 q y1 y2 (fun hm=>y3 (sa _ hm)),t6 q y1 y2 (fun hm=>y3 (sb _ hm)),hk1 q z1]
   have hmm:=hE.m
   have hlk:=fun (h:Heap) (hr:h[r]? = some (.map (encB s.1)))=>qqM qav h r (.int .i64 0) true n s.1 hr
   have hlk:=hlk H hE.r
   have hav:=hal.len
   have hlp:=hlt hbox
   by_cases hset:(∃ x,qaW n s.1=some x)∧op=0
   ·obtain⟨⟨x,hx⟩,h0⟩:=hset
    subst h0
    rw[hx] at hlk
    dsimp only at hlk
    have hren:qoh 0 n s.1=x:=by unfold qoh;rw[hx];rfl
    rw[hren]
    obtain⟨H2,H3,H4,a1,a2,a3,a4,a5,a6,a7,a8,a9,a10⟩:=rest (H.set p (.box [.int .i64 0,.int .i64 x,bv,.list (ps.map qar) ow,.list avs oa])) x (hgs hlp) (by simp) (fun q hq=>hgn fun e=>hq e.symm)
    refine⟨H4,?_,a7,a8,a9,a10⟩
    have a1:=a1 (by decide)
    refine qaL hs h207 ?_
    clear rest
    have hPl:(ps.map qar).length=kids.length:=by simpa using hl1
    generalize ps.map qar=PS at *
    unfold qar at *
    unfold fn207
    simp -implicitDefEqProofs only[ev_,aOp,opd,qaa,qay,qaB,qbd,qaA,qab,qaf,qag,qaT,qai,leaf,qat,qan,qac,qaj,qaz,↓reduceIte,reduceCtorEq,Nat.reduceEqDiff,Nat.reduceAdd,Nat.reduceLeDiff,Int.reduceBEq,qa1,hbox,hmm,hlk,a1,a3,a4,a5,a6,hav,hPl,hgs,hlp,bne]
   ·obtain⟨H2,H3,H4,a1,a2,a3,a4,a5,a6,a7,a8,a9,a10⟩:=rest H n hbox rfl (fun _ _=>rfl)
    have hPl:(ps.map qar).length=kids.length:=by simpa using hl1
    have hren:qoh op n s.1=n:=by
     unfold qoh
     cases hq:qaW n s.1 with
     | none=>rfl
     | some x=>exact if_neg fun h0=>hset ⟨⟨x,hq⟩,h0⟩
    rw[hren]
    refine⟨H4,?_,a7,a8,a9,a10⟩
    refine qaL hs h207 ?_
    clear rest hren
    generalize ps.map qar=PS at *
    unfold qar at *
    cases hq:qaW n s.1 with
    | none =>
      rw[hq] at hlk
      by_cases h9:op=9
      ·have a2:=a2 h9
       subst a2
       subst h9
       unfold fn207
       simp -implicitDefEqProofs only[ev_,aOp,opd,qaa,qaB,qbd,qaA,qab,qaf,qag,qai,qan,qac,qaj,qaz,↓reduceIte,reduceCtorEq,Nat.reduceEqDiff,hbox,hmm,hlk,a4,a5,a6,hav,hPl,bne]
      ·have a1:=a1 h9
       have h9':(op==9)=false:=by simpa using h9
       unfold fn207
       simp -implicitDefEqProofs only[ev_,aOp,opd,qaa,qaB,qbd,qaA,qab,qaf,qag,qai,qan,qac,qaj,qaz,↓reduceIte,reduceCtorEq,Nat.reduceEqDiff,hbox,hmm,hlk,a1,a3,a4,a5,a6,hav,hPl,h9',bne]
    | some x =>
      rw[hq] at hlk
      have h0':(op==0)=false:=by
       have:op≠0:=fun h0=>hset ⟨⟨x,hq⟩,h0⟩
       simpa using this
      by_cases h9:op=9
      ·have a2:=a2 h9
       subst a2
       subst h9
       unfold fn207
       simp -implicitDefEqProofs only[ev_,aOp,opd,qaa,qaB,qbd,qaA,qab,qaf,qag,qai,qan,qac,qaj,qaz,↓reduceIte,reduceCtorEq,Nat.reduceEqDiff,Int.reduceBEq,qa1,hbox,hmm,hlk,a4,a5,a6,hav,hPl,bne]
      ·have a1:=a1 h9
       have h9':(op==9)=false:=by simpa using h9
       unfold fn207
       simp -implicitDefEqProofs only[ev_,aOp,opd,qaa,qaB,qbd,qaA,qab,qaf,qag,qai,qan,qac,qaj,qaz,↓reduceIte,reduceCtorEq,Nat.reduceEqDiff,qa1,hbox,hmm,hlk,a1,a3,a4,a5,a6,hav,hPl,h0',h9',bne]
end
theorem HT.lt {H:Heap} {t:CTree} {p:Nat} {fp:List Nat} (h:HT H t p fp):∀ q∈fp,q<H.length:=by
 induction h with
 | mk op n binds kids alts p bv fb ps ow fks avs oa fa hbox hb ha hl1 hl2 hk ih =>
   intro q hq
   rcases List.mem_cons.1 hq with rfl | hq
   ·exact hlt hbox
   ·rcases List.mem_append.1 hq with hq | hq
    ·exact hb.lt q hq
    ·rcases List.mem_append.1 hq with hq | hq
     ·exact ha.lt q hq
     ·obtain⟨f,hf,hq⟩:=List.mem_flatten.1 hq
      obtain⟨i,hi,rfl⟩:=List.getElem_of_mem hf
      exact ih i (by omega) q hq
mutual
theorem qiE:∀ (t:CTree) (s:RS),hgt (qb3 t s).1=hgt t
 | .mk op n binds kids alts,s=>by rw[qb3,hgt,hgt,qpC]
theorem qpC:∀ (ts:List CTree) (s:RS),qcS (qaU ts s).1=qcS ts
 | [],s=>by rw[qaU]
 | t::ts,s=>by rw[qaU,qcS,qcS,qiE t,qpC ts]
end
mutual
theorem qgy:∀ (t:CTree) (s:RS),qaJ (qb3 t s).1=qaJ t
 | .mk op n binds kids alts,s=>by rw[qb3,qaJ,qaJ,qm6]
theorem qm6:∀ (ts:List CTree) (s:RS),qaF (qaU ts s).1=qaF ts
 | [],s=>by rw[qaU]
 | t::ts,s=>by rw[qaU,qaF,qaF,qgy t,qm6 ts]
end
theorem qxh (as:List CAlt):∀ s:RS,((frA as s).1.flatMap (·.binds)).length=(as.flatMap (·.binds)).length:=by
 induction as with
 | nil=>intro s;rfl
 | cons a as ih =>
   intro s
   rw[frA,List.flatMap_cons,List.flatMap_cons,List.length_append,List.length_append,ih,qcP]
theorem qlz (op:Int) (binds:List Int) (s:RS):(qfj op binds s).length=binds.length:=by
 unfold qfj
 split
 ·rfl
 ·exact qcP _ _
theorem qpD:∀ (ks:List CTree) (s:RS),∀ k'∈(qaU ks s).1,∃ k∈ks,∃ s',k'=(qb3 k s').1
 | [],s,k',h=>by rw[qaU] at h;cases h
 | k :: ks,s,k',h => by
   rw[qaU] at h
   rcases List.mem_cons.1 h with h | h
   ·exact⟨k,by simp,s,h⟩
   ·obtain⟨q,hq,s',he⟩:=qpD ks _ k' h
    exact⟨q,by simp[hq],s',he⟩
theorem qkh (t:CTree) (h:TFit t):∀ s:RS,TFit (qb3 t s).1:=by
 induction t using CTree.ind with
 | h op n binds kids alts ih =>
   intro s
   cases h with
   | mk _ _ _ _ _ hb hk ha hfk =>
   rw[qb3]
   refine .mk _ _ _ _ _ ?_ (by rw[qgz];exact hk) (by rw[qqC];exact ha) ?_
   ·rw[List.length_append] at hb ⊢
    rw[qxh,qlz]
    exact hb
   ·intro k' hk'
    obtain⟨k,hk,s',rfl⟩:=qpD _ _ _ hk'
    exact ih k hk (hfk k hk) s'
theorem qCu {A l:Heap} {o o2 o3 b:AObj} {n:Nat} (h:n=A.length+2):(A++o::o2::o3::l).set n b=A++o::o2::b::l:=by subst h;simp
theorem qCK {A l:Heap} {o o2 o3 o4 b:AObj} {n:Nat} (h:n=A.length+3):(A++o::o2::o3::o4::l).set n b=A++o::o2::o3::b::l:=by subst h;simp
theorem qCs {A l:Heap} {o o2 o3 o4:AObj} {n:Nat} (h:n=A.length+3):(A++o::o2::o3::o4::l)[n]? = some o4:=by subst h;simp
theorem qf2 (tm:Tmps) (h:Heap):qp1 ⟨tm,h⟩=⟨fun i=>viewV h (tm i),h.map fun _=>.gone⟩:=rfl
section
variable {L:Lib}
theorem qvQ (hL:Plain L) (h171:L.fns 171=some fn171) (h207:L.fns 207=some fn207) (h208:L.fns 208=some fn208) (t:CTree) (hf:TFit t) (H:Heap) (p:Nat) (fp:List Nat) (hT:HT H t p fp) (hnd:fp.Nodup) (a:Int) (ha:0≤a) (hb:(qb3 t ([],a)).2.2<2 ^ 50) :
  ∃ H',call L 171 [qar p,.int .i64 a] H=some (.val (.int .i64 (qb3 t ([],a)).2.2),H')∧HT H' (qb3 t ([],a)).1 p fp:=by
 have hlt':=hT.lt
 have hE:RE (H++[.box [.int .i64 a],.map [],.box [.map (some (H.length+1))],.box [.func 207 [] [qar (H.length+2),qar H.length,qar (H.length+3)]]]) (H.length+2) H.length (H.length+3) (H.length+1) ([],a) :=
  ⟨qzp rfl,hgl rfl,by simp,qrF rfl⟩
 obtain⟨H',c1,c2,c3,c4,c5⟩:=qyK hL h207 h208 t hf _ p fp ([],a) _ _ _ _ (hT.frame fun q hq=>hga (hlt' q hq)) hnd hE (fun h=>by have:=hlt' _ h;omega) (fun h=>by have:=hlt' _ h;omega) (fun h=>by have:=hlt' _ h;omega) (fun h=>by have:=hlt' _ h;omega) ha hb
 refine⟨H',?_,c3⟩
 refine qaL (hL.summ 171 (by rw[h171];simp)) h171 ?_
 have g1:=c2.f
 unfold qar at *
 unfold fn171
 simp -implicitDefEqProofs only[ev_,aOp,opd,qaa,qay,qag,qaT,leaf,qat,qan,qac,qae,qaj,↓reduceIte,reduceCtorEq,Nat.reduceEqDiff,Nat.reduceAdd,c1,g1,hgl,qrF,qzp,qCs,hsl,qB7,qCu,qCK,hga]
theorem qsQ (hL:Plain L) (hP:MPrims L) (h160:L.fns 160=some fm160) (e:List CExpr) (h:Heap) (hl:e.length<2 ^ 30) (hf:∀ x∈e,NodeFit x) (hT:TreeL e) (hh:hgt (qbD e)≤400) :
  pcall L 160 [.list (e.map qam) none] h=some (.val (qao (qbD e)),h):=by
 obtain⟨H,p,fp,h1,h2,_⟩:=qr2 hL hP h160 e hl hf hT []
 have hv:=h2.look (by omega)
 obtain⟨tc,htc,hdt⟩:=qbC (qbD e)
 refine qcM h1 ?_ (qbY _) h
 unfold qf5
 rw[if_neg (by simp[qar,wipeR,wipe,wipeCell,qaH]),hv,htc,qng]
def qfT (e:List CExpr) (a:Int):List CExpr × Int :=
 if qaD e=0 then (if a<0∨1048576<a then ([],4) else if 1048576<(qb3 (qbD e) ([],a)).2.2 then ([],4) else (qau (qb3 (qbD e) ([],a)).1,0)) else ([],qaD e)
end
theorem qrC (as:List CAlt):∀ s:RS,(frA as s).2.2=s.2+(as.flatMap (·.binds)).length:=by
 induction as with
 | nil=>intro s;simp[frA]
 | cons a as ih =>
   intro s
   rw[frA,List.flatMap_cons,List.length_append]
   have:=ih (frL a.binds s)
   rw[qbU] at this
   show (frA as (frL a.binds s)).2.2=_
   omega
mutual
theorem qpA:∀ (t:CTree) (s:RS),(qb3 t s).2.2≤s.2+((qbg t).map fun l=>(l.binds++l.alts.flatMap (·.binds)).length).sum
 | .mk op n binds kids alts,s => by
   rw[qb3,qbg]
   have h1:=qm4 kids (frA alts (qbT op binds s)).2
   have h2:=qrC alts (qbT op binds s)
   have h3:(qbT op binds s).2≤s.2+binds.length:=by
    unfold qbT
    split
    ·omega
    ·rw[qbU];omega
   simp only[List.map_append,List.sum_append,List.map_cons,List.map_nil,List.sum_cons,List.sum_nil,List.length_append] at h1 ⊢
   omega
theorem qm4:∀ (ts:List CTree) (s:RS),(qaU ts s).2.2≤s.2+((qaY ts).map fun l=>(l.binds++l.alts.flatMap (·.binds)).length).sum
 | [],s=>by rw[qaU,qaY];simp
 | t :: ts,s => by
   rw[qaU,qaY]
   have h1:=qpA t s
   have h2:=qm4 ts (qb3 t s).2
   simp only[List.map_append,List.sum_append] at h1 h2 ⊢
   omega
end
theorem qBT (l:List Nat) (b:Nat) (h:∀ x∈l,x≤b):l.sum≤l.length*b:=by
 induction l with
 | nil=>simp
 | cons x l ih =>
   rw[List.sum_cons,List.length_cons,Nat.add_mul,Nat.one_mul]
   have h1:=h x (by simp)
   have h2:=ih fun y hy=>h y (by simp[hy])
   omega
theorem qtu (t:CTree) (h:TFit t):∀ l∈qbg t,(l.binds++l.alts.flatMap (·.binds)).length<2 ^ 30:=by
 induction t using CTree.ind with
 | h op n binds kids alts ih =>
   intro l hl
   cases h with
   | mk _ _ _ _ _ hb hk ha hfk =>
   rw[qbg] at hl
   rcases List.mem_append.1 hl with hl | hl
   ·have key:∀ ks:List CTree,(∀ k∈ks,k∈kids)→∀ l∈qaY ks,(l.binds++l.alts.flatMap (·.binds)).length<2 ^ 30:=by
     intro ks
     induction ks with
     | nil=>intro _ l hl;rw[qaY] at hl;cases hl
     | cons k ks ih2 =>
       intro hks l hl
       rw[qaY] at hl
       rcases List.mem_append.1 hl with hl | hl
       ·exact ih k (hks k (by simp)) (hfk k (hks k (by simp))) l hl
       ·exact ih2 (fun q hq=>hks q (by simp[hq])) l hl
    exact key kids (fun k hk=>hk) l hl
   ·rw[List.mem_singleton.1 hl]
    exact hb
theorem qvO {t:CTree} (hf:TFit t) (hs:qaJ t≤4096) (a:Int) (ha:a≤2 ^ 40):(qb3 t ([],a)).2.2<2 ^ 50:=by
 have h1:=qpA t ([],a)
 have h2:=qBT ((qbg t).map fun l=>(l.binds++l.alts.flatMap (·.binds)).length) (2 ^ 30) fun x hx=>by
  obtain⟨l,hl,rfl⟩:=List.mem_map.1 hx
  exact Nat.le_of_lt (qtu t hf l hl)
 rw[List.length_map,qiD] at h2
 have h3:qaJ t*2 ^ 30≤4096*2 ^ 30:=Nat.mul_le_mul_right _ hs
 dsimp only at h1
 omega
section
variable {L:Lib} (hC:CLib2 L)
include hC
theorem qx7 (hP:MPrims L) (h160:L.fns 160=some fm160) (h171:L.fns 171=some fn171) (h207:L.fns 207=some fn207) (h208:L.fns 208=some fn208) (h140:L.fns 140=some fn140) (e:List CExpr) (hl:e.length<2 ^ 30) (hf:∀ x∈e,NodeFit x) (a:Int) (h:Heap) :
  pcall L 140 [.list (e.map qam) none,.int .i64 a] h=some (.val (.tuple [.list ((qfT e a).1.map qam) none,.int .i64 (qfT e a).2]),h):=by
 have hL:=hC.plain
 have hp:=hL.pure
 have hdE:=qaI e
 have hck:=qcW hC.toCLib e hl hf
 refine qaX hL h140 (by simp only[qaH,qax,qaI,Bool.and_self]) ?_ h
 unfold qfT
 by_cases hz:qaD e=0
 ·rw[if_pos hz]
  obtain⟨hT,hn,hdp,_⟩:=qa8 hz
  obtain⟨hft,hsz⟩:=qdO hz hf
  rw[hz] at hck
  obtain⟨H,p,fp,g1,g2,g3,_⟩:=qr2 hL hP h160 e hl hf hT []
  have hs4:qaJ (qbD e)≤4096:=by rw[qhe e hT];exact hn
  by_cases hr:a<0∨1048576<a
  ·rw[if_pos hr]
   by_cases h0:a<0
   ·unfold qar at *
    unfold fn140
    simp -implicitDefEqProofs only[ev_,aOp,opd,qaa,qaB,qaA,qab,qaf,qan,qac,qae,qaj,↓reduceIte,reduceCtorEq,Nat.reduceEqDiff,qaw,qak,hck,g1,h0,hdE,qal L hp,hp,bne,List.map_nil]
   ·have h1:1048576<a:=by omega
    unfold qar at *
    unfold fn140
    simp -implicitDefEqProofs only[ev_,aOp,opd,qaa,qaB,qaA,qab,qaf,qan,qac,qae,qaj,↓reduceIte,reduceCtorEq,Nat.reduceEqDiff,gt_iff_lt,qaw,qak,hck,g1,h0,h1,hdE,qal L hp,hp,bne,List.map_nil]
  ·rw[if_neg hr]
   have h0:¬ a<0:=by omega
   have h1:¬ 1048576<a:=by omega
   obtain⟨H',k1,k2⟩:=qvQ hL h171 h207 h208 (qbD e) hft H p fp g2 g3 a (by omega) (qvO hft hs4 a (by omega))
   by_cases h2:1048576<(qb3 (qbD e) ([],a)).2.2
   ·rw[if_pos h2]
    generalize (qb3 (qbD e) ([],a)).2.2=q at *
    unfold qar at *
    unfold fn140
    simp -implicitDefEqProofs only[ev_,aOp,opd,qaa,qaB,qaA,qab,qaf,qan,qac,qae,qaj,↓reduceIte,reduceCtorEq,Nat.reduceEqDiff,gt_iff_lt,qaw,qak,hck,g1,k1,h0,h1,h2,hdE,qal L hp,hp,bne,List.map_nil]
   ·rw[if_neg h2]
    generalize hq:(qb3 (qbD e) ([],a)).2.2=q at *
    have hft':=qkh (qbD e) hft ([],a)
    have hsz':=qgy (qbD e) ([],a)
    have hh':=qiE (qbD e) ([],a)
    have hv:=k2.look (by omega)
    have hls:=hC.list (qb3 (qbD e) ([],a)).1 hft' (by omega)
    generalize (qb3 (qbD e) ([],a)).1=t' at *
    have hdL:=qaI (qau t')
    obtain⟨tc,htc,hdt⟩:=qbC t'
    rw[htc] at hv hls
    unfold qar at *
    unfold fn140
    simp -implicitDefEqProofs only[ev_,aOp,opd,qaa,qaB,qaA,qab,qaf,qan,qac,qae,qaj,↓reduceIte,reduceCtorEq,Nat.reduceEqDiff,gt_iff_lt,qaw,qak,hck,g1,k1,h0,h1,h2,hdE,qal L hp,hp,bne,qf2,hv,hls,hdt,hdL,qcV]
 ·have hne:(qaD e != 0)=true:=by simpa using hz
  rw[if_neg hz]
  dsimp only
  generalize qaD e=r at *
  unfold fn140
  simp -implicitDefEqProofs only[ev_,aOp,opd,qaa,qaB,qaA,qab,qan,qac,qae,qaj,↓reduceIte,reduceCtorEq,Nat.reduceEqDiff,qaw,qak,hck,hne,hdE,qal L hp,hp,List.map_nil]
end
theorem qeB (a:Int) (n m:Nat):qem a (n+m)=qem a n++qem (a+n) m:=by
 unfold qem
 rw[List.range_add,List.map_append,List.map_map]
 congr 1
 refine List.map_congr_left fun i _=>?_
 simp only[Function.comp]
 omega
theorem qgD (a:Int) (n:Nat):qem a (n+1)=a::qem (a+1) n:=by
 rw[Nat.add_comm,qeB]
 show [a+((0:Nat):Int)]++qem (a+1) n=_
 simp
theorem qiA {a y:Int} {n:Nat}:y∈qem a n↔a≤y∧y<a+n:=by
 unfold qem
 rw[List.mem_map]
 constructor
 ·rintro ⟨i,hi,rfl⟩
  have:=List.mem_range.1 hi
  omega
 ·intro h
  exact⟨(y-a).toNat,List.mem_range.2 (by omega),by omega⟩
theorem qzg (l:List Int):∀ s:RS,(frL l s).1=qd1 l (qem s.2 l.length) s.1:=by
 induction l with
 | nil=>intro s;rfl
 | cons v l ih =>
   intro s
   rw[qd8,ih,List.length_cons,qgD]
   rfl
theorem qk1 (as:List CAlt):∀ s:RS,(frA as s).2=frL (as.flatMap (·.binds)) s:=by
 induction as with
 | nil=>intro s;rfl
 | cons a as ih=>intro s;rw[frA,List.flatMap_cons,qc9];exact ih _
theorem qoG (as:List CAlt):∀ s:RS,(frA as s).1.flatMap (·.binds)=qem s.2 (as.flatMap (·.binds)).length:=by
 induction as with
 | nil=>intro s;rfl
 | cons a as ih =>
   intro s
   rw[frA,List.flatMap_cons,List.flatMap_cons,List.length_append,qeB,ih,qbU]
def BG (op:Int) (binds:List Int):Prop:=op≠9→qbS op=false→binds=[]
def qyF (op:Int) (binds:List Int):List Int:=if qbS op=true then binds else []
theorem qe0 (op:Int) (binds:List Int) (as:List CAlt):qaq op binds as=qyF op binds++as.flatMap (·.binds):=rfl
theorem qnZ {op:Int} {binds:List Int} (h:BG op binds) (s:RS):qbT op binds s=frL (qyF op binds) s:=by
 unfold qbT qyF
 by_cases h9:op=9
 ·subst h9
  rfl
 ·rw[if_neg h9]
  cases ho:qbS op with
  | true=>rfl
  | false=>rw[h h9 ho];rfl
theorem qcT {op:Int} {binds:List Int} (h:BG op binds) (as:List CAlt) (s:RS):(frA as (qbT op binds s)).2=frL (qaq op binds as) s:=by
 rw[qk1,qnZ h,qe0,qc9]
theorem qlC {op:Int} {binds:List Int} (h:BG op binds) (as:List CAlt) (s:RS):qaq op (qfj op binds s) (frA as (qbT op binds s)).1=qem s.2 (qaq op binds as).length:=by
 rw[qe0,qe0,qoG,qnZ h,List.length_append,qeB,qbU]
 congr 1
 unfold qyF qfj
 cases ho:qbS op with
 | true =>
   rw[if_pos rfl,if_pos rfl,if_neg]
   rintro rfl
   cases ho
 | false=>rfl
inductive BGt:CTree→Prop
 | mk (op n:Int) (binds:List Int) (kids:List CTree) (alts:List CAlt) (hb:BG op binds) (h0:op=0→kids=[]∧alts=[]) (h:∀ k∈kids,BGt k):BGt (.mk op n binds kids alts)
theorem qtT (as:List CAlt) (s:RS):qeW as (frA as s).1=false:=by
 unfold qeW
 have key:∀ (as cs:List CAlt) (s:RS) (pre:List CAlt),cs=pre++(frA as s).1→qaE (fun i a=>if qgb cs i a=true then some () else none) as pre.length=none:=by
  intro as
  induction as with
  | nil=>intro cs s pre h;rfl
  | cons a as ih =>
    intro cs s pre h
    rw[qaE]
    have h1:qgb cs pre.length a=false:=by
     unfold qgb
     rw[h,frA,List.getElem?_append_right (Nat.le_refl _),Nat.sub_self]
     simp[qcP]
    rw[h1]
    have:=ih cs (frL a.binds s) (pre++[⟨a.tag,qem s.2 a.binds.length⟩]) (by rw[h,frA];simp)
    rw[List.length_append] at this
    exact this
 have:=key as (frA as s).1 s [] rfl
 rw[List.length_nil] at this
 rw[this]
 rfl
theorem qx6 (t:CTree) (h:BGt t):∀ s:RS,qf9 t (qb3 t s).1 s.1=(true,(qb3 t s).2.1):=by
 induction t using CTree.ind with
 | h op n binds kids alts ih =>
   intro s
   cases h with
   | mk _ _ _ _ _ hb hz hk =>
   rw[qb3,qf9,if_neg (by simp[qgz,qqC,qlz])]
   by_cases h0:op=0
   ·obtain⟨k0,a0⟩:=hz h0
    subst k0
    subst a0
    subst h0
    rw[if_pos rfl,qaU,qcT hb]
    have:qaq 0 binds []=[]:=rfl
    rw[this,qnC]
    unfold qof qoh
    cases qaW n s.1 with
    | none=>simp
    | some x=>simp
   ·rw[if_neg h0]
    have hn:qoh op n s.1=n:=by
     unfold qoh
     cases qaW n s.1 with
     | none=>rfl
     | some x=>exact if_neg h0
    rw[hn,if_neg,if_neg (by rw[qtT];simp),qlC hb,← qzg,qcT hb]
    ·generalize frL (qaq op binds alts) s=s2
     clear hb hz hn
     induction kids generalizing s2 with
     | nil=>rw[qaU,qdc]
     | cons k ks ih2 =>
       rw[qaU,qdc,ih k (by simp) (hk k (by simp)) s2]
       exact ih2 (fun q hq=>ih q (by simp[hq])) (fun q hq=>hk q (by simp[hq])) _
    ·rintro (h | ⟨h9,h⟩)
     ·exact h rfl
     ·refine h ?_
      unfold qfj
      rw[if_pos h9]
theorem qgA (t:CTree) (h:BGt t):∀ s:RS,(qb3 t s).2.2=s.2+((qbg t).flatMap qbn).length∧((qbg (qb3 t s).1).flatMap qbn).Perm (qem s.2 ((qbg t).flatMap qbn).length):=by
 induction t using CTree.ind with
 | h op n binds kids alts ih =>
   intro s
   cases h with
   | mk _ _ _ _ _ hb hz hk =>
   have key:∀ (ks:List CTree),(∀ k∈ks,k∈kids)→∀ s:RS,(qaU ks s).2.2=s.2+((qaY ks).flatMap qbn).length∧((qaY (qaU ks s).1).flatMap qbn).Perm (qem s.2 ((qaY ks).flatMap qbn).length):=by
    intro ks
    induction ks with
    | nil=>intro _ s;rw[qaU,qaY];exact⟨by simp,List.Perm.refl _⟩
    | cons k ks ih2 =>
      intro hks s
      obtain⟨a1,a2⟩:=ih k (hks k (by simp)) (hk k (hks k (by simp))) s
      obtain⟨b1,b2⟩:=ih2 (fun q hq=>hks q (by simp[hq])) (qb3 k s).2
      rw[qaU,qaY,qaY,List.flatMap_append,List.flatMap_append,List.length_append,qeB]
      refine⟨?_,?_⟩
      ·show (qaU ks (qb3 k s).2).2.2=_
       omega
      ·rw[a1] at b2
       exact a2.append b2
   obtain⟨c1,c2⟩:=key kids (fun k hk=>hk) (frA alts (qbT op binds s)).2
   rw[qb3,qbg,qbg,List.flatMap_append,List.flatMap_append,List.flatMap_cons,List.flatMap_cons,List.flatMap_nil,List.append_nil,List.append_nil,List.length_append]
   have e1:qbn ⟨op,n,binds,kids.map qce,alts⟩=qaq op binds alts:=rfl
   have e2:∀ ro,qbn ⟨op,qoh op n s.1,qfj op binds s,ro,(frA alts (qbT op binds s)).1⟩=qem s.2 (qaq op binds alts).length:=fun ro=>qlC hb alts s
   rw[e1,e2]
   rw[qcT hb,qbU] at c1
   rw[qcT hb] at c2 ⊢
   rw[qbU] at c2
   refine⟨?_,?_⟩
   ·show (qaU kids (frL (qaq op binds alts) s)).2.2=_
    omega
   ·rw[Nat.add_comm,qeB]
    exact List.perm_append_comm.trans (List.Perm.append_left _ c2)
theorem qgq (x:Int) (l:List Int):∀ s:RS,x∉l→qaW x (frL l s).1=qaW x s.1:=by
 induction l with
 | nil=>intro s _;rfl
 | cons v l ih =>
   intro s h
   rw[qd8,ih _ (fun hm=>h (by simp[hm])),qcd,if_neg (fun e=>h (by simp[e]))]
theorem qyA (x:Int) (l:List Int):∀ s:RS,l.Nodup→x∈l→∃ y,qaW x (frL l s).1=some y∧y∈qem s.2 l.length:=by
 induction l with
 | nil=>intro s _ h;cases h
 | cons v l ih =>
   intro s hn h
   rw[qd8,List.length_cons,qgD]
   rw[List.nodup_cons] at hn
   by_cases hx:x=v
   ·subst hx
    exact⟨s.2,by rw[qgq x l _ hn.1,qcd,if_pos rfl],by simp⟩
   ·have hm:x∈l:=by
     rcases List.mem_cons.1 h with h | h
     ·exact absurd h hx
     ·exact h
    obtain⟨y,h1,h2⟩:=ih (qlv v s.2 s.1,s.2+1) hn.2 hm
    exact⟨y,h1,List.mem_cons_of_mem _ h2⟩
def qaR (t:CTree):List Int:=(qbg t).flatMap qbn
def qbH (ts:List CTree):List Int:=(qaY ts).flatMap qbn
theorem qby (op n:Int) (binds:List Int) (kids:List CTree) (alts:List CAlt):qaR (.mk op n binds kids alts)=qbH kids++qaq op binds alts:=by
 unfold qaR qbH
 rw[qbg,List.flatMap_append,List.flatMap_cons,List.flatMap_nil,List.append_nil]
 rfl
theorem qbw (k:CTree) (ks:List CTree):qbH (k::ks)=qaR k++qbH ks:=by
 unfold qaR qbH
 rw[qaY,List.flatMap_append]
theorem qd3 {k:CTree} {ks:List CTree} (h:k∈ks):∀ x∈qaR k,x∈qbH ks:=by
 induction ks with
 | nil=>cases h
 | cons a ks ih =>
   intro x hx
   rw[qbw]
   rcases List.mem_cons.1 h with h | h
   ·subst h;simp[hx]
   ·exact List.mem_append.2 (.inr (ih h x hx))
theorem qh0 {k:CTree} {ks:List CTree} (h:k∈ks):(qaR k).Sublist (qbH ks):=by
 induction ks with
 | nil=>cases h
 | cons a ks ih =>
   rw[qbw]
   rcases List.mem_cons.1 h with h | h
   ·subst h;exact List.sublist_append_left _ _
   ·exact (ih h).trans (List.sublist_append_right _ _)
theorem qx3 (x:Int) (t:CTree) (h:BGt t):∀ s:RS,x∉qaR t→qaW x (qb3 t s).2.1=qaW x s.1:=by
 induction t using CTree.ind with
 | h op n binds kids alts ih =>
   intro s hx
   cases h with
   | mk _ _ _ _ _ hb hz hk =>
   rw[qby,List.mem_append] at hx
   rw[qb3,qcT hb]
   have key:∀ ks:List CTree,(∀ k∈ks,k∈kids)→∀ s:RS,x∉qbH ks→qaW x (qaU ks s).2.1=qaW x s.1:=by
    intro ks
    induction ks with
    | nil=>intro _ s _;rw[qaU]
    | cons k ks ih2 =>
      intro hks s hx
      rw[qbw,List.mem_append] at hx
      rw[qaU]
      show qaW x (qaU ks (qb3 k s).2).2.1=_
      rw[ih2 (fun q hq=>hks q (by simp[hq])) _ (fun h=>hx (.inr h)),ih k (hks k (by simp)) (hk k (hks k (by simp))) s (fun h=>hx (.inl h))]
   show qaW x (qaU kids (frL (qaq op binds alts) s)).2.1=_
   rw[key kids (fun k hk=>hk) _ (fun h=>hx (.inl h)),qgq x _ s (fun h=>hx (.inr h))]
theorem qlA (x:Int) (ks:List CTree) (h:∀ k∈ks,BGt k):∀ s:RS,x∉qbH ks→qaW x (qaU ks s).2.1=qaW x s.1:=by
 induction ks with
 | nil=>intro s _;rw[qaU]
 | cons k ks ih =>
   intro s hx
   rw[qbw,List.mem_append] at hx
   rw[qaU]
   show qaW x (qaU ks (qb3 k s).2).2.1=_
   rw[ih (fun q hq=>h q (by simp[hq])) _ (fun h=>hx (.inr h)),qx3 x k (h k (by simp)) s (fun h=>hx (.inl h))]
theorem qpB:∀ (ks:List CTree) (s:RS) (j:Nat) (hj:j<ks.length),(qaU ks s).1[j]'(by rw[qgz];exact hj)=(qb3 ks[j] (qaU (ks.take j) s).2).1
 | [],s,j,hj=>absurd hj (by simp)
 | k::ks,s,0,hj=>by simp only[qaU,List.take_zero,List.getElem_cons_zero]
 | k :: ks,s,j + 1,hj => by
   have:=qpB ks (qb3 k s).2 j (by simpa using hj)
   simp only[qaU,List.take_succ_cons,List.getElem_cons_succ]
   exact this
theorem ql2 {x:Int} {ks:List CTree} (j:Nat) (h:x∈qbH (ks.take j)):x∈qbH ks:=by
 induction ks generalizing j with
 | nil=>simpa using h
 | cons k ks ih =>
   cases j with
   | zero=>rw[List.take_zero] at h;cases h
   | succ j =>
     rw[List.take_succ_cons,qbw,List.mem_append] at h
     rw[qbw,List.mem_append]
     exact h.imp id (ih j)
theorem qkA {op:Int} {binds:List Int} {alts:List CAlt} {j:Nat} {x:Int} (h:x∈qbz op binds alts j):x∈qaq op binds alts:=by
 unfold qbz at h
 rw[qe0,List.mem_append]
 split at h
 ·rename_i ho
  refine .inl ?_
  unfold qyF
  have:qbS op=true:=by
   unfold qbS
   rcases ho with rfl | rfl | ⟨rfl,_⟩<;>rfl
  rw[if_pos this]
  exact h
 ·split at h
  ·split at h
   ·rename_i a ha
    exact .inr (List.mem_flatMap.2 ⟨a,List.mem_of_getElem? ha,h⟩)
   ·cases h
  ·cases h
theorem quG:∀ (as:List CAlt) (s:RS) (j:Nat) (a:CAlt),as[j]? = some a→(frA as s).1[j]? = some ⟨a.tag,qem (frA (as.take j) s).2.2 a.binds.length⟩
 | [],s,j,a,h=>by simp at h
 | b :: as,s,0,a,h => by
   simp at h
   subst h
   rw[frA,List.take_zero]
   rfl
 | b :: as,s,j + 1,a,h => by
   have:=quG as (frL b.binds s) j a (by simpa using h)
   rw[frA,List.take_succ_cons,frA]
   simpa using this
theorem qtZ {op:Int} {binds:List Int} (hb:BG op binds) (alts:List CAlt) (s:RS) (hn:(qaq op binds alts).Nodup) {j:Nat} {x:Int} (h:x∈qbz op binds alts j) :
  ∃ y,qaW x (frL (qaq op binds alts) s).1=some y∧y∈qbz op (qfj op binds s) (frA alts (qbT op binds s)).1 j:=by
 rw[qe0] at hn ⊢
 rw[List.nodup_append] at hn
 obtain⟨n1,n2,n3⟩:=hn
 unfold qbz at h ⊢
 split at h
 ·rename_i ho
  have hob:qbS op=true:=by
   unfold qbS
   rcases ho with rfl | rfl | ⟨rfl,_⟩<;>rfl
  have hnb:qyF op binds=binds:=by unfold qyF;rw[if_pos hob]
  rw[hnb] at n1 n3 ⊢
  rw[if_pos ho,qc9]
  obtain⟨y,y1,y2⟩:=qyA x binds s n1 h
  refine⟨y,?_,?_⟩
  ·rw[qgq x _ _ (fun hm=>n3 x h x hm rfl)]
   exact y1
  ·unfold qfj
   rw[if_neg (by rintro rfl;cases hob)]
   exact y2
 ·rename_i ho
  split at h
  ·rename_i hj
   split at h
   ·rename_i a ha
    rw[if_neg ho,if_pos hj,quG alts _ _ a ha]
    dsimp only
    obtain⟨hlen,rfl⟩:=List.getElem?_eq_some_iff.1 ha
    have hsplit:alts.flatMap (·.binds)=(alts.take (j-1)).flatMap (·.binds)++(alts[j-1].binds++(alts.drop (j-1+1)).flatMap (·.binds)):=by
     conv=>lhs;rw[← List.take_append_drop (j-1) alts,List.drop_eq_getElem_cons hlen]
     rw[List.flatMap_append,List.flatMap_cons]
    rw[hsplit] at n2 n3 ⊢
    rw[List.nodup_append] at n2
    obtain⟨m1,m2,m3⟩:=n2
    rw[List.nodup_append] at m2
    obtain⟨q1,q2,q3⟩:=m2
    rw[qc9,qc9,qc9,qk1,qnZ hb]
    obtain⟨y,y1,y2⟩:=qyA x alts[j-1].binds (frL ((alts.take (j-1)).flatMap (·.binds)) (frL (qyF op binds) s)) q1 h
    refine⟨y,?_,y2⟩
    rw[qgq x _ _ (fun hm=>q3 x h x hm rfl)]
    exact y1
   ·cases h
  ·cases h
theorem qsb (t:CTree) (h:BGt t):∀ s:RS,(qaR t).Nodup→(∀ x,qbx x t→x∉qaR t)→∀ y,qbx y (qb3 t s).1→∃ x,qbx x t∧y=(qaW x s.1).getD x:=by
 induction t using CTree.ind with
 | h op n binds kids alts ih =>
   intro s hn hD y hy
   cases h with
   | mk _ _ _ _ _ hb hz hk =>
   rw[qby] at hn
   have hn':=hn
   rw[List.nodup_append] at hn
   obtain⟨n1,n2,n3⟩:=hn
   rw[qb3,qbx] at hy
   rcases hy with ⟨h0,hy⟩ | hy
   ·refine⟨n,by rw[qbx];exact .inl ⟨h0,rfl⟩,?_⟩
    rw[← hy]
    unfold qoh
    cases qaW n s.1 with
    | none=>rfl
    | some x =>
      show (if op=0 then x else n)=x
      exact if_pos h0
   ·rw[qbV] at hy
    obtain⟨j,hj,h1,h2⟩:=hy
    have hj':j<kids.length:=by rw[qgz] at hj;exact hj
    rw[qpB _ _ _ hj'] at h1
    rw[Nat.zero_add] at h2
    have hmem:=List.getElem_mem hj'
    have hsub:=qh0 hmem
    have hD':∀ x,qbx x kids[j]→x∉qaR kids[j]:=by
     intro x hx hm
     by_cases hbd:x∈qbz op binds alts j
     ·exact n3 x (hsub.subset hm) x (qkA hbd) rfl
     ·refine hD x ?_ ?_
      ·rw[qbx,qbV]
       exact .inr ⟨j,hj',hx,by rw[Nat.zero_add];exact hbd⟩
      ·rw[qby]
       exact List.mem_append.2 (.inl (hsub.subset hm))
    obtain⟨x,hx,hyx⟩:=ih kids[j] hmem (hk _ hmem) _ (n1.sublist hsub) hD' y h1
    have hout:x∉qbH kids:=by
     intro hm
     by_cases hbd:x∈qbz op binds alts j
     ·exact n3 x hm x (qkA hbd) rfl
     ·refine hD x ?_ ?_
      ·rw[qbx,qbV]
       exact .inr ⟨j,hj',hx,by rw[Nat.zero_add];exact hbd⟩
      ·rw[qby]
       exact List.mem_append.2 (.inl hm)
    rw[qlA x (kids.take j) (fun k hkm=>hk k (List.mem_of_mem_take hkm)) _ (fun hm=>hout (ql2 j hm)),qcT hb] at hyx
    by_cases hbd:x∈qbz op binds alts j
    ·obtain⟨z,z1,z2⟩:=qtZ hb alts s n2 hbd
     rw[z1] at hyx
     exact absurd (by rw[hyx];exact z2) h2
    ·have hfree:qbx x (.mk op n binds kids alts):=by
      rw[qbx,qbV]
      exact .inr ⟨j,hj',hx,by rw[Nat.zero_add];exact hbd⟩
     refine⟨x,hfree,?_⟩
     have:=hD x hfree
     rw[qby,List.mem_append] at this
     rw[hyx,qgq x _ s (fun hm=>this (.inr hm))]
theorem qth {t:CTree} (h:BGt t) (hn:(qaR t).Nodup) (hc:qda t=[]) (a:Int):qda (qb3 t ([],a)).1=[]:=by
 refine List.eq_nil_iff_forall_not_mem.2 fun y hy=>?_
 have hno:∀ x,¬ qbx x t:=fun x hx=>by
  have:=(qe5 t x).2 hx
  rw[hc] at this
  cases this
 obtain⟨x,hx,_⟩:=qsb t h ([],a) hn (fun x hx=>absurd hx (hno x)) y ((qe5 _ y).1 hy)
 exact hno x hx
def sgA (a:CAlt):Int × Nat:=(a.tag,a.binds.length)
def qqg (op:Int) (as:List (Int × Nat)) (i:Nat) (a:Int × Nat):Bool :=
 (as.take i).any (fun b=>b.1==a.1) || decide (a.1 < -1) || (op==7 && a.1 == -1 && (decide ((i:Int)<as.length-1) || decide ((0:Int)<a.2))) ||
 (op==13 && (((i:Int)==0) != (a.1 == -1))) || (op==13 && ((a.2:Int) != min ((i:Int)+1) 2))
theorem qtR (op:Int) (as:List CAlt) (i:Nat) (a:CAlt):qhX op as i a=qqg op (as.map sgA) i (sgA a):=by
 unfold qhX qqg sgA
 rw[← List.map_take,List.any_map,List.length_map]
 rfl
theorem qeI {α β γ:Type} (g:α→β) (f:Nat→β→Option γ):∀ (l:List α) (k:Nat),qaE (fun i a=>f i (g a)) l k=qaE f (l.map g) k
 | [],k=>rfl
 | x :: l,k => by
   rw[qaE,List.map_cons,qaE,qeI g f l]
theorem qtS {op:Int} {as cs:List CAlt} (h:as.map sgA=cs.map sgA) (kl:Nat):qhh op as kl=qhh op cs kl:=by
 have hl:as.length=cs.length:=by have:=congrArg List.length h;simpa using this
 unfold qhh
 rw[hl]
 have e:∀ xs:List CAlt,qaE (fun i a=>if qhX op xs i a=true then some () else none) xs 0=qaE (fun i p=>if qqg op (xs.map sgA) i p=true then some () else none) (xs.map sgA) 0:=by
  intro xs
  rw[← qeI sgA]
  congr 1
  funext i a
  rw[qtR]
 rw[e,e,h]
theorem qoC {as cs:List CAlt} (h:as.map sgA=cs.map sgA) (b:Int):qbe b as=qbe b cs:=by
 have e:∀ (xs:List CAlt) (b:Int),qbe b xs=(xs.map sgA).foldl (fun m p=>max m (p.2:Int)) b:=by
  intro xs b
  unfold qbe
  rw[List.foldl_map]
  rfl
 rw[e,e,h]
theorem qBx (as:List CAlt):∀ s:RS,(frA as s).1.map sgA=as.map sgA:=by
 induction as with
 | nil=>intro s;rfl
 | cons a as ih =>
   intro s
   rw[frA,List.map_cons,List.map_cons,ih]
   unfold sgA
   rw[qcP]
theorem qye {op n:Int} {binds:List Int} {kl:Nat} {as:List CAlt} (h:qa2 op n binds.length kl as=true):BG op binds∧(op=0→kl=0∧as=[]):=by
 unfold qa2 at h
 split at h
 ·rename_i ho
  simp only[Bool.and_eq_true,beq_iff_eq] at h
  refine⟨fun _ _=>List.length_eq_zero_iff.1 (by omega),fun h0=>?_⟩
  subst h0
  exact absurd ho (by decide)
 ·split at h
  ·cases h
  ·rename_i r hr
   unfold qbN at h
   simp only[Bool.and_eq_true,beq_iff_eq] at h
   obtain⟨⟨⟨a1,a2⟩,a3⟩,_⟩:=h
   refine⟨fun h9 hob=>List.length_eq_zero_iff.1 ?_,fun h0=>?_⟩
   ·unfold qbS at hob
    simp only[Bool.or_eq_false_iff,beq_eq_false_iff_ne] at hob
    obtain⟨⟨o1,o2⟩,o3⟩:=hob
    unfold kbu at hr
    rw[if_neg o1,if_neg o2,if_neg o3,if_neg h9] at hr
    repeat' (split at hr)
    all_goals first
     | (cases hr;done)
     | (injection hr with hr;subst hr;simpa using a2)
   ·subst h0
    have:kbu 0 n binds.length kl=some (0,0,true):=rfl
    rw[this] at hr
    injection hr with hr
    subst hr
    exact⟨by simpa using a1,List.length_eq_zero_iff.1 (by simpa using a3)⟩
theorem qCv {op n n':Int} (h:op≠0→n'=n) (bl kl:Nat):kbu op n' bl kl=kbu op n bl kl:=by
 by_cases h0:op=0
 ·subst h0;rfl
 ·rw[h h0]
theorem qA1 {op n n':Int} (h:op≠0→n'=n) {bl kl:Nat} {as cs:List CAlt} (hs:as.map sgA=cs.map sgA) (hk:qa2 op n bl kl as=true):qa2 op n' bl kl cs=true:=by
 have hl:as.length=cs.length:=by have:=congrArg List.length hs;simpa using this
 unfold qa2 at hk ⊢
 rw[← qtS hs,qCv h,← hl]
 by_cases h0:op=0
 ·subst h0
  have:kbu 0 n bl kl=some (0,0,true):=rfl
  rw[this] at hk ⊢
  unfold qbN at hk ⊢
  simpa using hk
 ·rw[h h0]
  exact hk
theorem quw {op n n':Int} {binds binds':List Int} {ko:List Int} {as cs:List CAlt} (he:qp8 ⟨op,n,binds,ko,as⟩=0) (hn:op≠0→n'=n) (hn0:op=0→0≤n'∧n'≤1048575) (hl:binds'.length=binds.length)
  (h9:op=9→binds'=binds) (hb:∀ x∈binds',0≤x∧x≤1048575) (hs:as.map sgA=cs.map sgA) (hc:∀ c∈cs,∀ x∈c.binds,0≤x∧x≤1048575):qp8 ⟨op,n',binds',ko,cs⟩=0:=by
 unfold qp8 at he ⊢
 dsimp only at he ⊢
 split at he
 ·cases he
 ·rename_i h1
  have h1:qa2 op n binds.length ko.length as=true:=by simpa using h1
  split at he
  ·rename_i h2;exact absurd he h2
  ·rename_i h2
   have h2:qbZ op n binds ko.length as=0:=Classical.not_not.1 h2
   split at he
   ·cases he
   ·rename_i h3
    rw[hl,qA1 hn hs h1,if_neg (by decide),if_neg,if_neg]
    ·refine fun hx=>h3 ?_
     rw[qgS] at hx ⊢
     obtain⟨i,hi,hx⟩:=hx
     refine⟨i,by omega,?_⟩
     unfold qfO at hx ⊢
     by_cases h:op=9
     ·rw[h9 h] at hx;exact hx
     ·have:(op==9)=false:=by simpa using h
      rw[this] at hx ⊢
      simpa using hx
    ·refine fun hx=>hx ?_
     unfold qbZ at h2 ⊢
     split at h2
     ·cases h2
     ·rename_i r1
      split at h2
      ·cases h2
      ·split at h2
       ·cases h2
       ·rename_i r3
        split at h2
        ·cases h2
        ·rename_i r4
         rw[if_neg,if_neg,if_neg,if_neg]
         ·rw[hl,← qoC hs];exact r4
         ·intro hx
          rw[List.any_eq_true] at hx
          obtain⟨c,hcm,hx⟩:=hx
          refine r3 ?_
          have hmem:sgA c∈as.map sgA:=by rw[hs];exact List.mem_map_of_mem hcm
          obtain⟨a,ha,hac⟩:=List.mem_map.1 hmem
          have ht:a.tag=c.tag:=congrArg Prod.fst hac
          refine List.any_eq_true.2 ⟨a,ha,?_⟩
          unfold qcf at hx ⊢
          rw[ht]
          have:c.binds.any qdW=false:=by
           rw[List.any_eq_false]
           intro x hxm
           unfold qdW
           simpa using hc c hcm x hxm
          rw[this,Bool.or_false] at hx
          rw[hx,Bool.true_or]
         ·rw[Bool.not_eq_true,List.any_eq_false]
          intro x hxm
          unfold qdW
          simpa using hb x hxm
         ·intro hx
          by_cases h0:op=0
          ·subst h0
           exact hx (hn0 rfl)
          ·rw[hn h0] at hx
           exact r1 hx
theorem qAA {l:Lab} (h:qbL false l=0):qp8 l=0:=by
 unfold qbL at h
 split at h
 ·cases h
 ·exact h
theorem qdb {l:Lab} (h:qbL false l=0):qa2 l.op l.n l.binds.length l.kops.length l.alts=true∧qbZ l.op l.n l.binds l.kops.length l.alts=0:=by
 have he:=qAA h
 unfold qp8 at he
 split at he
 ·cases he
 ·rename_i h1
  split at he
  ·rename_i h2;exact absurd he h2
  ·rename_i h2
   exact⟨by simpa using h1,Classical.not_not.1 h2⟩
theorem qpj {k:CTree} {ks:List CTree} (h:k∈ks):∀ l∈qbg k,l∈qaY ks:=by
 induction ks with
 | nil=>cases h
 | cons a ks ih =>
   intro l hl
   rw[qaY]
   rcases List.mem_cons.1 h with h | h
   ·subst h;exact List.mem_append.2 (.inl hl)
   ·exact List.mem_append.2 (.inr (ih h l hl))
theorem qkw (t:CTree) (h:∀ l∈qbg t,qbL false l=0):BGt t:=by
 induction t using CTree.ind with
 | h op n binds kids alts ih =>
   rw[qbg] at h
   obtain⟨h1,_⟩:=qdb (h ⟨op,n,binds,kids.map qce,alts⟩ (by simp))
   obtain⟨b1,b2⟩:=qye h1
   refine .mk _ _ _ _ _ b1 (fun h0=>?_) fun k hk=>ih k hk fun l hl=>h l (List.mem_append.2 (.inl (qpj hk l hl)))
   obtain⟨x1,x2⟩:=b2 h0
   exact⟨by simpa using x1,x2⟩
def NM (s:RS):Prop:=∀ x y,qaW x s.1=some y→0≤y∧y<s.2
theorem NM.frL (l:List Int):∀ {s:RS},NM s→0≤s.2→NM (frL l s):=by
 induction l with
 | nil=>exact fun h _=>h
 | cons v l ih =>
   intro s h h0
   rw[qd8]
   refine ih (fun x y hxy=>?_) (by show 0≤s.2+1;omega)
   dsimp only at hxy ⊢
   rw[qcd] at hxy
   split at hxy
   ·injection hxy with hxy;omega
   ·have:=h x y hxy;omega
theorem qvJ (t:CTree) (s:RS):qce (qb3 t s).1=qce t:=by cases t;rw[qb3];rfl
theorem qm5:∀ (ks:List CTree) (s:RS),(qaU ks s).1.map qce=ks.map qce
 | [],s=>by rw[qaU]
 | k::ks,s=>by rw[qaU,List.map_cons,List.map_cons,qvJ,qm5 ks]
theorem qxD (t:CTree):∀ s:RS,(∀ l∈qbg t,qbL false l=0)→NM s→0≤s.2→(qb3 t s).2.2≤1048576→(∀ l∈qbg (qb3 t s).1,qbL false l=0)∧NM (qb3 t s).2:=by
 induction t using CTree.ind with
 | h op n binds kids alts ih =>
   intro s h hm h0 hx
   have hT:=qkw _ h
   rw[qbg] at h
   have hlab:=h ⟨op,n,binds,kids.map qce,alts⟩ (by simp)
   cases hT with
   | mk _ _ _ _ _ hb hz hk =>
   have key:∀ ks:List CTree,(∀ k∈ks,k∈kids)→∀ s:RS,NM s→0≤s.2→(qaU ks s).2.2≤1048576→(∀ l∈qaY (qaU ks s).1,qbL false l=0)∧NM (qaU ks s).2:=by
    intro ks
    induction ks with
    | nil=>intro _ s hm _ _;rw[qaU];exact⟨fun l hl=>(by rw[qaY] at hl;cases hl),hm⟩
    | cons k ks ih2 =>
      intro hks s hm h0 hx
      rw[qaU] at hx ⊢
      dsimp only at hx ⊢
      have m1:=qgx k s
      have m2:=qfk ks (fun k _=>qgx k) (qb3 k s).2
      obtain⟨a1,a2⟩:=ih k (hks k (by simp)) s (fun l hl=>h l (List.mem_append.2 (.inl (qpj (hks k (by simp)) l hl)))) hm h0 (by omega)
      obtain⟨b1,b2⟩:=ih2 (fun q hq=>hks q (by simp[hq])) (qb3 k s).2 a2 (by omega) hx
      refine⟨fun l hl=>?_,b2⟩
      rw[qaY] at hl
      rcases List.mem_append.1 hl with hl | hl
      ·exact a1 l hl
      ·exact b1 l hl
   rw[qb3] at hx ⊢
   dsimp only at hx ⊢
   have m1:=qjd op binds s
   have m2:=qnB alts (qbT op binds s)
   have m3:=qfk kids (fun k _=>qgx k) (frA alts (qbT op binds s)).2
   have hs2:NM (frA alts (qbT op binds s)).2:=by rw[qcT hb];exact hm.frL _ h0
   obtain⟨c1,c2⟩:=key kids (fun k hk=>hk) _ hs2 (by omega) hx
   refine⟨fun l hl=>?_,c2⟩
   rw[qbg] at hl
   rcases List.mem_append.1 hl with hl | hl
   ·exact c1 l hl
   ·rw[List.mem_singleton.1 hl,qm5]
    unfold qbL at hlab ⊢
    dsimp only at hlab ⊢
    split at hlab
    ·cases hlab
    ·rename_i hop
     rw[if_neg hop]
     obtain⟨_,hr⟩:=qdb (h ⟨op,n,binds,kids.map qce,alts⟩ (by simp))
     refine quw hlab (fun h=>?_) (fun h=>?_) (qlz op binds s) (fun h=>?_) (fun x hxm=>?_) (qBx alts _).symm fun c hc x hxm=>?_
     ·unfold qoh
      cases qaW n s.1 with
      | none=>rfl
      | some x=>exact if_neg h
     ·subst h
      have hn:0≤n∧n≤1048575:=by
       unfold qbZ at hr
       split at hr
       ·cases hr
       ·rename_i hr1
        exact Classical.not_not.1 hr1
      unfold qoh
      cases hq:qaW n s.1 with
      | none=>exact hn
      | some x =>
        have:=hm n x hq
        show 0≤x∧x≤1048575
        omega
     ·unfold qfj
      rw[if_pos h]
     ·unfold qfj at hxm
      unfold qbT at m1 m2 m3 hx
      split at hxm
      ·unfold qbZ at hr
       split at hr
       ·cases hr
       ·split at hr
        ·cases hr
        ·rename_i hr2
         dsimp only at hr2
         rw[Bool.not_eq_true,List.any_eq_false] at hr2
         have:=hr2 x hxm
         unfold qdW at this
         simpa using this
      ·rename_i h9
       rw[if_neg h9,qbU] at m2
       have:=qiA.1 hxm
       rw[if_neg h9] at m3 hx
       omega
     ·have hmem:x∈(frA alts (qbT op binds s)).1.flatMap (·.binds):=List.mem_flatMap.2 ⟨c,hc,hxm⟩
      rw[qoG] at hmem
      have:=qiA.1 hmem
      have hq:=qrC alts (qbT op binds s)
      omega
theorem qm9 (a:Int) (n:Nat):(qem a n).Nodup:=by
 unfold qem
 refine List.pairwise_map.2 (List.nodup_range.imp fun {x y} hxy e=>hxy ?_)
 omega
theorem qq5 (a:Int) (n:Nat):(qem a n).Pairwise (· ≤ ·):=by
 unfold qem
 refine List.pairwise_map.2 (List.pairwise_lt_range.imp fun {x y} hxy=>?_)
 omega
theorem qAS {t:CTree} (h:TOk t) (a:Int) (ha:0≤a) (hb:(qb3 t ([],a)).2.2≤1048576):TOk (qb3 t ([],a)).1:=by
 have hB:=qkw t h.lab
 refine⟨by rw[qgy];exact h.size,by rw[qiE];exact h.deep,(qxD t ([],a) h.lab (fun x y hxy=>by cases hxy) ha hb).1,?_⟩
 refine ((qgA t hB ([],a)).2.nodup_iff).2 ?_
 exact qm9 _ _
mutual
theorem qrR:∀ t:CTree,((qbg t).map fun l=>l.kops.length).sum+1=qaJ t
 | .mk op n binds kids alts => by
   rw[qbg,qaJ,List.map_append,List.sum_append]
   have:=qo2 kids
   simp
   omega
theorem qo2:∀ ts:List CTree,((qaY ts).map fun l=>l.kops.length).sum+ts.length=qaF ts
 | []=>by rw[qaY,qaF];rfl
 | t :: ts => by
   rw[qaY,qaF,List.map_append,List.sum_append,List.length_cons]
   have:=qrR t
   have:=qo2 ts
   omega
end
theorem qAB {l:Lab} (h:qbL false l=0):(qbn l).length≤16+16*l.kops.length:=by
 obtain⟨h1,h2⟩:=qdb h
 have hf:=qfS h2
 obtain⟨f1,f2⟩:=qh7 l.alts (l.binds.length:Int)
 have h3:=qmA l.alts fun a ha=>by have:=f2 a ha;omega
 have h4:(qbn l).length≤l.binds.length+(l.alts.flatMap (·.binds)).length:=by
  have:=qnS l.op l.binds l.alts
  rw[List.length_append] at this
  exact this
 rcases qnb h1 with h5 | h5<;>omega
theorem qfs {t:CTree} (h:TOk t):((qbg t).flatMap qbn).length≤131072:=by
 have h1:∀ ls:List Lab,(∀ l∈ls,qbL false l=0)→(ls.flatMap qbn).length≤16*ls.length+16*(ls.map fun l=>l.kops.length).sum:=by
  intro ls
  induction ls with
  | nil=>intro _;simp
  | cons l ls ih =>
    intro hl
    have a1:=qAB (hl l (by simp))
    have a2:=ih fun x hx=>hl x (by simp[hx])
    rw[List.flatMap_cons,List.length_append,List.length_cons,List.map_cons,List.sum_cons]
    omega
 have h2:=h1 _ h.lab
 have h3:=qrR t
 have h4:=h.size
 rw[qiD] at h2
 omega
theorem qvR {e:List CExpr} (h:qaD e=0) (hf:∀ x∈e,NodeFit x) (a:Int) (ha:0≤a) (hb:a<5000) :
  (qfT e a).2=0∧(∃ K,qa6 ((qfT e a).1.flatMap qbB)=qem a K∧K≤131072)∧qlJ e (qfT e a).1=true∧(qfT e a).1=qau (qb3 (qbD e) ([],a)).1:=by
 have hT:=qpV h
 have hB:=qkw _ hT.lab
 obtain⟨_,_,_,_,_,hc⟩:=qa8 h
 have hm:=qfs hT
 obtain⟨c1,c2⟩:=qgA _ hB ([],a)
 dsimp only at c1 c2
 have hx:(qb3 (qbD e) ([],a)).2.2≤1048576:=by omega
 have hT':=qAS hT a ha hx
 have hc':=qth hB hT.once hc a
 have hre:qfT e a=(qau (qb3 (qbD e) ([],a)).1,0):=by
  unfold qfT
  rw[if_pos h,if_neg (by omega),if_neg (by omega)]
 rw[hre]
 refine⟨rfl,⟨_,?_,hm⟩,?_,rfl⟩
 ·have hp:=qdy _ (qgH (qb3 (qbD e) ([],a)).1)
  rw[qb5] at hp
  refine qlK (qcF _) (qq5 _ _) ((qci _).trans ?_)
  rw[qes (qau (qb3 (qbD e) ([],a)).1)]
  exact ((hp.flatMap_right qbn).symm).trans c2
 ·unfold qlJ
  rw[h,qgi hT',if_pos hc',qb5]
  have:=qx6 (qbD e) hB ([],a)
  rw[this]
  rfl
section
end
def h7 (s:List Int):Heap:=if s=[] then [] else [.vec (s.map qav) 1]
section
end
end Go.Abs
