/-
  Rewriting: what a rule makes of a node, on the machine. Conditions: none.
-/
import Derived.Test.YtpchghpipgpkfaaDoorRI
import Derived.Test.YtpchghpipgpkfaaDoorPA
set_option linter.unusedVariables false
set_option linter.unusedSimpArgs false
set_option maxRecDepth 100000
set_option maxHeartbeats 8000000
namespace Go.Abs
structure RLib (L:Lib):Prop extends CLib L where
 list:∀ (t:CTree),TFit t→qaJ t<2 ^ 30→∀ h:Heap,pcall L 159 [qao t] h=some (.val (.list ((qau t).map qam) none),h)
 mprims:MPrims L
 f159:L.fns 159=some fm159
 f160:L.fns 160=some fm160
 f187:L.fns 187=some fm187
 f283:L.fns 283=some fn283
 f293:L.fns 293=some fn293
 f294:L.fns 294=some fn294
 f297:L.fns 297=some fn297
 f298:L.fns 298=some fn298
 f299:L.fns 299=some fn299
 f300:L.fns 300=some fn300
 f301:L.fns 301=some fn301
 f302:L.fns 302=some fn302
 f313:L.fns 313=some fn313
 f314:L.fns 314=some fn314
 f315:L.fns 315=some fn315
 f316:L.fns 316=some fn316
 f317:L.fns 317=some fn317
 f318:L.fns 318=some fn318
def qkx:CTree→List Int
 | .mk _ _ b _ _=>b
def qAz:CTree→List CTree
 | .mk _ _ _ k _=>k
def qiO (rule N:Int):CTree→Option CTree
 | .mk op n binds kids alts =>
   if N≠0 then none
   else if rule=1∧op=3∧qce (kids.getD 0 .none)=2∧(qkx (kids.getD 0 .none)).length=kids.length-1 then
    some (qdX (qkx (kids.getD 0 .none)) (kids.drop 1) ((qAz (kids.getD 0 .none)).getD 0 .none))
   else if op=4 then qeb rule (.mk op n binds kids alts)
   else if rule=4∧op=5∧qf0 (.mk op n binds kids alts)=true then some (kids.getD binds.length .none)
   else if rule=5∧op=7∧qce (kids.getD 0 .none)=6 then qnu (.mk op n binds kids alts)
   else if rule=6∧op=8∧kids.length=2 then qrl (.mk op n binds kids alts)
   else if rule=7∧op=10 then qrA (.mk op n binds kids alts)
   else none
structure TGood (t:CTree):Prop where
 fit:TFit t
 sh:ShT t
 deep:hgt t≤400
 size:qaJ t≤4096
 lab:∀ l∈qbg t,qbL false l=0
theorem qjl {k:CTree} {ks:List CTree} (h:k∈ks):qaJ k≤qaF ks:=by
 induction ks with
 | nil=>cases h
 | cons x xs ih =>
   rw[qaF]
   rcases List.mem_cons.1 h with rfl | h
   ·omega
   ·have:=ih h;omega
theorem qlo {k:CTree} {ks:List CTree} (h:k∈ks):∀ l∈qbg k,l∈qaY ks:=by
 induction ks with
 | nil=>cases h
 | cons x xs ih =>
   intro l hl
   rw[qaY]
   rcases List.mem_cons.1 h with rfl | h
   ·exact List.mem_append_left _ hl
   ·exact List.mem_append_right _ (ih h l hl)
theorem TGood.kid {op n:Int} {binds:List Int} {kids:List CTree} {alts:List CAlt} (h:TGood (.mk op n binds kids alts)) {k:CTree} (hk:k∈kids):TGood k:=by
 obtain⟨h1,h2,h3,h4,h5⟩:=h
 cases h1 with
 | mk _ _ _ _ _ _ _ _ hf =>
 cases h2 with
 | mk _ _ _ _ _ _ hs =>
 rw[hgt] at h3
 rw[qaJ] at h4
 have:=qdK hk
 have:=qjl hk
 exact⟨hf k hk,hs k hk,by omega,by omega,fun l hl=>h5 l (by rw[qbg];exact List.mem_append_left _ (qlo hk l hl))⟩
theorem TGood.shape {op n:Int} {binds:List Int} {kids:List CTree} {alts:List CAlt} (h:TGood (.mk op n binds kids alts)):qa2 op n binds.length kids.length alts=true:=by
 cases h.sh with
 | mk _ _ _ _ _ hs _=>exact hs
theorem qtq {n:Int} {bl kl:Nat} {as:List CAlt} (h:qa2 8 n bl kl as=true):0≤n∧n≤11:=by
 by_cases hc:0≤n∧n≤11
 ·exact hc
 ·have e:qa2 8 n bl kl as=false:=by
   unfold qa2
   rw[if_neg (by decide)]
   have:kbu 8 n bl kl=none:=by
    unfold kbu
    simp only[show ((8:Int)=0∨(8:Int)=1∨(8:Int)=17)=False by simp,show ((8:Int)=2)=False by simp,show ((8:Int)=3)=False by simp,show ((8:Int)=4)=False by simp,show ((8:Int)=5)=False by simp,show ((8:Int)=6)=False by simp,if_false,if_true,if_neg hc]
   rw[this]
  rw[e] at h
  cases h
theorem qiG {n:Int} {bl kl:Nat} {as:List CAlt} (h:qa2 10 n bl kl as=true):kl=1:=by
 have e:qa2 10 n bl kl as=qbN n bl kl as.length (1,0,true):=rfl
 rw[e] at h
 unfold qbN at h
 simp only[Bool.and_eq_true,beq_iff_eq] at h
 omega
theorem qBy {k0:CTree} {ks:List CTree}:(k0::ks).getD 0 .none=k0:=rfl
section
variable {L:Lib} (hR:RLib L)
include hR
theorem qvZ (wv:AVal) (rule at' N:Int) (hr:rule≠10∧rule≠12) (op n:Int) (binds:List Int) (kids:List CTree) (alts:List CAlt) (hg:TGood (.mk op n binds kids alts)) (H:Heap) (p:Nat) (ps:List Nat) (ob ok oa:Option (Option Nat)) (avs:List AVal) (Sk:Nat→Nat→Prop)
  (hbox:H[p]? = some (.box [.int .i64 op,.int .i64 n,.list (binds.map qav) ob,.list (ps.map qar) ok,.list avs oa])) (ha:RA alts avs) (hl:ps.length=kids.length) (hk:∀ (i:Nat) (hi:i<kids.length),WS H (Sk i) kids[i] (ps[i]'(by omega)))
  (hdis:∀ i j q,i≠j→Sk i q→¬ Sk j q) (hlt':∀ i q,Sk i q→q<H.length) :
  ∃ H' r,call L 294 [wv,.agg [.int .i64 rule,.int .i64 at',.int .i64 N],.ptr (some (p,0))] H=some (.val r,H')∧qjQ H' (fun q=>∃ i,Sk i q) (H.length+1) (qiO rule N (.mk op n binds kids alts)) r∧H.length+1≤H'.length∧∀ i,i<H.length→¬ (∃ k,Sk k i)→H'[i]? = H[i]? := by
 have hL:=hR.plain
 have hs:=hL.summ 294 (by rw[hR.f294];simp)
 have hsh:=hg.shape
 obtain⟨sb,hsb⟩:∃ sb,sb=AObj.box [.int .i64 rule,.int .i64 at',.int .i64 N]:=⟨_,rfl⟩
 have hA:∀ q,q<H.length→(H++[sb])[q]? = H[q]? := fun q hq=>hga hq
 have hlp:=hlt hbox
 have hlen1:(H++[sb]).length=H.length+1:=by simp
 have hbx:(H++[sb])[p]? = some (.box [.int .i64 op,.int .i64 n,.list (binds.map qav) ob,.list (ps.map qar) ok,.list avs oa]):=by rw[hA p hlp];exact hbox
 have hsx:(H++[sb])[H.length]? = some (.box [.int .i64 rule,.int .i64 at',.int .i64 N]):=by rw[hgl rfl,hsb]
 have hk1:∀ (i:Nat) (hi:i<kids.length),WS (H++[sb]) (Sk i) kids[i] (ps[i]'(by omega)):=fun i hi=>(hk i hi).frame fun q hq=>hA q (hlt' i q hq)
 have hk2:∀ (i:Nat) (hi:i<kids.length),WS (H++[sb]) (fun q=>∃ i,Sk i q) kids[i] (ps[i]'(by omega)):=fun i hi=>(hk1 i hi).mono fun q hq=>⟨i,hq⟩
 have hSl:∀ q,(∃ i,Sk i q)→q<(H++[sb]).length:=fun q ⟨i,hq⟩=>by have:=hlt' i q hq;omega
 have hnw:NW (H++[sb]) (fun q=>∃ i,Sk i q) (.mk op n binds kids alts) p:=.mk op n binds kids alts p ps ob ok avs oa trivial hbx ha hl hk2
 have hkl:((ps.length:Nat):Int)=kids.length:=by rw[hl]
 have hcall:(∃ H' r,qan [.tmp 6] (qa0 L.pure (call L) fn294.body ⟨qew [wv,.agg [.int .i64 rule,.int .i64 at',.int .i64 N],.ptr (some (p,0))],H⟩)=some (.val r,H')∧qjQ H' (fun q=>∃ i,Sk i q) (H.length+1) (qiO rule N (.mk op n binds kids alts)) r∧H.length+1≤H'.length∧∀ i,i<H.length→¬ (∃ k,Sk k i)→H'[i]? = H[i]?) →
   ∃ H' r,call L 294 [wv,.agg [.int .i64 rule,.int .i64 at',.int .i64 N],.ptr (some (p,0))] H=some (.val r,H')∧qjQ H' (fun q=>∃ i,Sk i q) (H.length+1) (qiO rule N (.mk op n binds kids alts)) r∧H.length+1≤H'.length∧∀ i,i<H.length→¬ (∃ k,Sk k i)→H'[i]? = H[i]? :=
  fun ⟨H',r,h1,h2⟩=>⟨H',r,qaL hs hR.f294 h1,h2⟩
 have nil:∀ {X:Option CTree},X=none→qan [.tmp 6] (qa0 L.pure (call L) fn294.body ⟨qew [wv,.agg [.int .i64 rule,.int .i64 at',.int .i64 N],.ptr (some (p,0))],H⟩)=some (.val (.ptr none),H++[sb]) →
   ∃ H' r,qan [.tmp 6] (qa0 L.pure (call L) fn294.body ⟨qew [wv,.agg [.int .i64 rule,.int .i64 at',.int .i64 N],.ptr (some (p,0))],H⟩)=some (.val r,H')∧qjQ H' (fun q=>∃ i,Sk i q) (H.length+1) X r∧H.length+1≤H'.length∧∀ i,i<H.length→¬ (∃ k,Sk k i)→H'[i]? = H[i]? := by
  intro X hX hc
  subst hX
  exact⟨_,_,hc,rfl,by omega,fun i hi _=>hA i hi⟩
 refine hcall ?_
 have hsbx:[AObj.box [.int .i64 rule,.int .i64 at',.int .i64 N]]=[sb]:=by rw[hsb]
 rw[qiO]
 by_cases hN:N=0
 case neg =>
  have hN':(N==0)=false:=by simpa using hN
  have h10:(rule==10)=false:=by simpa using hr.1
  rw[if_pos hN]
  refine nil rfl ?_
  unfold fn294
  simp -implicitDefEqProofs only[ev_,aOp,opd,qaa,qaB,qaA,qab,qaf,qag,qai,qan,qac,qae,qaj,↓reduceIte,Nat.reduceEqDiff,hsbx,hsx,hN',h10,bne]
 subst hN
 rw[if_neg (by simp)]
 have hr10:(rule==10)=false:=by simpa using hr.1
 have hr12:(rule==12)=false:=by simpa using hr.2
 by_cases h4:op=4
 ·subst h4
  rw[if_neg (by simp),if_pos rfl]
  obtain⟨sk,sb',_,_⟩:=qcE hsh rfl
  obtain⟨v,body,rfl⟩:=qhL sk
  obtain⟨id,rfl⟩:=qhK sb'
  obtain⟨pv,pb,rfl⟩:=qhL (hl.trans rfl)
  have gv:=hg.kid (k:=v) (by simp)
  have gb:=hg.kid (k:=body) (by simp)
  have wv1:=hk1 0 (by simp)
  have wb1:=hk1 1 (by simp)
  simp only[List.getElem_cons_zero,List.getElem_cons_succ] at wv1 wb1
  obtain⟨H',r,c1,c2,c3,c4⟩:=qmL hL hR.prims hR.mprims hR.f187 hR.f159 hR.f160 hR.f316 hR.f313 hR.f314 hR.f315 hR.f317 hR.f298 rule n id v body alts gv.fit gv.sh (by have:=gv.deep;omega) gb.fit gb.sh (by have:=gb.size;omega) (H++[sb]) (Sk 0) (Sk 1) p pv pb ob ok oa avs hbx wv1 wb1
   (fun q hq=>hdis 1 0 q (by decide) (wb1.reach hq).1)
  refine⟨H',r,?_,?_,by omega,fun i hi hn=>?_⟩
  ·have hbx':(H++[sb])[p]? = some (.box [.int .i64 4,.int .i64 n,.list [.int .i64 id] ob,.list [.ptr (some (pv,0)),.ptr (some (pb,0))] ok,.list avs oa]):=hbx
   unfold fn294
   cases h1:(rule==1)<;>simp -implicitDefEqProofs only[ev_,aOp,opd,qaa,qaB,qaA,qab,qaf,qag,qai,qan,qac,qae,qaj,qaz,↓reduceIte,Nat.reduceEqDiff,Int.reduceBEq,hsbx,hsx,hbx',h1,hr10,c1,bne]
  ·rw[hlen1] at c2
   revert c2
   unfold qjQ
   cases qeb rule (.mk 4 n [id] [v,body] alts) with
   | none=>exact fun h=>h
   | some t' =>
     rintro ⟨q,e1,e2⟩
     exact⟨q,e1,e2.mono fun j hj=>hj.imp (fun h=>h.elim (fun h=>⟨0,h⟩) (fun h=>⟨1,h⟩)) fun h=>h⟩
  ·rw[c4 i (by omega) (fun h=>hn ⟨1,(wb1.reach h.2).1⟩),hA i hi]
 have h4':(op==4)=false:=by simpa using h4
 by_cases h1:rule=1
 ·subst h1
  by_cases h3:op=3
  ·subst h3
   have hkpos:0<kids.length:=(qcm hsh).2.1 (by simp)
   obtain⟨k0,ks,rfl⟩:∃ k0 ks,kids=k0::ks:=by
    cases kids with
    | nil=>simp at hkpos
    | cons a l=>exact⟨a,l,rfl⟩
   have hpsl:ps.length=ks.length+1:=hl
   have g0:=hg.kid (k:=k0) (by simp)
   have w0:=hk2 0 (by simp)
   simp only[List.getElem_cons_zero] at w0
   have hg0:(ps.map qar)[0]? = some (.ptr (some (ps[0]'(by omega),0))):=by rw[List.getElem?_map,List.getElem?_eq_getElem (by omega)];rfl
   rw[qBy]
   obtain⟨o0,n0,b0,kk0,a0⟩:=k0
   have hw0:=w0
   cases w0 with
   | mk _ _ _ _ _ _ ps0 ob0 ok0 avs0 oa0 hpS0 hbox0 ha0 hl0 hk0 =>
   have hro:qce (.mk o0 n0 b0 kk0 a0)=o0:=rfl
   rw[hro]
   by_cases ho:o0=2
   ·subst ho
    have hsh0:=g0.shape
    have hk1':kk0.length=1:=(qcm hsh0).1 rfl
    obtain⟨kb,rfl⟩:=qhK hk1'
    obtain⟨pb,rfl⟩:=qhK (hl0.trans rfl)
    have hbx0:(H++[sb])[ps[0]'(by omega)]? = some (.box [.int .i64 2,.int .i64 n0,.list (b0.map qav) ob0,.list [.ptr (some (pb,0))] ok0,.list avs0 oa0]):=hbox0
    have hkbl:ks.length<2 ^ 30:=by have:=hg.size;have h5:=qjk ks;rw[qaJ,qaF] at this;omega
    have hw:IntKind.i64.wrap (((ks.length+1:Nat):Int)-1)=(ks.length:Int):=by rw[qcy (by omega) (by omega)];omega
    by_cases hb:b0.length=ks.length
    ·have hb':((b0.length:Int)==(ks.length:Int))=true:=by simp[hb]
     rw[if_pos ⟨rfl,rfl,rfl,by simpa[qkx] using hb⟩]
     obtain⟨H',q,c1,c2,c3,c4⟩:=qu6 hL hR.f313 hR.f297 b0 (by omega) (ps.drop 1) ks (by simp;omega) (by omega) kb pb ob0 none (H++[sb]) (fun q=>∃ i,Sk i q) hSl (fun i hi=>by
      have:=hk2 (i+1) (by simp;omega)
      simp only[List.getElem_cons_succ] at this
      rw[List.getElem_drop]
      simpa[Nat.add_comm] using this) (hk0 0 (by simp))
     refine⟨H',.ptr (some (q,0)),?_,⟨q,rfl,?_⟩,by omega,fun i hi _=>by rw[c4 i (by omega),hA i hi]⟩
     ·have hall:=qfr ps
      have hmd:((ps.map qar).take ps.length).drop 1=(ps.drop 1).map qar:=by rw[List.take_of_length_le (by simp),List.map_drop]
      have hle1:((1:Int)≤ps.length):=by omega
      have c1':call L 297 [.list (b0.map qav) ob0,.list ((ps.drop 1).map qar) none,.ptr (some (pb,0))] (H++[sb])=some (.val (.ptr (some (q,0))),H'):=c1
      rw[← hpsl] at hw
      generalize (ps.drop 1).map qar=pd at *
      unfold fn294
      simp -implicitDefEqProofs only[ev_,aOp,opd,qaa,qaB,qbd,qaA,qad,qab,qaf,qag,qai,qan,qac,qae,qaj,qaz,↓reduceIte,Nat.reduceEqDiff,Int.reduceToNat,Int.reduceLE,qdo,qdQ,Int.le_refl,hsbx,hsx,hbx,hbx0,hg0,hb',hw,hall,hmd,hle1,c1',bne]
     ·rw[hlen1] at c2
      exact c2
    ·have hb':((b0.length:Int)==(ks.length:Int))=false:=by simp;omega
     rw[if_neg (by intro h;exact hb (by simpa[qkx] using h.2.2.2)),if_neg h4,if_neg (by simp),if_neg (by simp),if_neg (by simp),if_neg (by simp)]
     refine nil rfl ?_
     rw[← hpsl] at hw
     unfold fn294
     simp -implicitDefEqProofs only[ev_,aOp,opd,qaa,qaB,qbd,qaA,qad,qab,qaf,qag,qai,qan,qac,qae,qaj,qaz,↓reduceIte,Nat.reduceEqDiff,Int.reduceToNat,Int.reduceBEq,Int.le_refl,hsbx,hsx,hbx,hbx0,hg0,hb',hw,bne]
   ·have ho':(o0==2)=false:=by simpa using ho
    rw[if_neg (by simp[ho]),if_neg h4,if_neg (by simp),if_neg (by simp),if_neg (by simp),if_neg (by simp)]
    refine nil rfl ?_
    unfold fn294
    simp -implicitDefEqProofs only[ev_,aOp,opd,qaa,qaB,qaA,qad,qab,qaf,qag,qai,qan,qac,qae,qaj,qaz,↓reduceIte,Nat.reduceEqDiff,Int.reduceToNat,Int.reduceBEq,Int.le_refl,hsbx,hsx,hbx,hbox0,hg0,ho',bne]
  ·have h3':(op==3)=false:=by simpa using h3
   rw[if_neg (by simp[h3]),if_neg h4,if_neg (by simp),if_neg (by simp),if_neg (by simp),if_neg (by simp)]
   refine nil rfl ?_
   unfold fn294
   simp -implicitDefEqProofs only[ev_,aOp,opd,qaa,qaB,qaA,qab,qaf,qag,qai,qan,qac,qae,qaj,qaz,↓reduceIte,Nat.reduceEqDiff,Int.reduceBEq,hsbx,hsx,hbx,h3',h4',bne]
 have h1':(rule==1)=false:=by simpa using h1
 rw[if_neg (fun h=>h1 h.1),if_neg h4]
 by_cases hr4:rule=4
 ·subst hr4
  by_cases h5:op=5
  ·subst h5
   have hkb:=qdT hsh rfl
   have hun:=qwm hL hR.f299 hR.f314 5 n binds kids alts (by omega) (fun k hk=>by
    have g:=hg.kid hk
    exact⟨g.fit,g.sh,by have:=g.size;omega⟩) (by have:=hg.size;have h5:=qjk kids;rw[qaJ] at this;omega)
   have hwt:WS (H++[sb]) (fun _=>True) (.mk 5 n binds kids alts) p:=.mk 5 n binds kids alts p ps ob ok avs oa trivial hbx ha hl fun i hi=>(hk1 i hi).mono fun _ _=>trivial
   have hv:=qiN hun hwt (by have:=hg.deep;omega)
   cases hu:qf0 (.mk 5 n binds kids alts) with
   | true =>
     rw[hu] at hv
     rw[if_pos ⟨rfl,rfl,rfl⟩]
     have hgd:kids.getD binds.length .none=kids[binds.length]'(by omega):=by rw[List.getD_eq_getElem?_getD,List.getElem?_eq_getElem (by omega)];rfl
     have hgk:(ps.map qar)[binds.length]? = some (.ptr (some (ps[binds.length]'(by omega),0))):=by rw[List.getElem?_map,List.getElem?_eq_getElem (by omega)];rfl
     refine⟨H++[sb],.ptr (some (ps[binds.length]'(by omega),0)),?_,⟨_,rfl,?_⟩,by omega,fun i hi _=>hA i hi⟩
     ·unfold fn294
      simp -implicitDefEqProofs only[ev_,aOp,opd,qaa,qaB,qbd,qaA,qad,qab,qaf,qag,qai,qan,qac,qae,qaj,qaz,↓reduceIte,Nat.reduceEqDiff,Int.reduceBEq,hsbx,hsx,hbx,hv,hgk,bne]
     ·rw[hgd]
      exact (hk2 binds.length (by omega)).mono fun q hq=>.inl hq
   | false =>
     rw[hu] at hv
     rw[if_neg (by simp),if_neg (by simp),if_neg (by simp),if_neg (by simp)]
     refine nil rfl ?_
     unfold fn294
     simp -implicitDefEqProofs only[ev_,aOp,opd,qaa,qaB,qaA,qab,qaf,qag,qai,qan,qac,qae,qaj,qaz,↓reduceIte,Nat.reduceEqDiff,Int.reduceBEq,hsbx,hsx,hbx,hv,bne]
  ·have h5':(op==5)=false:=by simpa using h5
   rw[if_neg (by simp[h5]),if_neg (by simp),if_neg (by simp),if_neg (by simp)]
   refine nil rfl ?_
   unfold fn294
   simp -implicitDefEqProofs only[ev_,aOp,opd,qaa,qaB,qaA,qab,qaf,qag,qai,qan,qac,qae,qaj,qaz,↓reduceIte,Nat.reduceEqDiff,Int.reduceBEq,hsbx,hsx,hbx,h4',h5',bne]
 have hr4':(rule==4)=false:=by simpa using hr4
 rw[if_neg (fun h=>hr4 h.1)]
 by_cases hr5:rule=5
 ·subst hr5
  by_cases h7:op=7
  ·subst h7
   have hka:=(qdC hsh).1 (.inl rfl)
   obtain⟨k0,ks,rfl⟩:∃ k0 ks,kids=k0::ks:=by
    cases kids with
    | nil=>simp at hka
    | cons a l=>exact⟨a,l,rfl⟩
   have hksl:ks.length=alts.length:=by simpa using hka
   have hpsl:ps.length=ks.length+1:=hl
   have g0:=hg.kid (k:=k0) (by simp)
   have hg0:(ps.map qar)[0]? = some (.ptr (some (ps[0]'(by omega),0))):=by rw[List.getElem?_map,List.getElem?_eq_getElem (by omega)];rfl
   have w0:=hk2 0 (by simp)
   simp only[List.getElem_cons_zero] at w0
   have hfit:=hg.fit
   rw[qBy]
   by_cases ho:qce k0=6
   ·rw[if_pos ⟨rfl,rfl,ho⟩]
    obtain⟨H',r,c1,c2,c3,c4⟩:=qt8 hL hR.f313 hR.f297 hR.f315 hR.f317 hR.f300 7 n binds k0 ks alts g0.fit g0.sh (by have:=g0.deep;omega) (by cases hfit;assumption) (fun a ha'=>by
     cases hfit with
     | mk _ _ _ _ _ hb _ _ _ =>
       have:=qib alts ha'
       rw[List.length_append] at hb
       omega) hksl (H++[sb]) (fun q=>∃ i,Sk i q) hSl p hnw
    refine⟨H',r,?_,by rw[hlen1] at c2;exact c2,by omega,fun i hi _=>by rw[c4 i (by omega),hA i hi]⟩
    obtain⟨o0,n0,b0,kk0,a0⟩:=k0
    have ho:o0=6:=ho
    subst ho
    cases w0 with
    | mk _ _ _ _ _ _ ps0 ob0 ok0 avs0 oa0 hpS0 hbox0 ha0 hl0 hk0 =>
    unfold fn294
    simp -implicitDefEqProofs only[ev_,aOp,opd,qaa,qaB,qaA,qad,qab,qaf,qag,qai,qan,qac,qae,qaj,qaz,↓reduceIte,Nat.reduceEqDiff,Int.reduceToNat,Int.reduceBEq,Int.le_refl,hsbx,hsx,hbx,hbox0,hg0,c1,bne]
   ·rw[if_neg (by simp[ho]),if_neg (by simp),if_neg (by simp)]
    obtain⟨o0,n0,b0,kk0,a0⟩:=k0
    have ho:¬ o0=6:=ho
    have ho':(o0==6)=false:=by simpa using ho
    cases w0 with
    | mk _ _ _ _ _ _ ps0 ob0 ok0 avs0 oa0 hpS0 hbox0 ha0 hl0 hk0 =>
    refine nil rfl ?_
    unfold fn294
    simp -implicitDefEqProofs only[ev_,aOp,opd,qaa,qaB,qaA,qad,qab,qaf,qag,qai,qan,qac,qae,qaj,qaz,↓reduceIte,Nat.reduceEqDiff,Int.reduceToNat,Int.reduceBEq,Int.le_refl,hsbx,hsx,hbx,hbox0,hg0,ho',bne]
  ·have h7':(op==7)=false:=by simpa using h7
   rw[if_neg (by simp[h7]),if_neg (by simp),if_neg (by simp)]
   refine nil rfl ?_
   unfold fn294
   simp -implicitDefEqProofs only[ev_,aOp,opd,qaa,qaB,qaA,qab,qaf,qag,qai,qan,qac,qae,qaj,qaz,↓reduceIte,Nat.reduceEqDiff,Int.reduceBEq,hsbx,hsx,hbx,h4',h7',bne]
 have hr5':(rule==5)=false:=by simpa using hr5
 rw[if_neg (fun h=>hr5 h.1)]
 by_cases hr6:rule=6
 ·subst hr6
  by_cases h8:op=8
  ·subst h8
   by_cases h2:kids.length=2
   ·have h2':((kids.length:Int)==2)=true:=by rw[h2];rfl
    rw[if_pos ⟨rfl,rfl,h2⟩]
    have hn:=qtq hsh
    obtain⟨k0,k1,rfl⟩:=qhL h2
    obtain⟨H',r,c1,c2,c3,c4⟩:=qwN hL hR.f318 hR.f301 8 n hn binds k0 k1 alts (H++[sb]) (fun q=>∃ i,Sk i q) p hnw
    refine⟨H',r,?_,by rw[hlen1] at c2;exact c2,by omega,fun i hi _=>by rw[c4 i (by omega),hA i hi]⟩
    unfold fn294
    simp -implicitDefEqProofs only[ev_,aOp,opd,qaa,qaB,qbd,qaA,qab,qaf,qag,qai,qan,qac,qae,qaj,qaz,↓reduceIte,Nat.reduceEqDiff,Nat.reduceAdd,Int.reduceBEq,hsbx,hsx,hbx,hkl,h2',c1,bne]
   ·have h2':((kids.length:Int)==2)=false:=by simp;omega
    rw[if_neg (by simp[h2]),if_neg (by simp)]
    refine nil rfl ?_
    unfold fn294
    simp -implicitDefEqProofs only[ev_,aOp,opd,qaa,qaB,qbd,qaA,qab,qaf,qag,qai,qan,qac,qae,qaj,qaz,↓reduceIte,Nat.reduceEqDiff,Int.reduceBEq,hsbx,hsx,hbx,hkl,h2',bne]
  ·have h8':(op==8)=false:=by simpa using h8
   rw[if_neg (by simp[h8]),if_neg (by simp)]
   refine nil rfl ?_
   unfold fn294
   simp -implicitDefEqProofs only[ev_,aOp,opd,qaa,qaB,qaA,qab,qaf,qag,qai,qan,qac,qae,qaj,qaz,↓reduceIte,Nat.reduceEqDiff,Int.reduceBEq,hsbx,hsx,hbx,h4',h8',bne]
 have hr6':(rule==6)=false:=by simpa using hr6
 rw[if_neg (fun h=>hr6 h.1)]
 by_cases hr7:rule=7
 ·subst hr7
  by_cases h10:op=10
  ·subst h10
   rw[if_pos ⟨rfl,rfl⟩]
   have h1k:=qiG hsh
   obtain⟨k0,rfl⟩:=qhK h1k
   have g0:=hg.kid (k:=k0) (by simp)
   obtain⟨r,c1,c2⟩:=qxe hL hR.f315 hR.f317 hR.f302 10 n binds k0 alts g0.fit g0.sh (by have:=g0.deep;omega) (H++[sb]) (fun q=>∃ i,Sk i q) hSl p hnw
   refine⟨H++[sb],r,?_,by rw[hlen1] at c2;exact c2,by omega,fun i hi _=>hA i hi⟩
   unfold fn294
   simp -implicitDefEqProofs only[ev_,aOp,opd,qaa,qaB,qaA,qab,qaf,qag,qai,qan,qac,qae,qaj,qaz,↓reduceIte,Nat.reduceEqDiff,Int.reduceBEq,hsbx,hsx,hbx,c1,bne]
  ·have h10':(op==10)=false:=by simpa using h10
   rw[if_neg (by simp[h10])]
   refine nil rfl ?_
   unfold fn294
   simp -implicitDefEqProofs only[ev_,aOp,opd,qaa,qaB,qaA,qab,qaf,qag,qai,qan,qac,qae,qaj,qaz,↓reduceIte,Nat.reduceEqDiff,Int.reduceBEq,hsbx,hsx,hbx,h4',h10',bne]
 have hr7':(rule==7)=false:=by simpa using hr7
 rw[if_neg (fun h=>hr7 h.1)]
 refine nil rfl ?_
 unfold fn294
 simp -implicitDefEqProofs only[ev_,aOp,opd,qaa,qaB,qaA,qab,qaf,qag,qai,qan,qac,qae,qaj,qaz,↓reduceIte,Nat.reduceEqDiff,hsbx,hsx,hbx,h4',h1',hr4',hr5',hr6',hr7',hr10,hr12,bne]
end
end Go.Abs
