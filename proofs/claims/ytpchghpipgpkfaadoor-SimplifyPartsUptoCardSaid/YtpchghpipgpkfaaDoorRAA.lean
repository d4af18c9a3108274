/-
  PARTS OF A PROOF, joined: an abstract machine for quiet code, its evaluation, and what the seat's functions answer on it. Conditions: none.
-/
import Derived.Test.YtpchghpipgpkfaaDoorRY
import Derived.Test.YtpchghpipgpkfaaDoorD
set_option linter.unusedVariables false
set_option linter.unusedSimpArgs false
set_option maxRecDepth 100000
set_option maxHeartbeats 8000000
namespace Go.Abs
section
variable {L:Lib} (hL:Plain L)
include hL
theorem qrd (h315:L.fns 315=some fn315) (h317:L.fns 317=some fn317) (h346:L.fns 346=some fn346) (rule many op n:Int) (hm:0≤many) (binds:List Int) (v body:CTree) (alts:List CAlt) (hv:TFit v) (hs:ShT v) (h:Heap) :
  pcall L 346 [.int .i64 rule,qaB (.mk op n binds [v,body] alts),.int .i64 many] h=some (.val (.bool (qn5 rule v many.toNat)),h):=by
 have hp:=hL.pure
 have hat:=qnW hL h315 v
 have hva:=qhf hL h315 h317 v hv hs
 have hB:=qao alts
 have hdb:qay (qaB body)=true:=qb8 body
 refine qaX hL h346 rfl ?_ h
 obtain⟨vo,vn,vb,vk,va⟩:=v
 have hK:=qbU vk
 have hA:=qao va
 unfold qn5
 rw[qbt]
 simp only[List.map_cons,List.map_nil]
 obtain⟨tc,htc,hdt⟩:=qcc body
 rw[htc]
 dsimp only[qc9]
 have hz:(many==0)=(many.toNat==0):=by
  rw[Bool.eq_iff_iff];simp;omega
 have ho:(many==1)=(many.toNat==1):=by
  rw[Bool.eq_iff_iff];simp;omega
 rw[qbt] at hat hva ⊢
 by_cases r2:rule=2
 ·subst r2
  unfold fn346
  simp -implicitDefEqProofs only[ev_,aOp,opd,qaa,qau,qat,qad,qab,qag,qah,qan,qac,qae,qaj,↓reduceIte,reduceCtorEq,Nat.reduceEqDiff,Int.reduceToNat,qar,qak,qai,Int.le_refl,hat,hK,hA,hB,hdt,qam L hp,hp]
 by_cases r3:rule=3
 ·subst r3
  rw[← hz]
  cases hc:many==0 with
  | true =>
    unfold fn346
    simp -implicitDefEqProofs only[ev_,aOp,opd,qaa,qau,qat,qad,qab,qaf,qag,qah,qan,qac,qae,qaj,↓reduceIte,reduceCtorEq,Nat.reduceEqDiff,Int.reduceToNat,Int.reduceEq,Int.reduceBEq,qar,qak,qai,Int.le_refl,hva,hc,hK,hA,hB,hdt,qam L hp,hp]
  | false =>
    unfold fn346
    simp -implicitDefEqProofs only[ev_,aOp,opd,qaa,qau,qat,qad,qab,qaf,qag,qah,qan,qac,qae,qaj,↓reduceIte,reduceCtorEq,Nat.reduceEqDiff,Int.reduceToNat,Int.reduceEq,Int.reduceBEq,qak,Int.le_refl,hc,hK,hA,hB,hdt,qam L hp,hp]
 have b2:(rule==2)=false:=by simpa using r2
 have b3:(rule==3)=false:=by simpa using r3
 by_cases r8:rule=8
 ·subst r8
  unfold fn346
  simp -implicitDefEqProofs only[ev_,aOp,opd,qaa,qau,qat,qad,qab,qag,qah,qan,qac,qae,qaj,↓reduceIte,reduceCtorEq,Nat.reduceEqDiff,Int.reduceToNat,Int.reduceEq,Int.reduceBEq,qak,Int.le_refl,hK,hA,hB,hdt]
 by_cases r9:rule=9
 ·subst r9
  have hl:((va.length:Int)==1)=(va.length==1):=by
   rw[Bool.eq_iff_iff];simp;omega
  cases hc:vo==7 with
  | true =>
    unfold fn346
    simp -implicitDefEqProofs only[ev_,aOp,opd,qaa,qau,qbc,qat,qad,qab,qaf,qag,qah,qan,qac,qae,qaj,↓reduceIte,reduceCtorEq,Nat.reduceEqDiff,Int.reduceToNat,Int.reduceEq,Int.reduceBEq,qak,Int.le_refl,hc,hl,hK,hA,hB,hdt]
  | false =>
    unfold fn346
    simp -implicitDefEqProofs only[ev_,aOp,opd,qaa,qau,qat,qad,qab,qaf,qag,qah,qan,qac,qae,qaj,↓reduceIte,reduceCtorEq,Nat.reduceEqDiff,Int.reduceToNat,Int.reduceEq,Int.reduceBEq,qak,Int.le_refl,hc,hK,hA,hB,hdt]
 by_cases r11:rule=11
 ·subst r11
  rw[← ho]
  cases hc:vo==2 with
  | true =>
    unfold fn346
    simp -implicitDefEqProofs only[ev_,aOp,opd,qaa,qau,qat,qad,qab,qaf,qag,qah,qan,qac,qae,qaj,↓reduceIte,reduceCtorEq,Nat.reduceEqDiff,Int.reduceToNat,Int.reduceEq,Int.reduceBEq,qak,Int.le_refl,hc,hK,hA,hB,hdt]
  | false =>
    unfold fn346
    simp -implicitDefEqProofs only[ev_,aOp,opd,qaa,qau,qat,qad,qab,qaf,qag,qah,qan,qac,qae,qaj,↓reduceIte,reduceCtorEq,Nat.reduceEqDiff,Int.reduceToNat,Int.reduceEq,Int.reduceBEq,qak,Int.le_refl,hc,hK,hA,hB,hdt]
 have b8:(rule==8)=false:=by simpa using r8
 have b9:(rule==9)=false:=by simpa using r9
 have b11:(rule==11)=false:=by simpa using r11
 rw[if_neg r2,if_neg r3,if_neg r8,if_neg r9,if_neg r11]
 unfold fn346
 simp -implicitDefEqProofs only[ev_,aOp,opd,qaa,qau,qat,qad,qab,qag,qah,qan,qac,qae,qaj,↓reduceIte,reduceCtorEq,Nat.reduceEqDiff,Int.reduceToNat,qak,Int.le_refl,b2,b3,b8,b9,b11,hK,hA,hB,hdt]
end
def qlL (e:List CExpr):IM Int:=((e.filter fun x=>x.op==0).map (·.n)).foldl (qf6 1) []
theorem qsg (e:List CExpr) (x:CExpr):qlL (e++[x])=if x.op=0 then qf6 1 (qlL e) x.n else qlL e:=by
 unfold qlL
 rw[List.filter_append,List.map_append,List.foldl_append]
 by_cases h:x.op=0
 ·rw[if_pos h]
  have:[x].filter (fun x=>x.op==0)=[x]:=by simp[h]
  rw[this]
  rfl
 ·rw[if_neg h]
  have:[x].filter (fun x=>x.op==0)=[]:=by simp[h]
  rw[this]
  rfl
theorem qpw (e:List CExpr) (id:Int):qdV id (qlL e)=qtG e id:=by
 unfold qlL
 rw[qcP]
 unfold qxY qtG
 rw[List.count_eq_countP,List.countP_map,List.countP_filter,← List.countP_eq_length_filter]
 have:List.countP (fun a=>((fun x=>x==id) ∘ fun x=>x.n) a && a.op==0) e=List.countP (fun x=>x.op==0 && x.n==id) e:=by
  congr 1
  funext a
  simp[Bool.and_comm]
 rw[this]
 unfold qdV
 rw[show qbS id ([]:IM Int)=none from rfl]
 simp
theorem qvN (e:List CExpr) (id:Int):qtG e id≤e.length:=List.length_filter_le _ _
section
variable {L:Lib}
theorem qyj {b:Nat} (e:List CExpr) (hl:e.length<2 ^ 30) (H0:Heap) :
  ∃ T,qa5 L.pure (call L) b [1000000,3,7,8,9] [1000000,3] 0 qfL ⟨kt [3,7,8,9] [.map (some H0.length),.list (e.map qal) none,.int .i64 e.length,.int .i64 0],H0++[.map []]⟩=some (.normal,T) ∧
   ∃ H,T=⟨kt [3] [.map (some H0.length)],H⟩∧H[H0.length]? = some (.map (encB (qlL e)))∧∀ q,q<H0.length→H[q]? = H0[q]? := by
 refine qbD (pure:=L.pure) (call:=call L) (b:=b) (id:=0) (body:=qfL)
  (fun i s=>∃ H,s=⟨kt [3,7,8,9] [.map (some H0.length),.list (e.map qal) none,.int .i64 e.length,.int .i64 i],H⟩∧H[H0.length]? = some (.map (encB (qlL (e.take i))))∧∀ q,q<H0.length→H[q]? = H0[q]?) e.length _ ?_ ?_ ?_
 ·intro i s hi hs
  obtain⟨H,rfl,hm,hk⟩:=hs
  obtain⟨h1,h2,h3⟩:=qaN qal e hl i hi
  have hlm:=hlt hm
  have ht:qlL (e.take (i+1))=if e[i].op=0 then qf6 1 (qlL (e.take i)) e[i].n else qlL (e.take i):=by
   rw[List.take_succ_eq_append_getElem hi,qsg]
  rw[ht]
  have hb0:qdV e[i].n (qlL (e.take i))=qtG (e.take i) e[i].n:=qpw _ _
  have hb1:=qvN (e.take i) e[i].n
  have hb2:(e.take i).length≤e.length:=by simp;omega
  have w:IntKind.i64.wrap (qdV e[i].n (qlL (e.take i))+1)=qdV e[i].n (qlL (e.take i))+1:=qbN (by omega) (by omega)
  have hdX:=qao e[i].alts
  clear hb0 hb1 ht
  generalize qlL (e.take i)=m at *
  generalize e[i]=x at *
  have hm2:(H++[qig x])[H0.length]? = some (.map (encB m)):=by rw[hga hlm];exact hm
  have hlook:=qqr (H++[qig x]) H0.length x.n m hm2
  have hupd:=qzc (H++[qig x]) H0.length x.n (qdV x.n m+1) m hm2
  obtain⟨r,hr0⟩:∃ r,qa4 L.pure (call L) b [1000000,3,7,8,9] [1000000,3] qfL ⟨kt [3,7,8,9] [.map (some H0.length),.list (e.map qal) none,.int .i64 e.length,.int .i64 i],H⟩=r:=⟨_,rfl⟩
  have hr:=hr0
  unfold qig at *
  unfold qfL at hr
  by_cases h0:x.op=0
  ·have b0:(x.op==0)=true:=by simpa using h0
   rw[if_pos h0]
   simp -implicitDefEqProofs only[ev_,aOp,opd,qaa,qaq,qau,qat,qad,qab,qag,qaK,qaL,qah,leaf,qap,↓reduceIte,Nat.reduceEqDiff,Nat.reduceAdd,qaS,h1,h2,h3,b0,hgl,hsl,hga,hlook,hupd,w,hdX] at hr
   subst hr
   refine⟨_,hr0,_,rfl,?_,fun q hq=>?_⟩
   ·rw[hgs (by simp;omega)]
    rfl
   ·rw[hgn (by omega),hga (by omega)]
    exact hk q hq
  ·have b0:(x.op==0)=false:=by simpa using h0
   rw[if_neg h0]
   simp -implicitDefEqProofs only[ev_,aOp,opd,qaa,qaq,qau,qat,qad,qab,qag,qaK,qaL,qah,leaf,qap,↓reduceIte,Nat.reduceEqDiff,Nat.reduceAdd,qaS,h1,h2,h3,b0,hgl,hsl,hga,hdX] at hr
   subst hr
   refine⟨_,hr0,_,rfl,?_,fun q hq=>?_⟩
   ·exact hm2
   ·rw[hga (by omega)]
    exact hk q hq
 ·intro s hs
  obtain⟨H,rfl,hm,hk⟩:=hs
  have h0:=qaO e.length
  rw[List.take_length] at hm
  refine⟨_,?_,H,rfl,hm,hk⟩
  unfold qfL
  simp -implicitDefEqProofs only[ev_,aOp,opd,qaa,qau,qat,qab,gcE,↓reduceIte,Nat.reduceEqDiff,h0]
 ·exact⟨_,rfl,hgl rfl,fun q hq=>hga hq⟩
theorem qkf (hL:Plain L) (h342:L.fns 342=some fn342) (e:List CExpr) (hl:e.length<2 ^ 30) (H0:Heap) :
  ∃ H,call L 342 [.list (e.map qal) none] H0=some (.val (.map (some H0.length)),H)∧H[H0.length]? = some (.map (encB (qlL e)))∧∀ q,q<H0.length→H[q]? = H0[q]? := by
 obtain⟨T,ht,H,rfl,hm,hk⟩:=qyj (L:=L) (b:=H0.length+1) e hl H0
 refine⟨H,?_,hm,hk⟩
 refine qaA (hL.summ 342 (by rw[h342];simp)) h342 ?_
 unfold fn342
 simp -implicitDefEqProofs only[ev_,aOp,opd,qaa,qbc,qan,qac,qae,qaj,↓reduceIte,reduceCtorEq,Nat.reduceEqDiff,ht]
end
def qs5 (m:IM Int) (s:Bool) (id:Int):Bool:=s || decide (0<qdV id m)
theorem qnz (m:IM Int):∀ (l:List Int) (s:Bool),l.foldl (qs5 m) s=(s || l.any fun id=>decide (0<qdV id m))
 | [],s=>by simp
 | x :: l,s => by
   rw[List.foldl_cons,qnz m l,List.any_cons]
   unfold qs5
   rw[Bool.or_assoc]
section
variable {L:Lib}
theorem qxz {b:Nat} (H:Heap) (p mid:Nat) (m:IM Int) (hm:H[mid]? = some (.map (encB m))) (binds:List Int) (hl:binds.length<2 ^ 30) (ob:Option (Option Nat)) :
  qa5 L.pure (call L) b [1000000,0,1,5,11,12,13] [1000000,0,5] 0 qfM ⟨kt [0,1,5,11,12,13] [.ptr (some (p,0)),.map (some mid),.bool false,.list (binds.map qaw) ob,.int .i64 binds.length,.int .i64 0],H⟩ =
   some (.normal,⟨kt [0,5] [.ptr (some (p,0)),.bool (binds.any fun id=>decide (0<qdV id m))],H⟩):=by
 have key:=qfQ (pure:=L.pure) (call:=call L) (b:=b) (keep:=[1000000,0,1,5,11,12,13]) (fk:=[1000000,0,5]) (id:=0) (body:=qfM) binds (qs5 m)
  (fun s j=>⟨kt [0,1,5,11,12,13] [.ptr (some (p,0)),.map (some mid),.bool s,.list (binds.map qaw) ob,.int .i64 binds.length,.int .i64 j],H⟩)
  (fun s=>⟨kt [0,5] [.ptr (some (p,0)),.bool s],H⟩)
  (fun _ _=>True) false trivial ?_ ?_
 ·obtain⟨_,h2⟩:=key
  rw[qnz,Bool.false_or] at h2
  exact h2
 ·intro j hj s _
  obtain⟨h1,h2,h3⟩:=qaN qaw binds hl j hj
  refine⟨?_,trivial⟩
  have hlook:=qqr H mid binds[j] m hm
  generalize binds[j]=x at *
  cases s with
  | true =>
    unfold qs5
    unfold qfM
    simp -implicitDefEqProofs only[ev_,aOp,opd,qaa,qau,qat,qad,qab,qaf,qag,↓reduceIte,reduceCtorEq,Nat.reduceEqDiff,qbg,h1,h2,h3]
  | false =>
    unfold qs5
    unfold qfM
    simp -implicitDefEqProofs only[ev_,aOp,opd,qaa,qau,qat,qad,qab,qaf,qag,↓reduceIte,reduceCtorEq,Nat.reduceEqDiff,gt_iff_lt,qbg,h1,h2,h3,hlook]
 ·intro s _
  have h0:=qaO binds.length
  unfold qfM
  simp -implicitDefEqProofs only[ev_,aOp,opd,qaa,qau,qat,qab,gcE,↓reduceIte,reduceCtorEq,Nat.reduceEqDiff,h0]
theorem qxA (hL:Plain L) (h299:L.fns 299=some fn299) (h314:L.fns 314=some fn314) (h347:L.fns 347=some fn347) (n:Int) (binds:List Int) (kids:List CTree) (alts:List CAlt) (hg:TGood (.mk 5 n binds kids alts)) (H:Heap) (S:Nat→Prop) (p mid:Nat) (m:IM Int)
  (hw:WS H S (.mk 5 n binds kids alts) p) (hm:H[mid]? = some (.map (encB m))) :
  call L 347 [.ptr (some (p,0)),.map (some mid)] H=some (.val (.bool (!(binds.any fun id=>decide (0<qdV id m)) || qhF (.mk 5 n binds kids alts))),H):=by
 have hrec:=qfi hg.shape rfl
 have hbl:binds.length<2 ^ 30:=by
  cases hg.fit with
  | mk _ _ _ _ _ hb _ _ _=>rw[List.length_append] at hb;omega
 have hun:=qny hL h299 h314 5 n binds kids alts (by omega) (fun k hk=>by
  have:=hg.kid hk
  exact⟨this.fit,this.sh,by have:=this.size;omega⟩) (by have:=hg.size;rw[qaM] at this;have:=qeg kids;omega)
 have hv:=qiF hun hw (by have:=hg.deep;omega)
 cases hw with
 | mk _ _ _ _ _ _ ps ob ok avs oa hp hbox ha hlk hk =>
 have hl0:=fun b=>qxz (L:=L) (b:=b) H p mid m hm binds hbl ob
 refine qaA (hL.summ 347 (by rw[h347];simp)) h347 ?_
 cases hq:(binds.any fun id=>decide (0<qdV id m)) with
 | true =>
   rw[hq] at hl0
   unfold fn347
   simp -implicitDefEqProofs only[ev_,aOp,opd,qaa,qbc,aUn,qaf,qag,qah,qan,qac,qae,qaj,↓reduceIte,reduceCtorEq,Nat.reduceEqDiff,hbox,hl0,hv,List.length_map]
 | false =>
   rw[hq] at hl0
   unfold fn347
   simp -implicitDefEqProofs only[ev_,aOp,opd,qaa,qbc,aUn,qaf,qag,qah,qan,qac,qae,qaj,↓reduceIte,reduceCtorEq,Nat.reduceEqDiff,hbox,hl0,hv,List.length_map]
end
theorem qs7 {L:Lib} {f:Nat} {t:CTree} {b:Bool} {x y:Int} (hc:∀ h:Heap,pcall L f [.int .i64 x,qaB t,.int .i64 y] h=some (.val (.bool b),h)) {H:Heap} {S:Nat→Prop} {p:Nat} (hw:WS H S t p) (hh:hgt t≤900):qhG (call L) f [.int .i64 x,.ptr (some (p,0)),.int .i64 y] H=some (.val (.bool b),H) :=
 qeK (by rw[List.map_cons,List.map_cons,List.map_cons,List.map_nil,hw.lookV hh,qmV rfl,qmV rfl];rfl) (by simp only[qas,qb8,qay];rfl) rfl (hc H)
theorem qy5 {H:Heap} {S:Nat→Prop} {t:CTree} {p:Nat} (h:WS H S t p):NW H S t p:=by
 cases h with
 | mk op n binds kids alts p ps ob ok avs oa hp hbox ha hl hk=>exact .mk op n binds kids alts p ps ob ok avs oa trivial hbox ha hl hk
theorem qlU {H:Heap} {S:Nat→Prop} {b:Nat} {o:Option CTree} {r:AVal} (h:qgv H S b o r):(o=none∧r=.ptr none)∨(o.isSome=true∧∃ q,r=.ptr (some (q,0))):=by
 unfold qgv at h
 cases o with
 | none=>exact .inl ⟨rfl,h⟩
 | some t=>obtain⟨q,h,_⟩:=h;exact .inr ⟨rfl,q,h⟩
section
variable {L:Lib} (hR:RLib L)
include hR
theorem qxX (h343:L.fns 343=some fn343) (h346:L.fns 346=some fn346) (h347:L.fns 347=some fn347) (rule:Int) (hr:rule∈ruleOrder) (t:CTree) (hg:TGood t) (H:Heap) (S:Nat→Prop) (hS:∀ i,S i→i<H.length) (p mid:Nat) (m:IM Int) (cnt:Int→Nat) (hcnt:∀ id,qdV id m=cnt id)
  (hw:WS H S t p) (hm:H[mid]? = some (.map (encB m))) :
  ∃ H',call L 343 [.int .i64 rule,.ptr (some (p,0)),.map (some mid)] H=some (.val (.bool (qxN rule cnt t)),H')∧H.length≤H'.length∧∀ i,i<H.length→H'[i]? = H[i]? := by
 have hL:=hR.plain
 obtain⟨op,n,binds,kids,alts⟩:=t
 have hsh:=hg.shape
 have hs:=hL.summ 343 (by rw[h343];simp)
 have hnw:=qy5 hw
 rw[qxN]
 by_cases h4:op=4
 ·subst h4
  rw[if_pos rfl]
  obtain⟨s1,s2,s3,s4⟩:=qfh hsh rfl
  obtain⟨id,rfl⟩:∃ id,binds=[id]:=by
   rcases binds with _ | ⟨a,_ | ⟨b,l⟩⟩
   ·simp at s2
   ·exact⟨a,rfl⟩
   ·simp at s2
  obtain⟨v,body,rfl⟩:∃ v body,kids=[v,body]:=by
   rcases kids with _ | ⟨a,_ | ⟨b,_ | ⟨c,l⟩⟩⟩
   ·simp at s1
   ·simp at s1
   ·exact⟨a,b,rfl⟩
   ·simp at s1
  have hv:=hg.kid (k:=v) List.mem_cons_self
  have hcl:=qs7 (qrd hL hR.f315 hR.f317 h346 rule (qdV id m) 4 n (by rw[hcnt];omega) [id] v body alts hv.fit hv.sh) hw (by have:=hg.deep;omega)
  have hlook:=qqr H mid id m hm
  have e1:(qdV id m).toNat=cnt id:=by rw[hcnt];omega
  rw[e1] at hcl
  have e2:([v,body].getD 0 .none)=v:=rfl
  have e3:([id].getD 0 0:Int)=id:=rfl
  rw[e2,e3]
  cases hw with
  | mk _ _ _ _ _ _ ps ob ok avs oa hp hbox ha hlk hk =>
  have hib:[id].map qaw=[.int .i64 id]:=rfl
  rw[hib] at hbox
  refine⟨H,qaA hs h343 ?_,Nat.le_refl _,fun _ _=>rfl⟩
  unfold fn343
  simp -implicitDefEqProofs only[ev_,aOp,opd,qaa,qau,qat,qad,qab,qag,qah,qan,qac,qae,qaj,↓reduceIte,reduceCtorEq,Nat.reduceEqDiff,Int.reduceToNat,Int.le_refl,hbox,hlook,hcl]
 rw[if_neg h4]
 have b4:(op==4)=false:=by simpa using h4
 cases hw with
 | mk _ _ _ _ _ _ ps ob ok avs oa hp hbox ha hlk hk =>
 by_cases h45:rule=4∧op=5
 ·obtain⟨rfl,rfl⟩:=h45
  rw[if_pos ⟨rfl,rfl⟩]
  have hrs:=qxA hL hR.f299 hR.f314 h347 n binds kids alts hg H S p mid m (.mk _ _ _ _ _ _ ps ob ok avs oa hp hbox ha hlk hk) hm
  have e1:(!(binds.any fun id=>decide (0<qdV id m)))=binds.all fun id=>cnt id==0:=by
   rw[List.not_any_eq_all_not]
   congr 1
   funext id
   rw[hcnt,Bool.eq_iff_iff]
   simp
  rw[e1] at hrs
  refine⟨H,qaA hs h343 ?_,Nat.le_refl _,fun _ _=>rfl⟩
  unfold fn343
  simp -implicitDefEqProofs only[ev_,aOp,opd,qaa,qau,qat,qab,qaf,qag,qah,qan,qac,qae,qaj,↓reduceIte,reduceCtorEq,Nat.reduceEqDiff,Int.reduceBEq,hbox,hrs]
 rw[if_neg h45]
 by_cases h68:rule=6∧op=8
 ·obtain⟨rfl,rfl⟩:=h68
  rw[if_pos ⟨rfl,rfl⟩]
  by_cases hk2:kids.length=2
  ·obtain⟨k0,k1,rfl⟩:∃ a b,kids=[a,b]:=by
    rcases kids with _ | ⟨a,_ | ⟨b,_ | ⟨c,l⟩⟩⟩
    ·simp at hk2
    ·simp at hk2
    ·exact⟨a,b,rfl⟩
    ·simp at hk2
   obtain⟨H',r,a1,a2,a3,a4⟩:=qoR hL hR.f318 hR.f301 8 n (qk6 hsh) binds k0 k1 alts H S p hnw
   have hpl:(((ps.map qaD).length:Nat):Int)=2:=by rw[List.length_map,hlk];rfl
   rcases qlU a2 with ⟨r1,r2⟩ | ⟨r1,q,r2⟩
   ·subst r2
    rw[r1]
    refine⟨H',qaA hs h343 ?_,a3,a4⟩
    unfold fn343
    simp -implicitDefEqProofs only[ev_,aOp,opd,qaa,qau,qbc,qat,aEq,qab,qaf,qag,qah,qan,qac,qae,qaj,↓reduceIte,reduceCtorEq,Nat.reduceEqDiff,Nat.reduceAdd,Int.reduceBEq,Option.isNone_none,hbox,a1,hpl,hlk]
    try rfl
   ·subst r2
    rw[r1]
    refine⟨H',qaA hs h343 ?_,a3,a4⟩
    unfold fn343
    simp -implicitDefEqProofs only[ev_,aOp,opd,qaa,qau,qbc,qat,aEq,qab,qaf,qag,qah,qan,qac,qae,qaj,↓reduceIte,reduceCtorEq,Nat.reduceEqDiff,Nat.reduceAdd,Int.reduceBEq,hbox,a1,hpl,hlk]
    try rfl
  ·have hpl:((((ps.map qaD).length:Nat):Int)==2)=false:=by rw[List.length_map,hlk];simp;omega
   have hkl:(kids.length==2)=false:=by simpa using hk2
   rw[List.length_map] at hpl
   rw[hkl]
   refine⟨H,qaA hs h343 ?_,Nat.le_refl _,fun _ _=>rfl⟩
   unfold fn343
   simp -implicitDefEqProofs only[ev_,aOp,opd,qaa,qau,qbc,qat,qab,qaf,qag,qah,qan,qac,qae,qaj,↓reduceIte,reduceCtorEq,Nat.reduceEqDiff,Int.reduceBEq,hbox,hpl]
 rw[if_neg h68]
 by_cases h70:rule=7∧op=10
 ·obtain⟨rfl,rfl⟩:=h70
  rw[if_pos ⟨rfl,rfl⟩]
  obtain⟨k0,rfl⟩:∃ a,kids=[a]:=by
   have:=qjP hsh
   rcases kids with _ | ⟨a,_ | ⟨b,l⟩⟩
   ·simp at this
   ·exact⟨a,rfl⟩
   ·simp at this
  have hg0:=hg.kid (k:=k0) List.mem_cons_self
  obtain⟨r,a1,a2⟩:=qpa hL hR.f315 hR.f317 hR.f302 10 n binds k0 alts hg0.fit hg0.sh (by have:=hg0.deep;omega) H S hS p hnw
  rcases qlU a2 with ⟨r1,r2⟩ | ⟨r1,q,r2⟩
  ·subst r2
   rw[r1]
   refine⟨H,qaA hs h343 ?_,Nat.le_refl _,fun _ _=>rfl⟩
   unfold fn343
   simp -implicitDefEqProofs only[ev_,aOp,opd,qaa,qau,qat,aEq,qab,qaf,qag,qah,qan,qac,qae,qaj,↓reduceIte,reduceCtorEq,Nat.reduceEqDiff,Int.reduceBEq,Option.isNone_none,hbox,a1]
   try rfl
  ·subst r2
   rw[r1]
   refine⟨H,qaA hs h343 ?_,Nat.le_refl _,fun _ _=>rfl⟩
   unfold fn343
   simp -implicitDefEqProofs only[ev_,aOp,opd,qaa,qau,qat,aEq,qab,qaf,qag,qah,qan,qac,qae,qaj,↓reduceIte,reduceCtorEq,Nat.reduceEqDiff,Int.reduceBEq,hbox,a1]
   try rfl
 rw[if_neg h70]
 have hkid0:∀ {c:CTree} {r:List CTree},kids=c::r→∃ p0 ps' bo bn bb bk ba ao,ps=p0::ps'∧H[p0]? = some (.box [.int .i64 (qc9 c),.int .i64 bn,.list ((qhL c).map qaw) bb,bk,.list ba ao])∧bo=qc9 c:=by
  intro c r hkr
  subst hkr
  cases ps with
  | nil=>simp at hlk
  | cons p0 ps' =>
    have h0:=hk 0 (by simp)
    simp only[List.getElem_cons_zero] at h0
    cases h0 with
    | mk op1 n1 b1 k1 a1 _ ps1 ob1 ok1 avs1 oa1 hp1 hbox1 ha1 hl1 hk1 =>
      exact⟨p0,ps',_,_,_,_,_,_,rfl,hbox1,rfl⟩
 by_cases h57:rule=5∧op=7
 ·obtain⟨rfl,rfl⟩:=h57
  rw[if_pos ⟨rfl,rfl⟩]
  have hkl:=(qdt hsh).1 (.inl rfl)
  obtain⟨c,bodies,rfl⟩:∃ c bodies,kids=c::bodies:=by
   rcases kids with _ | ⟨a,l⟩
   ·simp at hkl
   ·exact⟨a,l,rfl⟩
  obtain⟨p0,ps',bo,bn,bb,bk,ba,ao,rfl,hb0,_⟩:=hkid0 rfl
  have hgc:=hg.kid (k:=c) List.mem_cons_self
  have hal:alts.length<2 ^ 30∧∀ a∈alts,a.binds.length<2 ^ 30:=by
   cases hg.fit with
   | mk _ _ _ _ _ q1 q2 q3 _ =>
     exact⟨q3,fun a ha=>by
      have h1:=(List.sublist_flatten_of_mem (List.mem_map_of_mem (f:=fun a:CAlt=>a.binds) ha)).length_le
      rw[List.length_append,List.flatMap_def] at q1
      omega⟩
  obtain⟨H',r,a1,a2,a3,a4⟩:=qmq hL hR.f313 hR.f297 hR.f315 hR.f317 hR.f300 7 n binds c bodies alts hgc.fit hgc.sh (by have:=hgc.deep;omega) hal.1 hal.2 (by simpa using hkl) H S hS p hnw
  have e0:(c::bodies).getD 0 .none=c:=rfl
  rw[e0]
  cases h6:qc9 c==6 with
  | false =>
    refine⟨H,qaA hs h343 ?_,Nat.le_refl _,fun _ _=>rfl⟩
    unfold qaD at hbox
    unfold fn343
    simp -implicitDefEqProofs only[ev_,aOp,opd,qaa,qau,qat,qad,qab,qaf,qag,qah,qan,qac,qae,qaj,↓reduceIte,reduceCtorEq,Nat.reduceEqDiff,Int.reduceToNat,Int.reduceBEq,Int.le_refl,hbox,hb0,h6]
  | true =>
    rcases qlU a2 with ⟨r1,r2⟩ | ⟨r1,q,r2⟩
    ·subst r2
     rw[r1]
     refine⟨H',qaA hs h343 ?_,a3,a4⟩
     unfold qaD at hbox
     unfold fn343
     simp -implicitDefEqProofs only[ev_,aOp,opd,qaa,qau,qat,aEq,qad,qab,qaf,qag,qah,qan,qac,qae,qaj,↓reduceIte,reduceCtorEq,Nat.reduceEqDiff,Int.reduceToNat,Int.reduceBEq,Option.isNone_none,Int.le_refl,hbox,hb0,h6,a1]
     try rfl
    ·subst r2
     rw[r1]
     refine⟨H',qaA hs h343 ?_,a3,a4⟩
     unfold qaD at hbox
     unfold fn343
     simp -implicitDefEqProofs only[ev_,aOp,opd,qaa,qau,qat,aEq,qad,qab,qaf,qag,qah,qan,qac,qae,qaj,↓reduceIte,reduceCtorEq,Nat.reduceEqDiff,Int.reduceToNat,Int.reduceBEq,Int.le_refl,hbox,hb0,h6,a1]
     try rfl
 rw[if_neg h57]
 by_cases h13:rule=1∧op=3
 ·obtain⟨rfl,rfl⟩:=h13
  rw[if_pos ⟨rfl,rfl⟩]
  have hkl:=(qef hsh).2.1 (.inr (.inl rfl))
  obtain⟨c,bodies,rfl⟩:∃ c bodies,kids=c::bodies:=by
   rcases kids with _ | ⟨a,l⟩
   ·simp at hkl
   ·exact⟨a,l,rfl⟩
  obtain⟨p0,ps',bo,bn,bb,bk,ba,ao,rfl,hb0,_⟩:=hkid0 rfl
  have e0:(c::bodies).getD 0 .none=c:=rfl
  rw[e0]
  have hz:=hg.size
  rw[qaM] at hz
  have hz2:=qeg (c::bodies)
  have hl2:ps'.length=bodies.length:=by simpa using hlk
  have hb2:bodies.length≤4096:=by simp at hz2;omega
  have w:IntKind.i64.wrap (((bodies.length:Nat):Int)+1-1)=(bodies.length:Int):=by rw[qbN (by omega) (by omega)];omega
  have e1:((c::bodies).length-1)=bodies.length:=rfl
  have e2:(((qhL c).length:Int)==(bodies.length:Int))=((qhL c).length==bodies.length):=by
   rw[Bool.eq_iff_iff];simp only[beq_iff_eq];omega
  rw[e1]
  cases h2:qc9 c==2 with
  | false =>
    refine⟨H,qaA hs h343 ?_,Nat.le_refl _,fun _ _=>rfl⟩
    unfold qaD at hbox
    unfold fn343
    simp -implicitDefEqProofs only[ev_,aOp,opd,qaa,qau,qat,qad,qab,qaf,qag,qah,qan,qac,qae,qaj,qaC,↓reduceIte,reduceCtorEq,Nat.reduceEqDiff,Int.reduceToNat,Int.reduceBEq,Int.le_refl,hbox,hb0,h2]
  | true =>
    refine⟨H,qaA hs h343 ?_,Nat.le_refl _,fun _ _=>rfl⟩
    unfold qaD at hbox
    unfold fn343
    simp -implicitDefEqProofs only[ev_,aOp,opd,qaa,qau,qbc,qat,qad,qab,qaf,qag,qah,qan,qac,qae,qaj,qaC,↓reduceIte,reduceCtorEq,Nat.reduceEqDiff,Int.reduceToNat,Int.reduceBEq,Int.le_refl,hbox,hb0,h2,hl2,Int.natCast_add,Int.natCast_succ,Int.cast_ofNat_Int,w,e2]
 rw[if_neg h13]
 unfold ruleOrder at hr
 simp only[List.mem_cons,List.not_mem_nil,or_false] at hr
 rcases hr with rfl | rfl | rfl | rfl | rfl | rfl | rfl | rfl | rfl | rfl
 ·refine⟨H,qaA hs h343 ?_,Nat.le_refl _,fun _ _=>rfl⟩
  unfold fn343
  simp -implicitDefEqProofs only[ev_,aOp,opd,qaa,qau,qat,qab,qaf,qag,qah,qan,qac,qae,qaj,↓reduceIte,reduceCtorEq,Nat.reduceEqDiff,Int.reduceBEq,hbox,b4]
 ·have bb:(op==5)=false:=by simpa using h45
  refine⟨H,qaA hs h343 ?_,Nat.le_refl _,fun _ _=>rfl⟩
  unfold fn343
  simp -implicitDefEqProofs only[ev_,aOp,opd,qaa,qau,qat,qab,qaf,qag,qah,qan,qac,qae,qaj,↓reduceIte,reduceCtorEq,Nat.reduceEqDiff,Int.reduceBEq,hbox,b4,bb]
 ·have bb:(op==8)=false:=by simpa using h68
  refine⟨H,qaA hs h343 ?_,Nat.le_refl _,fun _ _=>rfl⟩
  unfold fn343
  simp -implicitDefEqProofs only[ev_,aOp,opd,qaa,qau,qat,qab,qaf,qag,qah,qan,qac,qae,qaj,↓reduceIte,reduceCtorEq,Nat.reduceEqDiff,Int.reduceBEq,hbox,b4,bb]
 ·have bb:(op==10)=false:=by simpa using h70
  refine⟨H,qaA hs h343 ?_,Nat.le_refl _,fun _ _=>rfl⟩
  unfold fn343
  simp -implicitDefEqProofs only[ev_,aOp,opd,qaa,qau,qat,qab,qaf,qag,qah,qan,qac,qae,qaj,↓reduceIte,reduceCtorEq,Nat.reduceEqDiff,Int.reduceBEq,hbox,b4,bb]
 ·have bb:(op==7)=false:=by simpa using h57
  refine⟨H,qaA hs h343 ?_,Nat.le_refl _,fun _ _=>rfl⟩
  unfold fn343
  simp -implicitDefEqProofs only[ev_,aOp,opd,qaa,qau,qat,qab,qaf,qag,qah,qan,qac,qae,qaj,↓reduceIte,reduceCtorEq,Nat.reduceEqDiff,Int.reduceBEq,hbox,b4,bb]
 ·have bb:(op==3)=false:=by simpa using h13
  refine⟨H,qaA hs h343 ?_,Nat.le_refl _,fun _ _=>rfl⟩
  unfold fn343
  simp -implicitDefEqProofs only[ev_,aOp,opd,qaa,qau,qat,qab,qaf,qag,qah,qan,qac,qae,qaj,↓reduceIte,reduceCtorEq,Nat.reduceEqDiff,Int.reduceBEq,hbox,b4,bb]
 ·refine⟨H,qaA hs h343 ?_,Nat.le_refl _,fun _ _=>rfl⟩
  unfold fn343
  simp -implicitDefEqProofs only[ev_,aOp,opd,qaa,qau,qat,qab,qaf,qag,qah,qan,qac,qae,qaj,↓reduceIte,reduceCtorEq,Nat.reduceEqDiff,Int.reduceBEq,hbox,b4]
 ·refine⟨H,qaA hs h343 ?_,Nat.le_refl _,fun _ _=>rfl⟩
  unfold fn343
  simp -implicitDefEqProofs only[ev_,aOp,opd,qaa,qau,qat,qab,qaf,qag,qah,qan,qac,qae,qaj,↓reduceIte,reduceCtorEq,Nat.reduceEqDiff,Int.reduceBEq,hbox,b4]
 ·refine⟨H,qaA hs h343 ?_,Nat.le_refl _,fun _ _=>rfl⟩
  unfold fn343
  simp -implicitDefEqProofs only[ev_,aOp,opd,qaa,qau,qat,qab,qaf,qag,qah,qan,qac,qae,qaj,↓reduceIte,reduceCtorEq,Nat.reduceEqDiff,Int.reduceBEq,hbox,b4]
 ·refine⟨H,qaA hs h343 ?_,Nat.le_refl _,fun _ _=>rfl⟩
  unfold fn343
  simp -implicitDefEqProofs only[ev_,aOp,opd,qaa,qau,qat,qab,qaf,qag,qah,qan,qac,qae,qaj,↓reduceIte,reduceCtorEq,Nat.reduceEqDiff,Int.reduceBEq,hbox,b4]
end
end Go.Abs
