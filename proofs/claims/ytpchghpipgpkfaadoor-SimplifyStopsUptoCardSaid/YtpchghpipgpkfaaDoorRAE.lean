/-
  PARTS OF A PROOF, joined: an abstract machine for quiet code, its evaluation, and what the seat's functions answer on it. Conditions: none.
-/
import Derived.Test.YtpchghpipgpkfaaDoorRAA
import Derived.Test.YtpchghpipgpkfaaDoorD
set_option linter.unusedVariables false
set_option linter.unusedSimpArgs false
set_option maxRecDepth 100000
set_option maxHeartbeats 8000000
namespace Go.Abs
def qcT (s:Int × Nat):AVal:=.agg [.int .i64 s.1,.int .i64 s.2,.int .i64 0]
theorem qd5 (l:List (Int × Nat)):qas (l.map qcT)=true:=qdG qcT (fun _=>rfl) l
theorem qq8 (l:List (Int × Nat)):((l.map qcT).all fun v=>decide ((acells v).length=3))=true:=by
 rw[List.all_eq_true]
 intro v hv
 obtain⟨q,_,rfl⟩:=List.mem_map.1 hv
 rfl
def qkl (e:List CExpr):AVal :=
 match qhD e with
 | some s=>.tuple [qcT s,.bool true,.int .i64 0]
 | none=>.tuple [.agg [.int .i64 0,.int .i64 0,.int .i64 0],.bool false,.int .i64 0]
def rs (bud:Int) (e:List CExpr) (l:List (Int × Nat)):St:=⟨kt [1,8,9] [.int .i64 bud,.list (e.map qam) none,.list (l.map qcT) (qcC 0 l.length)],qby 3 l.length⟩
def rt (e:List CExpr) (l:List (Int × Nat)):St:=⟨kt [8,9] [.list (e.map qam) none,.list (l.map qcT) (qcC 0 l.length)],qby 3 l.length⟩
section
variable {L:Lib} (hR:RLib L)
include hR
theorem qvG (hnext:∀ (e:List CExpr) (h:Heap),Norm e→pcall L 334 [.list (e.map qam) none] h=some (.val (qkl e),h)):∀ (k:Nat) (e:List CExpr) (l:List (Int × Nat)),Norm e→l.length+k<2 ^ 30 →
  qa4 L.pure (call L) 0 [1,8,9] [8,9] 0 qc4 (rs ((l.length+k:Nat):Int) e l)=some (.normal,rt (qhJ k e).1 (l++(qhJ k e).2))
 | 0,e,l,hN,hb => by
   have hp:=hR.plain.pure
   have hdE:=qaL e
   have hdL:=qd5 l
   refine qcA ?_
   rw[qhJ,List.append_nil,Nat.add_zero]
   have hlt:((l.length:Int)<l.length)=False:=by simp
   unfold rs rt
   by_cases hz:l=[]
   ·subst hz
    unfold qc4
    simp -implicitDefEqProofs only[ev_,aOp,opd,qaa,qaw,qbe,qat,qab,gcE,qax,ren,renC,qa8,qbj,↓reduceIte,Nat.reduceEqDiff,Int.reduceLT,qcC,qby,hdE,hlt]
   ·obtain⟨q,hq⟩:∃ q,l.length=q+1:=⟨l.length-1,by have:=List.length_pos_iff.2 hz;omega⟩
    have h1:qcC 0 l.length=some (some 0):=by rw[hq];rfl
    have h2:qby 3 l.length=[.tail l.length 3]:=by rw[hq];rfl
    rw[h1,h2]
    unfold qc4
    simp -implicitDefEqProofs only[ev_,aOp,opd,qaa,qaw,qbe,qat,qab,gcE,qax,ren,renC,qa8,qbj,↓reduceIte,Nat.reduceEqDiff,Nat.reduceLT,hdE,hdL,hlt]
 | k + 1,e,l,hN,hb => by
   have hL:=hR.plain
   have hp:=hL.pure
   have hdE:=qaL e
   have hdL:=qd5 l
   have hlt:((l.length:Int)<((l.length+(k+1):Nat):Int))=True:=by simp;omega
   have hnx:=fun h=>hnext e h hN
   have hel:e.length<2 ^ 30:=by have:=(qbo hN.ok).2.1;omega
   rw[qhJ]
   cases hs:qhD e with
   | none =>
     dsimp only
     unfold qkl at hnx
     rw[hs] at hnx
     dsimp only at hnx
     refine qcA ?_
     rw[List.append_nil]
     unfold rs rt
     generalize ((l.length+(k+1):Nat):Int)=bud at *
     by_cases hz:l=[]
     ·subst hz
      simp only[List.length_nil,Int.natCast_zero] at hlt
      unfold qc4
      simp -implicitDefEqProofs only[ev_,aOp,opd,qaa,qaq,qaw,qbe,qat,aUn,qab,qaI,leaf,qap,gcE,qax,ren,renC,qa8,qbj,↓reduceIte,reduceCtorEq,Nat.reduceEqDiff,Nat.reduceAdd,qar,qcC,qby,hdE,hlt,hnx,qal L hp,hp,Int.natCast_zero]
     ·obtain⟨q,hq⟩:∃ q,l.length=q+1:=⟨l.length-1,by have:=List.length_pos_iff.2 hz;omega⟩
      have h1:qcC 0 l.length=some (some 0):=by rw[hq];rfl
      have h2:qby 3 l.length=[.tail l.length 3]:=by rw[hq];rfl
      rw[h1,h2]
      unfold qc4
      simp -implicitDefEqProofs only[ev_,aOp,opd,qaa,qaq,qaw,qbe,qat,aUn,qab,qaI,leaf,qap,gcE,qax,ren,renC,qa8,qbj,↓reduceIte,reduceCtorEq,Nat.reduceEqDiff,Nat.reduceAdd,Nat.reduceLT,qar,hdE,hdL,hlt,hnx,qal L hp,hp]
   | some s =>
     obtain⟨r,i⟩:=s
     dsimp only
     unfold qkl at hnx
     rw[hs] at hnx
     dsimp only[qcT] at hnx
     obtain⟨s1,s2,s3⟩:=qfZ hs
     have ho:=qgx s1
     have hap:=fun h=>qoS hR e hel hN.fit r i 0 ⟨ho.2.2.1,ho.2.2.2⟩ h
     have hdF:=qaL (qbv e r i 0).1
     by_cases hc:(qbv e r i 0).2=0
     ·rw[if_pos hc]
      have hnorm:=qhE hN s2 hc
      rw[hc] at hap
      have ih:=qvG hnext k (qbv e r i 0).1 (l++[(r,i)]) hnorm (by simp;omega)
      have hbe:(((l++[(r,i)]).length+k:Nat):Int)=((l.length+(k+1):Nat):Int):=by simp;omega
      rw[hbe] at ih
      dsimp only
      rw[List.append_assoc] at ih
      refine (qdw ?_).trans ih
      unfold rs
      generalize ((l.length+(k+1):Nat):Int)=bud at *
      generalize (qbv e r i 0).1=F at *
      have hall:=qq8 l
      have hlen:l.length+1≤1073741824:=by omega
      rw[List.map_append,List.length_append]
      by_cases hz:l=[]
      ·subst hz
       simp only[List.length_nil,Int.natCast_zero] at hlt
       unfold qc4
       simp -implicitDefEqProofs only[ev_,aOp,opd,qaa,qaq,qaw,qbe,qat,aUn,qab,qaI,qaK,leaf,qap,qax,ren,renC,qa8,qbj,qbn,↓reduceIte,Nat.reduceEqDiff,Nat.reduceAdd,Nat.reduceLT,Nat.reduceLeDiff,Int.reduceBNe,qar,qcC,qby,qcT,hdE,hdF,hlt,hnx,hap,qal L hp,hp,Int.natCast_zero]
      ·obtain⟨q,hq⟩:∃ q,l.length=q+1:=⟨l.length-1,by have:=List.length_pos_iff.2 hz;omega⟩
       have h1:qcC 0 l.length=some (some 0):=by rw[hq];rfl
       have h2:qby 3 l.length=[.tail l.length 3]:=by rw[hq];rfl
       have h3:qcC 0 (l.length+[(r,i)].length)=some (some 0):=by rw[hq];rfl
       have h4:qby 3 (l.length+[(r,i)].length)=[.tail (l.length+1) 3]:=by rw[hq];rfl
       rw[h1,h2,h3,h4]
       unfold qc4
       simp -implicitDefEqProofs only[ev_,aOp,opd,qaa,qaq,qaw,qbe,qat,aUn,qab,qaI,qaK,leaf,qap,qax,ren,renC,qa8,qbj,qbn,↓reduceIte,Nat.reduceEqDiff,Nat.reduceAdd,Nat.reduceLT,Int.reduceBNe,qar,qcT,hdE,hdF,hdL,hall,hlen,hlt,hnx,hap,qal L hp,hp]
     ·rw[if_neg hc]
      have hcb:((qbv e r i 0).2==0)=false:=by simpa using hc
      refine qcA ?_
      rw[List.append_nil]
      unfold rs rt
      generalize ((l.length+(k+1):Nat):Int)=bud at *
      generalize (qbv e r i 0).1=F at *
      generalize (qbv e r i 0).2=g at *
      by_cases hz:l=[]
      ·subst hz
       simp only[List.length_nil,Int.natCast_zero] at hlt
       unfold qc4
       simp -implicitDefEqProofs only[ev_,aOp,opd,qaa,qaq,qaw,qbe,qat,aUn,qab,qaI,qaK,leaf,qap,gcE,qax,ren,renC,qa8,qbj,↓reduceIte,reduceCtorEq,Nat.reduceEqDiff,Nat.reduceAdd,qar,qcC,qby,hdE,hdF,hlt,hnx,hap,hcb,bne,qal L hp,hp,Int.natCast_zero]
      ·obtain⟨q,hq⟩:∃ q,l.length=q+1:=⟨l.length-1,by have:=List.length_pos_iff.2 hz;omega⟩
       have h1:qcC 0 l.length=some (some 0):=by rw[hq];rfl
       have h2:qby 3 l.length=[.tail l.length 3]:=by rw[hq];rfl
       rw[h1,h2]
       unfold qc4
       simp -implicitDefEqProofs only[ev_,aOp,opd,qaa,qaq,qaw,qbe,qat,aUn,qab,qaI,qaK,leaf,qap,gcE,qax,ren,renC,qa8,qbj,↓reduceIte,reduceCtorEq,Nat.reduceEqDiff,Nat.reduceAdd,Nat.reduceLT,qar,hdE,hdF,hdL,hlt,hnx,hap,hcb,bne,qal L hp,hp]
def qvF (e:List CExpr) (bud:Int):AVal :=
 if qaN e=0 then (if bud<0∨500<bud then .tuple [.list [] none,.list [] none,.int .i64 4]
  else .tuple [.list ((qhJ bud.toNat (qa3 (qbl e))).1.map qam) none,.list ((qhJ bud.toNat (qa3 (qbl e))).2.map qcT) none,.int .i64 0])
 else .tuple [.list [] none,.list [] none,.int .i64 (qaN e)]
theorem qqL (hnext:∀ (e:List CExpr) (h:Heap),Norm e→pcall L 334 [.list (e.map qam) none] h=some (.val (qkl e),h)) (h332:L.fns 332=some fn332) (e:List CExpr) (hl:e.length<2 ^ 30) (hf:∀ x∈e,NodeFit x) (bud:Int) (h:Heap) :
  pcall L 332 [.list (e.map qam) none,.int .i64 bud] h=some (.val (qvF e bud),h):=by
 have hL:=hR.plain
 have hp:=hL.pure
 have hdE:=qaL e
 have hck:=qiv hR.toCLib e hl hf
 have hdv:qay (qvF e bud)=true:=by
  unfold qvF
  split
  ·split
   ·rfl
   ·simp only[qh9,qh7,qjx,qa0,qaL,qd5,qkR,Bool.and_true]
  ·rfl
 refine qa5 hL h332 hdv ?_ h
 unfold qvF
 by_cases hz:qaN e=0
 case neg =>
  have hne:(qaN e==0)=false:=by simpa using hz
  rw[if_neg hz]
  generalize qaN e=r at *
  unfold fn332
  simp -implicitDefEqProofs only[ev_,aOp,opd,qaa,qaw,qat,qab,qan,qac,qae,qai,↓reduceIte,reduceCtorEq,Nat.reduceEqDiff,qar,qak,hck,hne,hdE,bne,qal L hp,hp]
 rw[if_pos hz]
 rw[hz] at hck
 by_cases hneg:bud<0
 ·rw[if_pos (.inl hneg)]
  have b1:(bud<0)=True:=by simpa using hneg
  unfold fn332
  simp -implicitDefEqProofs only[ev_,aOp,opd,qaa,qaw,qat,qab,qaf,qan,qac,qae,qai,↓reduceIte,reduceCtorEq,Nat.reduceEqDiff,qar,qak,hck,b1,hdE,bne,qal L hp,hp]
 by_cases hbig:500<bud
 ·rw[if_pos (.inr hbig)]
  have b1:(bud<0)=False:=by simpa using hneg
  have b2:(500<bud)=True:=by simpa using hbig
  unfold fn332
  simp -implicitDefEqProofs only[ev_,aOp,opd,qaa,qaw,qat,qab,qaf,qan,qac,qae,qai,↓reduceIte,reduceCtorEq,Nat.reduceEqDiff,gt_iff_lt,qar,qak,hck,b1,b2,hdE,bne,qal L hp,hp]
 rw[if_neg (by omega)]
 have b1:(bud<0)=False:=by simpa using hneg
 have b2:(500<bud)=False:=by simpa using hbig
 obtain⟨hT,hn4,hh,hlab,_⟩:=qbo hz
 obtain⟨hft,hsz⟩:=qi9 hz hf
 have hgr:=fun h=>hR.grow e h hl hf hT (by omega)
 have hli:=hR.list (qbl e) hft (by omega)
 obtain⟨tc,htc,hdt⟩:=qce (qbl e)
 rw[htc] at hgr hli
 have hl0:=qvG hR hnext bud.toNat (qa3 (qbl e)) [] (qjH hz hf) (by simp;omega)
 have hbe:((([]:List (Int × Nat)).length+bud.toNat:Nat):Int)=bud:=by simp;omega
 rw[hbe,List.nil_append] at hl0
 have hdG:=qaL (qa3 (qbl e))
 have hdF:=qaL (qhJ bud.toNat (qa3 (qbl e))).1
 have hdL:=qd5 (qhJ bud.toNat (qa3 (qbl e))).2
 unfold rs rt at hl0
 generalize (qhJ bud.toNat (qa3 (qbl e))).1=F at *
 generalize (qhJ bud.toNat (qa3 (qbl e))).2=l at *
 generalize qa3 (qbl e)=G at *
 by_cases hq0:l=[]
 ·subst hq0
  simp only[List.length_nil,List.map_nil,qcC,qby] at hl0
  unfold fn332
  simp -implicitDefEqProofs only[ev_,aOp,opd,qaa,qaw,qat,qab,qaf,qan,qac,qae,qai,qax,ren,renC,qa8,qbj,↓reduceIte,reduceCtorEq,Nat.reduceEqDiff,gt_iff_lt,qar,qak,hck,b1,b2,hgr,hli,hl0,hdE,hdF,hdG,hdt,bne,qf2,qal L hp,hp]
 ·obtain⟨q,hq⟩:∃ q,l.length=q+1:=⟨l.length-1,by have:=List.length_pos_iff.2 hq0;omega⟩
  have h1:qcC 0 l.length=some (some 0):=by rw[hq];rfl
  have h2:qby 3 l.length=[.tail l.length 3]:=by rw[hq];rfl
  rw[h1,h2] at hl0
  simp only[List.length_nil,List.map_nil,qcC,qby] at hl0
  unfold fn332
  simp -implicitDefEqProofs only[ev_,aOp,opd,qaa,qaw,qat,qab,qaf,qan,qac,qae,qai,qax,ren,renC,qa8,qbj,↓reduceIte,reduceCtorEq,Nat.reduceEqDiff,gt_iff_lt,qar,qak,hck,b1,b2,hgr,hli,hl0,hdE,hdF,hdG,hdL,hdt,bne,qf2,qal L hp,hp]
end
section
end
theorem qjm {α β:Type} {f:α→Option β}:∀ {l:List α} {j:Nat} (hj:j<l.length) (hn:∀ k (hk:k<l.length),k<j→f l[k]=none) {b:β} (hb:f l[j]=some b),l.findSome? f=some b
 | x :: l,0,_,_,b,hb => by
   have hb:f x=some b:=hb
   rw[List.findSome?_cons,hb]
 | x :: l,j + 1,hj,hn,b,hb => by
   have h0:f x=none:=hn 0 (by simp) (by omega)
   rw[List.findSome?_cons,h0]
   exact qjm (j:=j) (by simpa using hj) (fun k hk hkj=>hn (k+1) (by simpa using hk) (by omega)) hb
theorem qjn {α β:Type} {f:α→Option β}:∀ {l:List α} (hn:∀ k (hk:k<l.length),f l[k]=none),l.findSome? f=none
 | [],_=>rfl
 | x :: l,hn => by
   have h0:f x=none:=hn 0 (by simp)
   rw[List.findSome?_cons,h0]
   exact qjn fun k hk=>hn (k+1) (by simpa using hk)
def Ext (H H':Heap):Prop:=H.length≤H'.length∧∀ i,i<H.length→H'[i]? = H[i]?
theorem Ext.refl (H:Heap):Ext H H:=⟨Nat.le_refl _,fun _ _=>rfl⟩
theorem Ext.trans {A B C:Heap} (h:Ext A B) (k:Ext B C):Ext A C:=⟨Nat.le_trans h.1 k.1,fun i hi=>by rw[k.2 i (by have:=h.1;omega),h.2 i hi]⟩
def orderA:List AVal:=ruleOrder.map fun r=>.int .i64 r
theorem quU:([.int .i64 3,.int .i64 4,.int .i64 6,.int .i64 7,.int .i64 5,.int .i64 1,.int .i64 2,.int .i64 11,.int .i64 8,.int .i64 9]:List AVal)=orderA:=rfl
theorem qk5:orderA.length=10:=rfl
theorem qjK:orderA.take 10=orderA:=rfl
theorem qsz:ruleOrder.length=10:=rfl
section
variable {L:Lib} (hR:RLib L)
include hR
theorem qxB (h343:L.fns 343=some fn343) (h346:L.fns 346=some fn346) (h347:L.fns 347=some fn347) {b:Nat} (e:List CExpr) (hz:qaN e=0) (hf:∀ x∈e,NodeFit x) (r:Int) (hr:r∈ruleOrder) (H1:Heap) (ps:List Nat) (ow:Option (Option Nat)) (mid:Nat) (x0:List AVal)
  (hm:H1[mid]? = some (.map (encB (qlR e)))) (hps:ps.length=e.length) (hws:∀ k,k<e.length→WS H1 (fun i=>i<H1.length) (qbb e k) (ps.getD k 0)) (h0:H1[0]? = some (.box [.int .i64 0,.int .i64 0,.int .i64 0])) (j:Nat) (H':Heap) (hx:Ext H1 H') :
  (∃ T,qa4 L.pure (call L) b [1000000,2,6,7,9,22,23,29,30,31] [1000000,2,3,4,6,7,22,23] 2 qdR
    ⟨kt [2,6,7,9,22,23,29,30,31] [.ptr (some (0,0)),.ptr (some (1,0)),.map (some mid),.int .i64 r,.agg orderA,.int .i64 (j:Int),.list (ps.map qaB) ow,.int .i64 (ps.length:Nat),.int .i64 0],H'⟩=some (.normal,T) ∧
    (∃ H2,T=⟨kt [2,3,4,6,7,22,23] [.ptr (some (0,0)),.junk,.junk,.ptr (some (1,0)),.map (some mid),.agg orderA,.int .i64 (j:Int)],H2⟩∧Ext H1 H2∧qdE e r=none)) ∨
  (∃ T,qa4 L.pure (call L) b [1000000,2,6,7,9,22,23,29,30,31] [1000000,2,3,4,6,7,22,23] 2 qdR
    ⟨kt [2,6,7,9,22,23,29,30,31] [.ptr (some (0,0)),.ptr (some (1,0)),.map (some mid),.int .i64 r,.agg orderA,.int .i64 (j:Int),.list (ps.map qaB) ow,.int .i64 (ps.length:Nat),.int .i64 0],H'⟩=some (.ret,T) ∧
    (∃ H2 i,T=⟨kt [2,3,4,6,7,22,23] [.ptr (some (0,0)),.bool true,.int .i64 0,.ptr (some (1,0)),.map (some mid),.agg orderA,.int .i64 (j:Int)],H2⟩∧H2[0]? = some (.box [.int .i64 r,.int .i64 (i:Nat),.int .i64 0])∧qdE e r=some i)):=by
 have hel:e.length<2 ^ 30:=by have:=(qbo hz).2.1;omega
 refine qgv (pure:=L.pure) (call:=call L) (b:=b) (id:=2) (body:=qdR)
  (fun i s=>∃ H2,s=⟨kt [2,6,7,9,22,23,29,30,31] [.ptr (some (0,0)),.ptr (some (1,0)),.map (some mid),.int .i64 r,.agg orderA,.int .i64 (j:Int),.list (ps.map qaB) ow,.int .i64 (ps.length:Nat),.int .i64 (i:Nat)],H2⟩∧Ext H1 H2∧∀ k,k<i→qvs r (qo7 e) (qbb e k)=false) ps.length _ _ ?_ ?_ ?_
 ·intro i s hi hs
  obtain⟨H2,rfl,hE,hno⟩:=hs
  obtain⟨h1,h2,h3⟩:=qaO qaB ps (by omega) i hi
  have hgi:ps.getD i 0=ps[i]:=by rw[List.getD_eq_getElem?_getD,List.getElem?_eq_getElem (by omega)];rfl
  have hw:=(hws i (by omega)).frame' hE.2
  obtain⟨H3,c1,c2,c3⟩:=qyd hR h343 h346 h347 r hr (qbb e i) (qlE hz hf i (by omega)) H2 (fun i=>i<H2.length) (fun i h=>h) (ps.getD i 0) mid (qlR e) (qo7 e) (qpB e) (hw.mono fun i hi=>by have:=hE.1;omega) (by rw[hE.2 mid (hlt hm)];exact hm)
  rw[hgi] at c1
  have hE3:Ext H1 H3:=hE.trans ⟨c2,c3⟩
  have hb0:H3[0]? = some (.box [.int .i64 0,.int .i64 0,.int .i64 0]):=by rw[hE3.2 0 (hlt h0)];exact h0
  generalize ps[i]=p at *
  unfold qaB at h3
  obtain⟨q,hr0⟩:∃ q,qa1 L.pure (call L) b [1000000,2,6,7,9,22,23,29,30,31] [1000000,2,3,4,6,7,22,23] qdR
   ⟨kt [2,6,7,9,22,23,29,30,31] [.ptr (some (0,0)),.ptr (some (1,0)),.map (some mid),.int .i64 r,.agg orderA,.int .i64 (j:Int),.list (ps.map qaB) ow,.int .i64 (ps.length:Nat),.int .i64 (i:Nat)],H2⟩=q:=⟨_,rfl⟩
  have hr:=hr0
  unfold qaB at hr
  cases hc:qvs r (qo7 e) (qbb e i) with
  | false =>
    rw[hc] at c1
    unfold qdR at hr
    simp -implicitDefEqProofs only[ev_,aOp,opd,qaa,qaw,qat,qad,qab,qag,↓reduceIte,Nat.reduceEqDiff,h1,h2,h3,c1] at hr
    subst hr
    refine .inl ⟨_,hr0,H3,rfl,hE3,fun k hk=>?_⟩
    by_cases hki:k=i
    ·rw[hki];exact hc
    ·exact hno k (by omega)
  | true =>
    rw[hc] at c1
    unfold qdR at hr
    simp -implicitDefEqProofs only[ev_,aOp,opd,qaa,qaq,qaw,qat,qad,qab,qag,qaI,qbP,qcf,leaf,qap,gcE,↓reduceIte,Nat.reduceEqDiff,Nat.reduceAdd,Nat.reduceLeDiff,h1,h2,h3,c1,hb0] at hr
    subst hr
    refine .inr ⟨_,hr0,_,i,rfl,hgs (hlt hb0),?_⟩
    unfold qdE
    rw[List.find?_range_eq_some]
    exact⟨hc,by simp;omega,fun k hk=>by simp[hno k hk]⟩
 ·intro s hs
  obtain⟨H2,rfl,hE,hno⟩:=hs
  have h0:=qaQ ps.length
  refine⟨_,?_,H2,rfl,hE,?_⟩
  ·unfold qdR
   simp -implicitDefEqProofs only[ev_,aOp,opd,qaa,qaw,qat,qab,gcE,↓reduceIte,Nat.reduceEqDiff,h0]
  ·unfold qdE
   rw[List.find?_range_eq_none]
   intro k hk
   simp[hno k (by omega)]
 ·exact⟨H',rfl,hx,fun k hk=>absurd hk (by omega)⟩
theorem qxC (h343:L.fns 343=some fn343) (h346:L.fns 346=some fn346) (h347:L.fns 347=some fn347) {b:Nat} (e:List CExpr) (hz:qaN e=0) (hf:∀ x∈e,NodeFit x) (H1:Heap) (ps:List Nat) (ow:Option (Option Nat)) (rt:AVal) (mid:Nat)
  (hm:H1[mid]? = some (.map (encB (qlR e)))) (hps:ps.length=e.length) (hws:∀ k,k<e.length→WS H1 (fun i=>i<H1.length) (qbb e k) (ps.getD k 0)) (h0:H1[0]? = some (.box [.int .i64 0,.int .i64 0,.int .i64 0])) (hw1:H1[1]? = some (.box [.list (ps.map qaB) ow,rt])) :
  (∃ T,qa4 L.pure (call L) b [1000000,2,6,7,22,23] [1000000,2,3,4] 0 qdS
    ⟨kt [2,6,7,22,23] [.ptr (some (0,0)),.ptr (some (1,0)),.map (some mid),.agg orderA,.int .i64 0],H1⟩=some (.normal,T) ∧
    (∃ H2,T=⟨kt [2,3,4] [.ptr (some (0,0)),.junk,.junk],H2⟩∧H2[0]? = some (.box [.int .i64 0,.int .i64 0,.int .i64 0])∧qhD e=none)) ∨
  (∃ T,qa4 L.pure (call L) b [1000000,2,6,7,22,23] [1000000,2,3,4] 0 qdS
    ⟨kt [2,6,7,22,23] [.ptr (some (0,0)),.ptr (some (1,0)),.map (some mid),.agg orderA,.int .i64 0],H1⟩=some (.ret,T) ∧
    (∃ H2 r i,T=⟨kt [2,3,4] [.ptr (some (0,0)),.bool true,.int .i64 0],H2⟩∧H2[0]? = some (.box [.int .i64 r,.int .i64 (i:Nat),.int .i64 0])∧qhD e=some (r,i))):=by
 refine qgv (pure:=L.pure) (call:=call L) (b:=b) (id:=0) (body:=qdS)
  (fun j s=>∃ H2,s=⟨kt [2,6,7,22,23] [.ptr (some (0,0)),.ptr (some (1,0)),.map (some mid),.agg orderA,.int .i64 (j:Nat)],H2⟩∧Ext H1 H2∧∀ k (hk:k<ruleOrder.length),k<j→qdE e ruleOrder[k]=none) ruleOrder.length _ _ ?_ ?_ ?_
 ·intro j s hj hs
  obtain⟨H2,rfl,hE,hno⟩:=hs
  have hj10:j<10:=hj
  have h1:((j:Int)<10)=True:=by simp;omega
  have h2:IntKind.i64.wrap ((j:Int)+1)=((j+1:Nat):Int):=by rw[qb6 (by omega) (by omega)];omega
  have h3:orderA[j]? = some (.int .i64 ruleOrder[j]):=by unfold orderA;rw[List.getElem?_map,List.getElem?_eq_getElem hj];rfl
  have hro:ruleOrder[j]∈ruleOrder:=List.getElem_mem hj
  have hw2:H2[1]? = some (.box [.list (ps.map qaB) ow,rt]):=by rw[hE.2 1 (hlt hw1)];exact hw1
  have hin:=fun b=>qxB hR h343 h346 h347 (b:=b) e hz hf ruleOrder[j] hro H1 ps ow mid [] hm hps hws h0 j H2 hE
  have hlm:(ps.map qaB).length=ps.length:=List.length_map _
  obtain⟨q,hr0⟩:∃ q,qa1 L.pure (call L) b [1000000,2,6,7,22,23] [1000000,2,3,4] qdS
   ⟨kt [2,6,7,22,23] [.ptr (some (0,0)),.ptr (some (1,0)),.map (some mid),.agg orderA,.int .i64 (j:Nat)],H2⟩=q:=⟨_,rfl⟩
  have hr:=hr0
  have hin:=hin H2.length
  generalize hrj:ruleOrder[j]=r at *
  generalize hps2:ps.map qaB=pl at *
  rcases hin with ⟨T,t1,H3,rfl,t3,t4⟩ | ⟨T,t1,H3,i,rfl,t3,t4⟩
  ·unfold qdS at hr
   simp -implicitDefEqProofs only[ev_,aOp,opd,qaa,qaw,qbe,qat,qeZ,qab,qag,qah,↓reduceIte,Nat.reduceEqDiff,h1,h2,h3,hw2,hlm,t1] at hr
   subst hr
   refine .inl ⟨_,hr0,H3,rfl,t3,fun k hk hkj=>?_⟩
   by_cases hki:k=j
   ·subst hki;exact (congrArg (qdE e) hrj).trans t4
   ·exact hno k hk (by omega)
  ·unfold qdS at hr
   simp -implicitDefEqProofs only[ev_,aOp,opd,qaa,qaw,qbe,qat,qeZ,qab,qag,qah,gcE,↓reduceIte,Nat.reduceEqDiff,h1,h2,h3,hw2,hlm,t1] at hr
   subst hr
   refine .inr ⟨_,hr0,H3,r,i,rfl,t3,?_⟩
   unfold qhD
   exact qjm hj (fun k hk hkj=>by rw[hno k hk hkj];rfl) (by
    have h5:qdE e (ruleOrder[j]'hj)=some i:=(congrArg (qdE e) hrj).trans t4
    rw[h5]
    exact congrArg (fun q=>some (q,i)) hrj)
 ·intro s hs
  obtain⟨H2,rfl,hE,hno⟩:=hs
  refine⟨_,?_,H2,rfl,by rw[hE.2 0 (hlt h0)];exact h0,?_⟩
  ·rw[qsz]
   unfold qdS
   simp -implicitDefEqProofs only[ev_,aOp,opd,qaa,qaw,qat,qab,gcE,↓reduceIte,Nat.reduceEqDiff,Int.reduceLT]
  ·unfold qhD
   exact qjn fun k hk=>by rw[hno k hk hk];rfl
 ·exact⟨H1,rfl,Ext.refl _,fun k hk hkj=>absurd hkj (by omega)⟩
theorem qxD (h334:L.fns 334=some fn334) (h342:L.fns 342=some fn342) (h343:L.fns 343=some fn343) (h346:L.fns 346=some fn346) (h347:L.fns 347=some fn347) (e:List CExpr) (h:Heap) (hN:Norm e) :
  pcall L 334 [.list (e.map qam) none] h=some (.val (qkl e),h):=by
 have hL:=hR.plain
 have hp:=hL.pure
 have hz:=hN.ok
 have hf:=hN.fit
 obtain⟨hT,hn4,_⟩:=qbo hz
 have hel:e.length<2 ^ 30:=by omega
 have hdE:=qaL e
 have hck:=qiv hR.toCLib e hel hf
 rw[hz] at hck
 have hdv:qay (qkl e)=true:=by
  unfold qkl
  split<;>rfl
 refine qa5 hL h334 hdv ?_ h
 obtain⟨H,ps,ow,c1,hO,hke⟩:=qsw hL hR.f293 e hel hT.pos hf hT.ahead [.box [.int .i64 0,.int .i64 0,.int .i64 0]]
 rw[List.length_singleton] at c1 hO hke
 obtain⟨H1,d1,d2,d3⟩:=qkm hL h342 e hel H
 have hE1:Ext H H1:=⟨by have:=hlt d2;omega,d3⟩
 have hps:=hO.len
 have hlow:=hlt hO.work
 have hb0:H1[0]? = some (.box [.int .i64 0,.int .i64 0,.int .i64 0]):=by rw[d3 0 (by omega),hke 0 (by omega)];rfl
 have hw1:H1[1]? = some (.box [.list (ps.map qaB) ow,qaB (ps.getD (e.length-1) 0)]):=by rw[d3 1 (by omega)];exact hO.work
 have hws:∀ k,k<e.length→WS H1 (fun i=>i<H1.length) (qbb e k) (ps.getD k 0):=fun k hk=>((hO.ws hT.ahead k hk).frame' d3).toT
 have hl1:=qxC hR h343 h346 h347 (b:=H1.length) e hz hf H1 ps ow _ H.length d2 hps hws hb0 hw1
 have hoe:=quU
 unfold qaB at c1
 unfold qkl
 rcases hl1 with ⟨T,t1,H3,rfl,t3,t4⟩ | ⟨T,t1,H3,r,i,rfl,t3,t4⟩
 ·have hl3:=hlt t3
  rw[t4]
  unfold fn334
  simp -implicitDefEqProofs only[ev_,aOp,opd,qaa,qaq,qaw,qat,qab,qaI,qaK,qbP,leaf,qap,qan,qac,qae,qai,↓reduceIte,reduceCtorEq,Nat.reduceEqDiff,Nat.reduceAdd,qar,qak,hck,hdE,c1,d1,hoe,qk5,qjK,t1,t3,bne,hl3,hgs,qal L hp,hp]
 ·rw[t4]
  dsimp only[qcT]
  unfold fn334
  simp -implicitDefEqProofs only[ev_,aOp,opd,qaa,qaw,qat,qab,qaK,qan,qac,qae,qai,↓reduceIte,reduceCtorEq,Nat.reduceEqDiff,Nat.reduceAdd,qar,qak,hck,hdE,c1,d1,hoe,qk5,qjK,t1,t3,bne,qal L hp,hp]
end
theorem qxP {e:List CExpr} (hz:qaN e=0) (k:Nat) (hk:k≤500):qvF e (k:Int)=.tuple [.list ((qhJ k (qa3 (qbl e))).1.map qam) none,.list ((qhJ k (qa3 (qbl e))).2.map qcT) none,.int .i64 0]:=by
 unfold qvF
 rw[if_pos hz,if_neg (by omega),Int.toNat_natCast]
theorem qu5 {e:List CExpr} (hz:¬ qaN e=0) (b:Int):qvF e b=.tuple [.list [] none,.list [] none,.int .i64 (qaN e)]:=by
 unfold qvF
 rw[if_neg hz]
section
variable {L:Lib} (hR:RLib L)
include hR
theorem qip (hnext:∀ (e:List CExpr) (h:Heap),Norm e→pcall L 334 [.list (e.map qam) none] h=some (.val (qkl e),h)) (h332:L.fns 332=some fn332) (h326:L.fns 326=some fn326) (hfact:∀ h:Heap,pcall L 333 [] h=some (.val (.bool true),h)) (e:List CExpr) (hl:e.length<2 ^ 30) (hf:∀ x∈e,NodeFit x) (h:Heap) :
  pcall L 326 [.list (e.map qam) none] h=some (.val (.bool true),h):=by
 have hL:=hR.plain
 have hp:=hL.pure
 have hdE:=qaL e
 have hrun:=qqL hR hnext h332 e hl hf 80
 refine qa5 hL h326 rfl ?_ h
 by_cases hz:qaN e=0
 case neg =>
  have hne:(qaN e==0)=false:=by simpa using hz
  rw[qu5 hz] at hrun
  generalize qaN e=r at *
  unfold fn326
  simp -implicitDefEqProofs only[ev_,aOp,opd,qaa,qaw,qat,qab,qaf,qan,qac,qae,qai,↓reduceIte,reduceCtorEq,Nat.reduceEqDiff,qar,qak,hfact,hrun,hne,hdE,qal L hp,hp,List.map_nil,bne]
 have hr2:=qxP hz 80 (by omega)
 rw[show ((80:Nat):Int)=80 from rfl] at hr2
 rw[hr2] at hrun
 have hN:=qpA 80 (qjH hz hf)
 have hlen:=qpJ 80 (qa3 (qbl e))
 have hst:=qnp 80 (qjH hz hf)
 have hnx:=fun h=>hnext _ h hN
 have hE2:(qhJ 80 (qa3 (qbl e))).1.length<2 ^ 30:=by have:=(qbo hN.ok).2.1;omega
 have hdF:=qaL (qhJ 80 (qa3 (qbl e))).1
 have hdS:=qd5 (qhJ 80 (qa3 (qbl e))).2
 generalize (qhJ 80 (qa3 (qbl e))).2=l at *
 generalize (qhJ 80 (qa3 (qbl e))).1=F at *
 by_cases h80:l.length=80
 ·have hb:((l.length:Int)==80)=true:=by simp;omega
  unfold fn326
  simp -implicitDefEqProofs only[ev_,aOp,opd,qaa,qaw,qbe,qat,qab,qaf,qan,qac,qae,qai,↓reduceIte,reduceCtorEq,Nat.reduceEqDiff,qar,qak,hfact,hrun,hb,hdE,hdF,hdS,qal L hp,hp,bne]
 have hb:((l.length:Int)==80)=false:=by simp;omega
 unfold qkl at hnx
 cases hs:qhD F with
 | none =>
   rw[hs] at hnx
   dsimp only at hnx
   unfold fn326
   simp -implicitDefEqProofs only[ev_,aOp,opd,qaa,qaq,qaw,qbe,qat,qab,qaf,qaI,leaf,qap,qan,qac,qae,qai,↓reduceIte,reduceCtorEq,Nat.reduceEqDiff,Nat.reduceAdd,qar,qak,hfact,hrun,hnx,hb,hdE,hdF,hdS,qal L hp,hp,bne]
 | some s =>
   obtain⟨r,i⟩:=s
   rw[hs] at hnx
   dsimp only[qcT] at hnx
   have ho:=qgx (qfZ hs).1
   have hap:=fun h=>qoS hR F hE2 hN.fit r i 0 ⟨ho.2.2.1,ho.2.2.2⟩ h
   have h2:=hst (by omega) r i hs
   rw[h2] at hap
   have hdG:=qaL (qbv F r i 0).1
   generalize (qbv F r i 0).1=K at *
   unfold fn326
   simp -implicitDefEqProofs only[ev_,aOp,opd,qaa,qaq,qaw,qbe,qat,qab,qaf,qaI,qaK,leaf,qap,qan,qac,qae,qai,↓reduceIte,reduceCtorEq,Nat.reduceEqDiff,Nat.reduceAdd,qar,qak,hfact,hrun,hnx,hap,hb,hdE,hdF,hdG,hdS,qal L hp,hp,bne]
end
end Go.Abs
