/-
  PARTS OF A PROOF, joined: an abstract machine for quiet code, its evaluation, and what the seat's functions answer on it. Conditions: none.
-/
import Derived.Test.YtpchghpipgpkfaaDoorRAA
import Derived.Test.YtpchghpipgpkfaaDoorD
set_option linter.unusedVariables false
set_option linter.unusedSimpArgs false
set_option maxRecDepth 100000
set_option maxHeartbeats 8000000
namespace Go.Abs
def qaQ (s:Int × Nat):AVal:=.agg [.int .i64 s.1,.int .i64 s.2,.int .i64 0]
theorem qbB (l:List (Int × Nat)):qas (l.map qaQ)=true:=qdB qaQ (fun _=>rfl) l
theorem qiO (l:List (Int × Nat)):((l.map qaQ).all fun v=>decide ((acells v).length=3))=true:=by
 rw[List.all_eq_true]
 intro v hv
 obtain⟨q,_,rfl⟩:=List.mem_map.1 hv
 rfl
def qlI (e:List CExpr):AVal :=
 match qjz e with
 | some s=>.tuple [qaQ s,.bool true,.int .i64 0]
 | none=>.tuple [.agg [.int .i64 0,.int .i64 0,.int .i64 0],.bool false,.int .i64 0]
def rs (bud:Int) (e:List CExpr) (l:List (Int × Nat)):St:=⟨kt [1,8,9] [.int .i64 bud,.list (e.map qal) none,.list (l.map qaQ) (qcy 0 l.length)],qbw 3 l.length⟩
def rt (e:List CExpr) (l:List (Int × Nat)):St:=⟨kt [8,9] [.list (e.map qal) none,.list (l.map qaQ) (qcy 0 l.length)],qbw 3 l.length⟩
section
variable {L:Lib} (hR:RLib L)
include hR
theorem qvv (hnext:∀ (e:List CExpr) (h:Heap),Norm e→pcall L 334 [.list (e.map qal) none] h=some (.val (qlI e),h)):∀ (k:Nat) (e:List CExpr) (l:List (Int × Nat)),Norm e→l.length+k<2 ^ 30 →
  qa5 L.pure (call L) 0 [1,8,9] [8,9] 0 qc0 (rs ((l.length+k:Nat):Int) e l)=some (.normal,rt (qed k e).1 (l++(qed k e).2))
 | 0,e,l,hN,hb => by
   have hp:=hR.plain.pure
   have hdE:=qaJ e
   have hdL:=qbB l
   refine qbV ?_
   rw[qed,List.append_nil,Nat.add_zero]
   have hlt:((l.length:Int)<l.length)=False:=by simp
   unfold rs rt
   by_cases hz:l=[]
   ·subst hz
    unfold qc0
    simp -implicitDefEqProofs only[ev_,aOp,opd,qaa,qau,qbc,qat,qab,gcE,qav,ren,renC,qa3,qbd,↓reduceIte,Nat.reduceEqDiff,Int.reduceLT,qcy,qbw,hdE,hlt]
   ·obtain⟨q,hq⟩:∃ q,l.length=q+1:=⟨l.length-1,by have:=List.length_pos_iff.2 hz;omega⟩
    have h1:qcy 0 l.length=some (some 0):=by rw[hq];rfl
    have h2:qbw 3 l.length=[.tail l.length 3]:=by rw[hq];rfl
    rw[h1,h2]
    unfold qc0
    simp -implicitDefEqProofs only[ev_,aOp,opd,qaa,qau,qbc,qat,qab,gcE,qav,ren,renC,qa3,qbd,↓reduceIte,Nat.reduceEqDiff,Nat.reduceLT,hdE,hdL,hlt]
 | k + 1,e,l,hN,hb => by
   have hL:=hR.plain
   have hp:=hL.pure
   have hdE:=qaJ e
   have hdL:=qbB l
   have hlt:((l.length:Int)<((l.length+(k+1):Nat):Int))=True:=by simp;omega
   have hnx:=fun h=>hnext e h hN
   have hel:e.length<2 ^ 30:=by have:=(qby hN.ok).2.1;omega
   rw[qed]
   cases hs:qjz e with
   | none =>
     dsimp only
     unfold qlI at hnx
     rw[hs] at hnx
     dsimp only at hnx
     refine qbV ?_
     rw[List.append_nil]
     unfold rs rt
     generalize ((l.length+(k+1):Nat):Int)=bud at *
     by_cases hz:l=[]
     ·subst hz
      simp only[List.length_nil,Int.natCast_zero] at hlt
      unfold qc0
      simp -implicitDefEqProofs only[ev_,aOp,opd,qaa,qaq,qau,qbc,qat,aUn,qab,qaK,leaf,qap,gcE,qav,ren,renC,qa3,qbd,↓reduceIte,reduceCtorEq,Nat.reduceEqDiff,Nat.reduceAdd,qar,qcy,qbw,hdE,hlt,hnx,qam L hp,hp,Int.natCast_zero]
     ·obtain⟨q,hq⟩:∃ q,l.length=q+1:=⟨l.length-1,by have:=List.length_pos_iff.2 hz;omega⟩
      have h1:qcy 0 l.length=some (some 0):=by rw[hq];rfl
      have h2:qbw 3 l.length=[.tail l.length 3]:=by rw[hq];rfl
      rw[h1,h2]
      unfold qc0
      simp -implicitDefEqProofs only[ev_,aOp,opd,qaa,qaq,qau,qbc,qat,aUn,qab,qaK,leaf,qap,gcE,qav,ren,renC,qa3,qbd,↓reduceIte,reduceCtorEq,Nat.reduceEqDiff,Nat.reduceAdd,Nat.reduceLT,qar,hdE,hdL,hlt,hnx,qam L hp,hp]
   | some s =>
     obtain⟨r,i⟩:=s
     dsimp only
     unfold qlI at hnx
     rw[hs] at hnx
     dsimp only[qaQ] at hnx
     obtain⟨s1,s2,s3⟩:=qkS hs
     have ho:=qov s1
     have hap:=fun h=>qtt hR e hel hN.fit r i 0 ⟨ho.2.2.1,ho.2.2.2⟩ h
     have hdF:=qaJ (qbM e r i 0).1
     by_cases hc:(qbM e r i 0).2=0
     ·rw[if_pos hc]
      have hnorm:=qkU hN s2 hc
      rw[hc] at hap
      have ih:=qvv hnext k (qbM e r i 0).1 (l++[(r,i)]) hnorm (by simp;omega)
      have hbe:(((l++[(r,i)]).length+k:Nat):Int)=((l.length+(k+1):Nat):Int):=by simp;omega
      rw[hbe] at ih
      dsimp only
      rw[List.append_assoc] at ih
      refine (qbW ?_).trans ih
      unfold rs
      generalize ((l.length+(k+1):Nat):Int)=bud at *
      generalize (qbM e r i 0).1=F at *
      have hall:=qiO l
      have hlen:l.length+1≤1073741824:=by omega
      rw[List.map_append,List.length_append]
      by_cases hz:l=[]
      ·subst hz
       simp only[List.length_nil,Int.natCast_zero] at hlt
       unfold qc0
       simp -implicitDefEqProofs only[ev_,aOp,opd,qaa,qaq,qau,qbc,qat,aUn,qab,qaK,qaL,leaf,qap,qav,ren,renC,qa3,qbd,qbo,↓reduceIte,Nat.reduceEqDiff,Nat.reduceAdd,Nat.reduceLT,Nat.reduceLeDiff,Int.reduceBNe,qar,qcy,qbw,qaQ,hdE,hdF,hlt,hnx,hap,qam L hp,hp,Int.natCast_zero]
      ·obtain⟨q,hq⟩:∃ q,l.length=q+1:=⟨l.length-1,by have:=List.length_pos_iff.2 hz;omega⟩
       have h1:qcy 0 l.length=some (some 0):=by rw[hq];rfl
       have h2:qbw 3 l.length=[.tail l.length 3]:=by rw[hq];rfl
       have h3:qcy 0 (l.length+[(r,i)].length)=some (some 0):=by rw[hq];rfl
       have h4:qbw 3 (l.length+[(r,i)].length)=[.tail (l.length+1) 3]:=by rw[hq];rfl
       rw[h1,h2,h3,h4]
       unfold qc0
       simp -implicitDefEqProofs only[ev_,aOp,opd,qaa,qaq,qau,qbc,qat,aUn,qab,qaK,qaL,leaf,qap,qav,ren,renC,qa3,qbd,qbo,↓reduceIte,Nat.reduceEqDiff,Nat.reduceAdd,Nat.reduceLT,Int.reduceBNe,qar,qaQ,hdE,hdF,hdL,hall,hlen,hlt,hnx,hap,qam L hp,hp]
     ·rw[if_neg hc]
      have hcb:((qbM e r i 0).2==0)=false:=by simpa using hc
      refine qbV ?_
      rw[List.append_nil]
      unfold rs rt
      generalize ((l.length+(k+1):Nat):Int)=bud at *
      generalize (qbM e r i 0).1=F at *
      generalize (qbM e r i 0).2=g at *
      by_cases hz:l=[]
      ·subst hz
       simp only[List.length_nil,Int.natCast_zero] at hlt
       unfold qc0
       simp -implicitDefEqProofs only[ev_,aOp,opd,qaa,qaq,qau,qbc,qat,aUn,qab,qaK,qaL,leaf,qap,gcE,qav,ren,renC,qa3,qbd,↓reduceIte,reduceCtorEq,Nat.reduceEqDiff,Nat.reduceAdd,qar,qcy,qbw,hdE,hdF,hlt,hnx,hap,hcb,bne,qam L hp,hp,Int.natCast_zero]
      ·obtain⟨q,hq⟩:∃ q,l.length=q+1:=⟨l.length-1,by have:=List.length_pos_iff.2 hz;omega⟩
       have h1:qcy 0 l.length=some (some 0):=by rw[hq];rfl
       have h2:qbw 3 l.length=[.tail l.length 3]:=by rw[hq];rfl
       rw[h1,h2]
       unfold qc0
       simp -implicitDefEqProofs only[ev_,aOp,opd,qaa,qaq,qau,qbc,qat,aUn,qab,qaK,qaL,leaf,qap,gcE,qav,ren,renC,qa3,qbd,↓reduceIte,reduceCtorEq,Nat.reduceEqDiff,Nat.reduceAdd,Nat.reduceLT,qar,hdE,hdF,hdL,hlt,hnx,hap,hcb,bne,qam L hp,hp]
def qvu (e:List CExpr) (bud:Int):AVal :=
 if qaR e=0 then (if bud<0∨500<bud then .tuple [.list [] none,.list [] none,.int .i64 4]
  else .tuple [.list ((qed bud.toNat (qa6 (qbn e))).1.map qal) none,.list ((qed bud.toNat (qa6 (qbn e))).2.map qaQ) none,.int .i64 0])
 else .tuple [.list [] none,.list [] none,.int .i64 (qaR e)]
theorem qhz (hnext:∀ (e:List CExpr) (h:Heap),Norm e→pcall L 334 [.list (e.map qal) none] h=some (.val (qlI e),h)) (h332:L.fns 332=some fn332) (e:List CExpr) (hl:e.length<2 ^ 30) (hf:∀ x∈e,NodeFit x) (bud:Int) (h:Heap) :
  pcall L 332 [.list (e.map qal) none,.int .i64 bud] h=some (.val (qvu e bud),h):=by
 have hL:=hR.plain
 have hp:=hL.pure
 have hdE:=qaJ e
 have hck:=qik hR.toCLib e hl hf
 have hdv:qay (qvu e bud)=true:=by
  unfold qvu
  split
  ·split
   ·rfl
   ·simp only[qhZ,qhX,qjr,qaY,qaJ,qbB,qkJ,Bool.and_true]
  ·rfl
 refine qaX hL h332 hdv ?_ h
 unfold qvu
 by_cases hz:qaR e=0
 case neg =>
  have hne:(qaR e==0)=false:=by simpa using hz
  rw[if_neg hz]
  generalize qaR e=r at *
  unfold fn332
  simp -implicitDefEqProofs only[ev_,aOp,opd,qaa,qau,qat,qab,qan,qac,qae,qaj,↓reduceIte,reduceCtorEq,Nat.reduceEqDiff,qar,qak,hck,hne,hdE,bne,qam L hp,hp]
 rw[if_pos hz]
 rw[hz] at hck
 by_cases hneg:bud<0
 ·rw[if_pos (.inl hneg)]
  have b1:(bud<0)=True:=by simpa using hneg
  unfold fn332
  simp -implicitDefEqProofs only[ev_,aOp,opd,qaa,qau,qat,qab,qaf,qan,qac,qae,qaj,↓reduceIte,reduceCtorEq,Nat.reduceEqDiff,qar,qak,hck,b1,hdE,bne,qam L hp,hp]
 by_cases hbig:500<bud
 ·rw[if_pos (.inr hbig)]
  have b1:(bud<0)=False:=by simpa using hneg
  have b2:(500<bud)=True:=by simpa using hbig
  unfold fn332
  simp -implicitDefEqProofs only[ev_,aOp,opd,qaa,qau,qat,qab,qaf,qan,qac,qae,qaj,↓reduceIte,reduceCtorEq,Nat.reduceEqDiff,gt_iff_lt,qar,qak,hck,b1,b2,hdE,bne,qam L hp,hp]
 rw[if_neg (by omega)]
 have b1:(bud<0)=False:=by simpa using hneg
 have b2:(500<bud)=False:=by simpa using hbig
 obtain⟨hT,hn4,hh,hlab,_⟩:=qby hz
 obtain⟨hft,hsz⟩:=qi0 hz hf
 have hgr:=fun h=>hR.grow e h hl hf hT (by omega)
 have hli:=hR.list (qbn e) hft (by omega)
 obtain⟨tc,htc,hdt⟩:=qcc (qbn e)
 rw[htc] at hgr hli
 have hl0:=qvv hR hnext bud.toNat (qa6 (qbn e)) [] (qm3 hz hf) (by simp;omega)
 have hbe:((([]:List (Int × Nat)).length+bud.toNat:Nat):Int)=bud:=by simp;omega
 rw[hbe,List.nil_append] at hl0
 have hdG:=qaJ (qa6 (qbn e))
 have hdF:=qaJ (qed bud.toNat (qa6 (qbn e))).1
 have hdL:=qbB (qed bud.toNat (qa6 (qbn e))).2
 unfold rs rt at hl0
 generalize (qed bud.toNat (qa6 (qbn e))).1=F at *
 generalize (qed bud.toNat (qa6 (qbn e))).2=l at *
 generalize qa6 (qbn e)=G at *
 by_cases hq0:l=[]
 ·subst hq0
  simp only[List.length_nil,List.map_nil,qcy,qbw] at hl0
  unfold fn332
  simp -implicitDefEqProofs only[ev_,aOp,opd,qaa,qau,qat,qab,qaf,qan,qac,qae,qaj,qav,ren,renC,qa3,qbd,↓reduceIte,reduceCtorEq,Nat.reduceEqDiff,gt_iff_lt,qar,qak,hck,b1,b2,hgr,hli,hl0,hdE,hdF,hdG,hdt,bne,qfW,qam L hp,hp]
 ·obtain⟨q,hq⟩:∃ q,l.length=q+1:=⟨l.length-1,by have:=List.length_pos_iff.2 hq0;omega⟩
  have h1:qcy 0 l.length=some (some 0):=by rw[hq];rfl
  have h2:qbw 3 l.length=[.tail l.length 3]:=by rw[hq];rfl
  rw[h1,h2] at hl0
  simp only[List.length_nil,List.map_nil,qcy,qbw] at hl0
  unfold fn332
  simp -implicitDefEqProofs only[ev_,aOp,opd,qaa,qau,qat,qab,qaf,qan,qac,qae,qaj,qav,ren,renC,qa3,qbd,↓reduceIte,reduceCtorEq,Nat.reduceEqDiff,gt_iff_lt,qar,qak,hck,b1,b2,hgr,hli,hl0,hdE,hdF,hdG,hdL,hdt,bne,qfW,qam L hp,hp]
end
section
end
theorem qjf {α β:Type} {f:α→Option β}:∀ {l:List α} {j:Nat} (hj:j<l.length) (hn:∀ k (hk:k<l.length),k<j→f l[k]=none) {b:β} (hb:f l[j]=some b),l.findSome? f=some b
 | x :: l,0,_,_,b,hb => by
   have hb:f x=some b:=hb
   rw[List.findSome?_cons,hb]
 | x :: l,j + 1,hj,hn,b,hb => by
   have h0:f x=none:=hn 0 (by simp) (by omega)
   rw[List.findSome?_cons,h0]
   exact qjf (j:=j) (by simpa using hj) (fun k hk hkj=>hn (k+1) (by simpa using hk) (by omega)) hb
theorem qjg {α β:Type} {f:α→Option β}:∀ {l:List α} (hn:∀ k (hk:k<l.length),f l[k]=none),l.findSome? f=none
 | [],_=>rfl
 | x :: l,hn => by
   have h0:f x=none:=hn 0 (by simp)
   rw[List.findSome?_cons,h0]
   exact qjg fun k hk=>hn (k+1) (by simpa using hk)
def Ext (H H':Heap):Prop:=H.length≤H'.length∧∀ i,i<H.length→H'[i]? = H[i]?
theorem Ext.refl (H:Heap):Ext H H:=⟨Nat.le_refl _,fun _ _=>rfl⟩
theorem Ext.trans {A B C:Heap} (h:Ext A B) (k:Ext B C):Ext A C:=⟨Nat.le_trans h.1 k.1,fun i hi=>by rw[k.2 i (by have:=h.1;omega),h.2 i hi]⟩
def orderA:List AVal:=ruleOrder.map fun r=>.int .i64 r
theorem quJ:([.int .i64 3,.int .i64 4,.int .i64 6,.int .i64 7,.int .i64 5,.int .i64 1,.int .i64 2,.int .i64 11,.int .i64 8,.int .i64 9]:List AVal)=orderA:=rfl
theorem qkX:orderA.length=10:=rfl
theorem qjE:orderA.take 10=orderA:=rfl
theorem qsr:ruleOrder.length=10:=rfl
section
variable {L:Lib} (hR:RLib L)
include hR
theorem qxp (h343:L.fns 343=some fn343) (h346:L.fns 346=some fn346) (h347:L.fns 347=some fn347) {b:Nat} (e:List CExpr) (hz:qaR e=0) (hf:∀ x∈e,NodeFit x) (r:Int) (hr:r∈ruleOrder) (H1:Heap) (ps:List Nat) (ow:Option (Option Nat)) (mid:Nat) (x0:List AVal)
  (hm:H1[mid]? = some (.map (encB (qlL e)))) (hps:ps.length=e.length) (hws:∀ k,k<e.length→WS H1 (fun i=>i<H1.length) (qbk e k) (ps.getD k 0)) (h0:H1[0]? = some (.box [.int .i64 0,.int .i64 0,.int .i64 0])) (j:Nat) (H':Heap) (hx:Ext H1 H') :
  (∃ T,qa5 L.pure (call L) b [1000000,2,6,7,9,22,23,29,30,31] [1000000,2,3,4,6,7,22,23] 2 qdK
    ⟨kt [2,6,7,9,22,23,29,30,31] [.ptr (some (0,0)),.ptr (some (1,0)),.map (some mid),.int .i64 r,.agg orderA,.int .i64 (j:Int),.list (ps.map qaD) ow,.int .i64 (ps.length:Nat),.int .i64 0],H'⟩=some (.normal,T) ∧
    (∃ H2,T=⟨kt [2,3,4,6,7,22,23] [.ptr (some (0,0)),.junk,.junk,.ptr (some (1,0)),.map (some mid),.agg orderA,.int .i64 (j:Int)],H2⟩∧Ext H1 H2∧qdz e r=none)) ∨
  (∃ T,qa5 L.pure (call L) b [1000000,2,6,7,9,22,23,29,30,31] [1000000,2,3,4,6,7,22,23] 2 qdK
    ⟨kt [2,6,7,9,22,23,29,30,31] [.ptr (some (0,0)),.ptr (some (1,0)),.map (some mid),.int .i64 r,.agg orderA,.int .i64 (j:Int),.list (ps.map qaD) ow,.int .i64 (ps.length:Nat),.int .i64 0],H'⟩=some (.ret,T) ∧
    (∃ H2 i,T=⟨kt [2,3,4,6,7,22,23] [.ptr (some (0,0)),.bool true,.int .i64 0,.ptr (some (1,0)),.map (some mid),.agg orderA,.int .i64 (j:Int)],H2⟩∧H2[0]? = some (.box [.int .i64 r,.int .i64 (i:Nat),.int .i64 0])∧qdz e r=some i)):=by
 have hel:e.length<2 ^ 30:=by have:=(qby hz).2.1;omega
 refine qgq (pure:=L.pure) (call:=call L) (b:=b) (id:=2) (body:=qdK)
  (fun i s=>∃ H2,s=⟨kt [2,6,7,9,22,23,29,30,31] [.ptr (some (0,0)),.ptr (some (1,0)),.map (some mid),.int .i64 r,.agg orderA,.int .i64 (j:Int),.list (ps.map qaD) ow,.int .i64 (ps.length:Nat),.int .i64 (i:Nat)],H2⟩∧Ext H1 H2∧∀ k,k<i→qxN r (qtG e) (qbk e k)=false) ps.length _ _ ?_ ?_ ?_
 ·intro i s hi hs
  obtain⟨H2,rfl,hE,hno⟩:=hs
  obtain⟨h1,h2,h3⟩:=qaN qaD ps (by omega) i hi
  have hgi:ps.getD i 0=ps[i]:=by rw[List.getD_eq_getElem?_getD,List.getElem?_eq_getElem (by omega)];rfl
  have hw:=(hws i (by omega)).frame' hE.2
  obtain⟨H3,c1,c2,c3⟩:=qxX hR h343 h346 h347 r hr (qbk e i) (qof hz hf i (by omega)) H2 (fun i=>i<H2.length) (fun i h=>h) (ps.getD i 0) mid (qlL e) (qtG e) (qpw e) (hw.mono fun i hi=>by have:=hE.1;omega) (by rw[hE.2 mid (hlt hm)];exact hm)
  rw[hgi] at c1
  have hE3:Ext H1 H3:=hE.trans ⟨c2,c3⟩
  have hb0:H3[0]? = some (.box [.int .i64 0,.int .i64 0,.int .i64 0]):=by rw[hE3.2 0 (hlt h0)];exact h0
  generalize ps[i]=p at *
  unfold qaD at h3
  obtain⟨q,hr0⟩:∃ q,qa4 L.pure (call L) b [1000000,2,6,7,9,22,23,29,30,31] [1000000,2,3,4,6,7,22,23] qdK
   ⟨kt [2,6,7,9,22,23,29,30,31] [.ptr (some (0,0)),.ptr (some (1,0)),.map (some mid),.int .i64 r,.agg orderA,.int .i64 (j:Int),.list (ps.map qaD) ow,.int .i64 (ps.length:Nat),.int .i64 (i:Nat)],H2⟩=q:=⟨_,rfl⟩
  have hr:=hr0
  unfold qaD at hr
  cases hc:qxN r (qtG e) (qbk e i) with
  | false =>
    rw[hc] at c1
    unfold qdK at hr
    simp -implicitDefEqProofs only[ev_,aOp,opd,qaa,qau,qat,qad,qab,qag,↓reduceIte,Nat.reduceEqDiff,h1,h2,h3,c1] at hr
    subst hr
    refine .inl ⟨_,hr0,H3,rfl,hE3,fun k hk=>?_⟩
    by_cases hki:k=i
    ·rw[hki];exact hc
    ·exact hno k (by omega)
  | true =>
    rw[hc] at c1
    unfold qdK at hr
    simp -implicitDefEqProofs only[ev_,aOp,opd,qaa,qaq,qau,qat,qad,qab,qag,qaK,qbO,qcd,leaf,qap,gcE,↓reduceIte,Nat.reduceEqDiff,Nat.reduceAdd,Nat.reduceLeDiff,h1,h2,h3,c1,hb0] at hr
    subst hr
    refine .inr ⟨_,hr0,_,i,rfl,hgs (hlt hb0),?_⟩
    unfold qdz
    rw[List.find?_range_eq_some]
    exact⟨hc,by simp;omega,fun k hk=>by simp[hno k hk]⟩
 ·intro s hs
  obtain⟨H2,rfl,hE,hno⟩:=hs
  have h0:=qaO ps.length
  refine⟨_,?_,H2,rfl,hE,?_⟩
  ·unfold qdK
   simp -implicitDefEqProofs only[ev_,aOp,opd,qaa,qau,qat,qab,gcE,↓reduceIte,Nat.reduceEqDiff,h0]
  ·unfold qdz
   rw[List.find?_range_eq_none]
   intro k hk
   simp[hno k (by omega)]
 ·exact⟨H',rfl,hx,fun k hk=>absurd hk (by omega)⟩
theorem qxq (h343:L.fns 343=some fn343) (h346:L.fns 346=some fn346) (h347:L.fns 347=some fn347) {b:Nat} (e:List CExpr) (hz:qaR e=0) (hf:∀ x∈e,NodeFit x) (H1:Heap) (ps:List Nat) (ow:Option (Option Nat)) (rt:AVal) (mid:Nat)
  (hm:H1[mid]? = some (.map (encB (qlL e)))) (hps:ps.length=e.length) (hws:∀ k,k<e.length→WS H1 (fun i=>i<H1.length) (qbk e k) (ps.getD k 0)) (h0:H1[0]? = some (.box [.int .i64 0,.int .i64 0,.int .i64 0])) (hw1:H1[1]? = some (.box [.list (ps.map qaD) ow,rt])) :
  (∃ T,qa5 L.pure (call L) b [1000000,2,6,7,22,23] [1000000,2,3,4] 0 qdL
    ⟨kt [2,6,7,22,23] [.ptr (some (0,0)),.ptr (some (1,0)),.map (some mid),.agg orderA,.int .i64 0],H1⟩=some (.normal,T) ∧
    (∃ H2,T=⟨kt [2,3,4] [.ptr (some (0,0)),.junk,.junk],H2⟩∧H2[0]? = some (.box [.int .i64 0,.int .i64 0,.int .i64 0])∧qjz e=none)) ∨
  (∃ T,qa5 L.pure (call L) b [1000000,2,6,7,22,23] [1000000,2,3,4] 0 qdL
    ⟨kt [2,6,7,22,23] [.ptr (some (0,0)),.ptr (some (1,0)),.map (some mid),.agg orderA,.int .i64 0],H1⟩=some (.ret,T) ∧
    (∃ H2 r i,T=⟨kt [2,3,4] [.ptr (some (0,0)),.bool true,.int .i64 0],H2⟩∧H2[0]? = some (.box [.int .i64 r,.int .i64 (i:Nat),.int .i64 0])∧qjz e=some (r,i))):=by
 refine qgq (pure:=L.pure) (call:=call L) (b:=b) (id:=0) (body:=qdL)
  (fun j s=>∃ H2,s=⟨kt [2,6,7,22,23] [.ptr (some (0,0)),.ptr (some (1,0)),.map (some mid),.agg orderA,.int .i64 (j:Nat)],H2⟩∧Ext H1 H2∧∀ k (hk:k<ruleOrder.length),k<j→qdz e ruleOrder[k]=none) ruleOrder.length _ _ ?_ ?_ ?_
 ·intro j s hj hs
  obtain⟨H2,rfl,hE,hno⟩:=hs
  have hj10:j<10:=hj
  have h1:((j:Int)<10)=True:=by simp;omega
  have h2:IntKind.i64.wrap ((j:Int)+1)=((j+1:Nat):Int):=by rw[qbN (by omega) (by omega)];omega
  have h3:orderA[j]? = some (.int .i64 ruleOrder[j]):=by unfold orderA;rw[List.getElem?_map,List.getElem?_eq_getElem hj];rfl
  have hro:ruleOrder[j]∈ruleOrder:=List.getElem_mem hj
  have hw2:H2[1]? = some (.box [.list (ps.map qaD) ow,rt]):=by rw[hE.2 1 (hlt hw1)];exact hw1
  have hin:=fun b=>qxp hR h343 h346 h347 (b:=b) e hz hf ruleOrder[j] hro H1 ps ow mid [] hm hps hws h0 j H2 hE
  have hlm:(ps.map qaD).length=ps.length:=List.length_map _
  obtain⟨q,hr0⟩:∃ q,qa4 L.pure (call L) b [1000000,2,6,7,22,23] [1000000,2,3,4] qdL
   ⟨kt [2,6,7,22,23] [.ptr (some (0,0)),.ptr (some (1,0)),.map (some mid),.agg orderA,.int .i64 (j:Nat)],H2⟩=q:=⟨_,rfl⟩
  have hr:=hr0
  have hin:=hin H2.length
  generalize hrj:ruleOrder[j]=r at *
  generalize hps2:ps.map qaD=pl at *
  rcases hin with ⟨T,t1,H3,rfl,t3,t4⟩ | ⟨T,t1,H3,i,rfl,t3,t4⟩
  ·unfold qdL at hr
   simp -implicitDefEqProofs only[ev_,aOp,opd,qaa,qau,qbc,qat,qeT,qab,qag,qah,↓reduceIte,Nat.reduceEqDiff,h1,h2,h3,hw2,hlm,t1] at hr
   subst hr
   refine .inl ⟨_,hr0,H3,rfl,t3,fun k hk hkj=>?_⟩
   by_cases hki:k=j
   ·subst hki;exact (congrArg (qdz e) hrj).trans t4
   ·exact hno k hk (by omega)
  ·unfold qdL at hr
   simp -implicitDefEqProofs only[ev_,aOp,opd,qaa,qau,qbc,qat,qeT,qab,qag,qah,gcE,↓reduceIte,Nat.reduceEqDiff,h1,h2,h3,hw2,hlm,t1] at hr
   subst hr
   refine .inr ⟨_,hr0,H3,r,i,rfl,t3,?_⟩
   unfold qjz
   exact qjf hj (fun k hk hkj=>by rw[hno k hk hkj];rfl) (by
    have h5:qdz e (ruleOrder[j]'hj)=some i:=(congrArg (qdz e) hrj).trans t4
    rw[h5]
    exact congrArg (fun q=>some (q,i)) hrj)
 ·intro s hs
  obtain⟨H2,rfl,hE,hno⟩:=hs
  refine⟨_,?_,H2,rfl,by rw[hE.2 0 (hlt h0)];exact h0,?_⟩
  ·rw[qsr]
   unfold qdL
   simp -implicitDefEqProofs only[ev_,aOp,opd,qaa,qau,qat,qab,gcE,↓reduceIte,Nat.reduceEqDiff,Int.reduceLT]
  ·unfold qjz
   exact qjg fun k hk=>by rw[hno k hk hk];rfl
 ·exact⟨H1,rfl,Ext.refl _,fun k hk hkj=>absurd hkj (by omega)⟩
theorem qxr (h334:L.fns 334=some fn334) (h342:L.fns 342=some fn342) (h343:L.fns 343=some fn343) (h346:L.fns 346=some fn346) (h347:L.fns 347=some fn347) (e:List CExpr) (h:Heap) (hN:Norm e) :
  pcall L 334 [.list (e.map qal) none] h=some (.val (qlI e),h):=by
 have hL:=hR.plain
 have hp:=hL.pure
 have hz:=hN.ok
 have hf:=hN.fit
 obtain⟨hT,hn4,_⟩:=qby hz
 have hel:e.length<2 ^ 30:=by omega
 have hdE:=qaJ e
 have hck:=qik hR.toCLib e hel hf
 rw[hz] at hck
 have hdv:qay (qlI e)=true:=by
  unfold qlI
  split<;>rfl
 refine qaX hL h334 hdv ?_ h
 obtain⟨H,ps,ow,c1,hO,hke⟩:=qso hL hR.f293 e hel hT.pos hf hT.ahead [.box [.int .i64 0,.int .i64 0,.int .i64 0]]
 rw[List.length_singleton] at c1 hO hke
 obtain⟨H1,d1,d2,d3⟩:=qkf hL h342 e hel H
 have hE1:Ext H H1:=⟨by have:=hlt d2;omega,d3⟩
 have hps:=hO.len
 have hlow:=hlt hO.work
 have hb0:H1[0]? = some (.box [.int .i64 0,.int .i64 0,.int .i64 0]):=by rw[d3 0 (by omega),hke 0 (by omega)];rfl
 have hw1:H1[1]? = some (.box [.list (ps.map qaD) ow,qaD (ps.getD (e.length-1) 0)]):=by rw[d3 1 (by omega)];exact hO.work
 have hws:∀ k,k<e.length→WS H1 (fun i=>i<H1.length) (qbk e k) (ps.getD k 0):=fun k hk=>((hO.ws hT.ahead k hk).frame' d3).toT
 have hl1:=qxq hR h343 h346 h347 (b:=H1.length) e hz hf H1 ps ow _ H.length d2 hps hws hb0 hw1
 have hoe:=quJ
 unfold qaD at c1
 unfold qlI
 rcases hl1 with ⟨T,t1,H3,rfl,t3,t4⟩ | ⟨T,t1,H3,r,i,rfl,t3,t4⟩
 ·have hl3:=hlt t3
  rw[t4]
  unfold fn334
  simp -implicitDefEqProofs only[ev_,aOp,opd,qaa,qaq,qau,qat,qab,qaK,qaL,qbO,leaf,qap,qan,qac,qae,qaj,↓reduceIte,reduceCtorEq,Nat.reduceEqDiff,Nat.reduceAdd,qar,qak,hck,hdE,c1,d1,hoe,qkX,qjE,t1,t3,bne,hl3,hgs,qam L hp,hp]
 ·rw[t4]
  dsimp only[qaQ]
  unfold fn334
  simp -implicitDefEqProofs only[ev_,aOp,opd,qaa,qau,qat,qab,qaL,qan,qac,qae,qaj,↓reduceIte,reduceCtorEq,Nat.reduceEqDiff,Nat.reduceAdd,qar,qak,hck,hdE,c1,d1,hoe,qkX,qjE,t1,t3,bne,qam L hp,hp]
end
theorem qsS {e:List CExpr} (hz:qaR e=0) (k:Nat) (hk:k≤500):qvu e (k:Int)=.tuple [.list ((qed k (qa6 (qbn e))).1.map qal) none,.list ((qed k (qa6 (qbn e))).2.map qaQ) none,.int .i64 0]:=by
 unfold qvu
 rw[if_pos hz,if_neg (by omega),Int.toNat_natCast]
theorem quW {e:List CExpr} (hz:¬ qaR e=0) (b:Int):qvu e b=.tuple [.list [] none,.list [] none,.int .i64 (qaR e)]:=by
 unfold qvu
 rw[if_neg hz]
theorem qyh (a m:Int) (h : -9223372036854775808≤a∧a<9223372036854775808) (hm:0<m):∃ k:Nat,((if a > 0 then a else 0).tmod m=(k:Int))∧(k:Int)<m:=by
 have h1:0≤(if a > 0 then a else 0):=by split<;>omega
 have h2:0≤(if a > 0 then a else 0).tmod m:=Int.tmod_nonneg _ h1
 have h3:(if a > 0 then a else 0).tmod m<m:=Int.tmod_lt_of_pos _ hm
 exact⟨((if a > 0 then a else 0).tmod m).toNat,by omega,by omega⟩
section
variable {L:Lib} (hR:RLib L)
include hR
theorem qoC (h338:L.fns 338=some fn338) (a:List (Int × Nat)) (ha:a.length<2 ^ 30) (h:Heap):pcall L 338 [.list (a.map qaQ) none,.list (a.map qaQ) none] h=some (.val (.bool true),h):=by
 have hL:=hR.plain
 refine qaX hL h338 rfl ?_ h
 have hloop:=qez (pure:=L.pure) (call:=call L) (b:=0) (keep:=[0,1,12,13]) (fk:=[4]) (id:=0) (body:=qiv)
  (fun i=>⟨kt [0,1,12,13] [.list (a.map qaQ) none,.list (a.map qaQ) none,.int .i64 a.length,.int .i64 i],[]⟩) a.length (T:=⟨kt [4] [.junk],[]⟩) (by
   intro i hi
   obtain⟨h1,h2,h3⟩:=qaN qaQ a ha i hi
   have hdS:=qbB a
   generalize hs:a[i]=s at *
   have hst:qaQ s=.agg [.int .i64 s.1,.int .i64 s.2,.int .i64 0]:=rfl
   rw[hst] at h3
   unfold qiv
   simp -implicitDefEqProofs only[ev_,aOp,opd,qaa,qau,qat,aEq,qcD,qad,qab,qaf,qaL,qav,ren,renC,qa3,qbd,qaC,↓reduceIte,reduceCtorEq,Nat.reduceEqDiff,Nat.reduceAdd,h1,h2,h3,hdS]) (by
   have h0:=qaO a.length
   unfold qiv
   simp -implicitDefEqProofs only[ev_,aOp,opd,qaa,qau,qat,qab,gcE,qav,ren,renC,qa3,qbd,↓reduceIte,reduceCtorEq,Nat.reduceEqDiff,h0])
 simp only[Int.natCast_zero] at hloop
 have hdS:=qbB a
 unfold fn338
 simp -implicitDefEqProofs only[ev_,aOp,opd,qaa,qau,qbc,qat,qab,qan,qac,qae,qaj,qav,ren,renC,qa3,qbd,↓reduceIte,reduceCtorEq,Nat.reduceEqDiff,qak,hloop,hdS,bne]
end
def growS (args:List AVal) (h:Heap):Option (ARes × Heap) :=
 match args with
 | [.list [] (some none),.int .i64 n] =>
   if n=0 then some (.val (.list [] (some none)),h)
   else if 0<n∧n<1073741824 then some (.val (.list [] (some (some h.length))),h++[.tail 0 3]) else none
 | _=>none
section
variable {L:Lib} (hR:RLib L)
include hR
theorem qro (h339:L.fns 339=some fn339) (hgrow:∀ a h r,growS a h=some r→call L 345 a h=some r) (a b:List (Int × Nat)) (hab:a.length+b.length<1073741824) (h:Heap) :
  pcall L 339 [.list [.list (a.map qaQ) none,.list (b.map qaQ) none] none] h=some (.val (.list ((a++b).map qaQ) none),h):=by
 have hL:=hR.plain
 have hp:=hL.pure
 have hdA:=qbB a
 have hdB:=qbB b
 have hdC:=qbB (a++b)
 have hallA:=qiO a
 have hallB:=qiO b
 refine qaX hL h339 (by rw[qaY];exact hdC) ?_ h
 have w1:IntKind.i64.wrap (0+(a.length:Int))=(a.length:Int):=by rw[qbN (by omega) (by omega)];omega
 have w2:IntKind.i64.wrap ((a.length:Int)+(b.length:Int))=((a.length+b.length:Nat):Int):=by rw[qbN (by omega) (by omega)];omega
 have n1:¬ ((a.length:Int)<0):=by omega
 have n2:¬ (((a.length+b.length:Nat):Int)<0):=by omega
 have e1:IntKind.i64.wrap 1=1:=rfl
 have e2:IntKind.i64.wrap 2=2:=rfl
 have hl0:qa5 L.pure (call L) 0 [1000000,0,3,9,10,11] [1000000,0,3] 0 qgT
   ⟨kt [0,3,9,10,11] [.list [.list (a.map qaQ) none,.list (b.map qaQ) none] none,.int .i64 0,.list [.list (a.map qaQ) none,.list (b.map qaQ) none] none,.int .i64 2,.int .i64 0],[]⟩ =
   some (.normal,⟨kt [0,3] [.list [.list (a.map qaQ) none,.list (b.map qaQ) none] none,.int .i64 ((a.length+b.length:Nat):Int)],[]⟩):=by
  refine (qbW (s1:=⟨kt [0,3,9,10,11] [.list [.list (a.map qaQ) none,.list (b.map qaQ) none] none,.int .i64 (a.length:Int),.list [.list (a.map qaQ) none,.list (b.map qaQ) none] none,.int .i64 2,.int .i64 1],[]⟩) ?_).trans ?_
  ·unfold qgT
   simp -implicitDefEqProofs only[ev_,aOp,opd,qaa,qau,qbc,qat,qad,qab,qag,↓reduceIte,reduceCtorEq,Nat.reduceEqDiff,Int.reduceToNat,Int.reduceLT,Int.reduceAdd,Int.le_refl,w1,n1,e1]
  refine (qbW (s1:=⟨kt [0,3,9,10,11] [.list [.list (a.map qaQ) none,.list (b.map qaQ) none] none,.int .i64 ((a.length+b.length:Nat):Int),.list [.list (a.map qaQ) none,.list (b.map qaQ) none] none,.int .i64 2,.int .i64 2],[]⟩) ?_).trans ?_
  ·unfold qgT
   simp -implicitDefEqProofs only[ev_,aOp,opd,qaa,qau,qbc,qat,qad,qab,qag,↓reduceIte,reduceCtorEq,Nat.reduceEqDiff,Int.reduceToNat,Int.reduceLE,Int.reduceLT,Int.reduceAdd,w2,n2,e2]
  refine qbV ?_
  unfold qgT
  simp -implicitDefEqProofs only[ev_,aOp,opd,qaa,qau,qat,qab,gcE,↓reduceIte,reduceCtorEq,Nat.reduceEqDiff,Int.reduceLT]
 obtain⟨own,H,hg,ho⟩:∃ own H,call L 345 [.list [] (some none),.int .i64 ((a.length+b.length:Nat):Int)] []=some (.val (.list [] own),H)∧OwnT H own 0 3:=by
  by_cases hz:a.length+b.length=0
  ·refine⟨some none,[],hgrow _ _ _ ?_,.inl rfl⟩
   unfold growS
   dsimp only
   rw[hz]
   rfl
  ·refine⟨some (some 0),[.tail 0 3],hgrow _ _ _ ?_,.inr ⟨0,rfl,rfl⟩⟩
   unfold growS
   dsimp only
   rw[if_neg (by omega),if_pos (by omega)]
   rfl
 obtain⟨own1,H1,ha1,hA1⟩:=qda H 3 24 [] (a.map qaQ) own none ho rfl hallA (by simp;omega)
 rw[List.length_nil,Nat.zero_add,List.length_map] at hA1
 rw[List.nil_append] at ha1
 obtain⟨own2,H2,ha2,hA2⟩:=qda H1 3 24 (a.map qaQ) (b.map qaQ) own1 none (by rw[List.length_map];exact hA1.owns) hallA hallB (by simp;omega)
 rw[← List.map_append] at ha2
 have hl1:qa5 L.pure (call L) H.length [1000000,6,25,26,27] [1000000,6] 2 qgU
   ⟨kt [6,25,26,27] [.list [] own,.list [.list (a.map qaQ) none,.list (b.map qaQ) none] none,.int .i64 2,.int .i64 0],H⟩ =
   some (.normal,⟨kt [6] [.list ((a++b).map qaQ) own2],H2⟩):=by
  refine (qbW (s1:=⟨kt [6,25,26,27] [.list (a.map qaQ) own1,.list [.list (a.map qaQ) none,.list (b.map qaQ) none] none,.int .i64 2,.int .i64 1],H1⟩) ?_).trans ?_
  ·unfold qgU
   simp -implicitDefEqProofs only[ev_,aOp,opd,qaa,qau,qat,qad,qab,qag,↓reduceIte,Nat.reduceEqDiff,Int.reduceToNat,Int.reduceLT,Int.reduceAdd,Int.le_refl,ha1,e1]
  refine (qbW (s1:=⟨kt [6,25,26,27] [.list ((a++b).map qaQ) own2,.list [.list (a.map qaQ) none,.list (b.map qaQ) none] none,.int .i64 2,.int .i64 2],H2⟩) ?_).trans ?_
  ·unfold qgU
   simp -implicitDefEqProofs only[ev_,aOp,opd,qaa,qau,qat,qad,qab,qag,↓reduceIte,Nat.reduceEqDiff,Int.reduceToNat,Int.reduceLE,Int.reduceLT,Int.reduceAdd,ha2,e2]
  refine qbV ?_
  unfold qgU
  simp -implicitDefEqProofs only[ev_,aOp,opd,qaa,qau,qat,qab,gcE,↓reduceIte,Nat.reduceEqDiff,Int.reduceLT]
 generalize (a++b).map qaQ=C at *
 unfold fn339
 simp -implicitDefEqProofs only[ev_,aOp,opd,qaa,qbc,qan,qac,qae,qaj,↓reduceIte,reduceCtorEq,Nat.reduceEqDiff,Nat.reduceAdd,qak,hl0,hl1,hg,hdC]
theorem qif (hC:CLib2 L) (hnext:∀ (e:List CExpr) (h:Heap),Norm e→pcall L 334 [.list (e.map qal) none] h=some (.val (qlI e),h)) (hgrow:∀ a h r,growS a h=some r→call L 345 a h=some r) (h332:L.fns 332=some fn332) (h328:L.fns 328=some fn328) (h338:L.fns 338=some fn338) (h339:L.fns 339=some fn339) (hfact:∀ h:Heap,pcall L 333 [] h=some (.val (.bool true),h)) (e:List CExpr) (hl:e.length<2 ^ 30) (hf:∀ x∈e,NodeFit x)
  (a b:Int) (ha : -9223372036854775808≤a∧a<9223372036854775808) (hb : -9223372036854775808≤b∧b<9223372036854775808) (h:Heap) :
  pcall L 328 [.list (e.map qal) none,.int .i64 a,.int .i64 b] h=some (.val (.bool true),h):=by
 have hL:=hR.plain
 have hp:=hL.pure
 have hdE:=qaJ e
 obtain⟨m,m1,m2⟩:=qyh a 20 ha (by decide)
 obtain⟨n,n1,n2⟩:=qyh b 20 hb (by decide)
 have hw:IntKind.i64.wrap ((m:Int)+(n:Int))=((m+n:Nat):Int):=by rw[qbN (by omega) (by omega)];omega
 have hr1:=qhz hR hnext h332 e hl hf (m:Int)
 have hr3:=qhz hR hnext h332 e hl hf ((m+n:Nat):Int)
 refine qaX hL h328 rfl ?_ h
 by_cases hz:qaR e=0
 case neg =>
  have hne:(qaR e==0)=false:=by simpa using hz
  rw[quW hz] at hr1
  generalize qaR e=r at *
  unfold fn328
  simp -implicitDefEqProofs only[ev_,aOp,opd,qaa,qau,qat,qab,qan,qac,qae,qaj,↓reduceIte,reduceCtorEq,Nat.reduceEqDiff,Int.reduceEq,gt_iff_lt,qar,qak,qdR,hfact,m1,n1,hr1,hne,hdE,qam L hp,hp,List.map_nil,bne]
 rw[qsS hz _ (by omega)] at hr1 hr3
 have hN:=qlJ m (qm3 hz hf)
 have hBl:(qed m (qa6 (qbn e))).1.length<2 ^ 30:=by have:=(qby hN.ok).2.1;omega
 have hr2:=qhz hR hnext h332 (qed m (qa6 (qbn e))).1 hBl hN.fit (n:Int)
 rw[qsS hN.ok _ (by omega),hN.list] at hr2
 have hadd:=qpF m n (qa6 (qbn e))
 have hlen:=qlW m (qa6 (qbn e))
 rw[hadd] at hr3
 dsimp only at hr3
 have hdB:=qaJ (qed m (qa6 (qbn e))).1
 have hdS:=qbB (qed m (qa6 (qbn e))).2
 have hNA:=qlJ n hN
 generalize (qed m (qa6 (qbn e))).2=l at *
 generalize (qed m (qa6 (qbn e))).1=B at *
 have hAl:(qed n B).1.length<2 ^ 30:=by have:=(qby hNA.ok).2.1;omega
 have hdA:=qaJ (qed n B).1
 have hsl:=qoB hC (qed n B).1 hAl hNA.fit
 have hlen2:=qlW n B
 generalize (qed n B).1=A at *
 generalize (qed n B).2=q at *
 have hdQ:=qbB q
 have hdT:=qbB (l++q)
 have hcc:=qro hR h339 hgrow l q (by omega)
 have hse:=qoC hR h338 (l++q) (by rw[List.length_append];omega)
 generalize l++q=p at *
 unfold fn328
 simp -implicitDefEqProofs only[ev_,aOp,opd,qaa,qau,qat,qab,qaf,leaf,qan,qac,qae,qaj,↓reduceIte,reduceCtorEq,Nat.reduceEqDiff,Int.reduceEq,gt_iff_lt,qar,qak,qdR,hfact,m1,n1,hw,hr1,hr2,hr3,hcc,hsl,hse,hdE,hdA,hdB,hdS,hdQ,hdT,qam L hp,hp,bne]
end
end Go.Abs
