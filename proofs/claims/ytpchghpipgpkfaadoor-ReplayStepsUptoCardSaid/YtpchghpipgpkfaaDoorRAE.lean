/-
  PARTS OF A PROOF, joined: an abstract machine for quiet code, its evaluation, and what the seat's functions answer on it. Conditions: none.
-/
import Derived.Test.YtpchghpipgpkfaaDoorRAA
import Derived.Test.YtpchghpipgpkfaaDoorD
set_option linter.unusedVariables false
set_option linter.unusedSimpArgs false
set_option maxRecDepth 100000
set_option maxHeartbeats 8000000
namespace Go.Abs
def qco (s:Int × Nat):AVal:=.agg [.int .i64 s.1,.int .i64 s.2,.int .i64 0]
theorem qcD (l:List (Int × Nat)):qaw (l.map qco)=true:=qc1 qco (fun _=>rfl) l
theorem qry (l:List (Int × Nat)):((l.map qco).all fun v=>decide ((acells v).length=3))=true:=by
 rw[List.all_eq_true]
 intro v hv
 obtain⟨q,_,rfl⟩:=List.mem_map.1 hv
 rfl
def ql5 (e:List CExpr):AVal :=
 match qhU e with
 | some s=>.tuple [qco s,.bool true,.int .i64 0]
 | none=>.tuple [.agg [.int .i64 0,.int .i64 0,.int .i64 0],.bool false,.int .i64 0]
def rs (bud:Int) (e:List CExpr) (l:List (Int × Nat)):St:=⟨kt [1,8,9] [.int .i64 bud,.list (e.map qam) none,.list (l.map qco) (qck 0 l.length)],qbx 3 l.length⟩
def rt (e:List CExpr) (l:List (Int × Nat)):St:=⟨kt [8,9] [.list (e.map qam) none,.list (l.map qco) (qck 0 l.length)],qbx 3 l.length⟩
section
variable {L:Lib} (hR:RLib L)
include hR
theorem qv1 (hnext:∀ (e:List CExpr) (h:Heap),Norm e→pcall L 334 [.list (e.map qam) none] h=some (.val (ql5 e),h)):∀ (k:Nat) (e:List CExpr) (l:List (Int × Nat)),Norm e→l.length+k<2 ^ 30 →
  qa6 L.pure (call L) 0 [1,8,9] [8,9] 0 qdd (rs ((l.length+k:Nat):Int) e l)=some (.normal,rt (qea k e).1 (l++(qea k e).2))
 | 0,e,l,hN,hb => by
   have hp:=hR.plain.pure
   have hdE:=qaz e
   have hdL:=qcD l
   refine qch ?_
   rw[qea,List.append_nil,Nat.add_zero]
   have hlt:((l.length:Int)<l.length)=False:=by simp
   unfold rs rt
   by_cases hz:l=[]
   ·subst hz
    unfold qdd
    simp -implicitDefEqProofs only[ev_,aOp,opd,qaa,qay,qbb,qax,qab,gcE,qav,ren,renC,qa1,qba,↓reduceIte,Nat.reduceEqDiff,Int.reduceLT,qck,qbx,hdE,hlt]
   ·obtain⟨q,hq⟩:∃ q,l.length=q+1:=⟨l.length-1,by have:=List.length_pos_iff.2 hz;omega⟩
    have h1:qck 0 l.length=some (some 0):=by rw[hq];rfl
    have h2:qbx 3 l.length=[.tail l.length 3]:=by rw[hq];rfl
    rw[h1,h2]
    unfold qdd
    simp -implicitDefEqProofs only[ev_,aOp,opd,qaa,qay,qbb,qax,qab,gcE,qav,ren,renC,qa1,qba,↓reduceIte,Nat.reduceEqDiff,Nat.reduceLT,hdE,hdL,hlt]
 | k + 1,e,l,hN,hb => by
   have hL:=hR.plain
   have hp:=hL.pure
   have hdE:=qaz e
   have hdL:=qcD l
   have hlt:((l.length:Int)<((l.length+(k+1):Nat):Int))=True:=by simp;omega
   have hnx:=fun h=>hnext e h hN
   have hel:e.length<2 ^ 30:=by have:=(qbq hN.ok).2.1;omega
   rw[qea]
   cases hs:qhU e with
   | none =>
     dsimp only
     unfold ql5 at hnx
     rw[hs] at hnx
     dsimp only at hnx
     refine qch ?_
     rw[List.append_nil]
     unfold rs rt
     generalize ((l.length+(k+1):Nat):Int)=bud at *
     by_cases hz:l=[]
     ·subst hz
      simp only[List.length_nil,Int.natCast_zero] at hlt
      unfold qdd
      simp -implicitDefEqProofs only[ev_,aOp,opd,qaa,qas,qay,qbb,qax,aUn,qab,qaN,leaf,qap,gcE,qav,ren,renC,qa1,qba,↓reduceIte,reduceCtorEq,Nat.reduceEqDiff,Nat.reduceAdd,qat,qck,qbx,hdE,hlt,hnx,qal L hp,hp,Int.natCast_zero]
     ·obtain⟨q,hq⟩:∃ q,l.length=q+1:=⟨l.length-1,by have:=List.length_pos_iff.2 hz;omega⟩
      have h1:qck 0 l.length=some (some 0):=by rw[hq];rfl
      have h2:qbx 3 l.length=[.tail l.length 3]:=by rw[hq];rfl
      rw[h1,h2]
      unfold qdd
      simp -implicitDefEqProofs only[ev_,aOp,opd,qaa,qas,qay,qbb,qax,aUn,qab,qaN,leaf,qap,gcE,qav,ren,renC,qa1,qba,↓reduceIte,reduceCtorEq,Nat.reduceEqDiff,Nat.reduceAdd,Nat.reduceLT,qat,hdE,hdL,hlt,hnx,qal L hp,hp]
   | some s =>
     obtain⟨r,i⟩:=s
     dsimp only
     unfold ql5 at hnx
     rw[hs] at hnx
     dsimp only[qco] at hnx
     obtain⟨s1,s2,s3⟩:=qge hs
     have ho:=qj3 s1
     have hap:=fun h=>qpg hR e hel hN.fit r i 0 ⟨ho.2.2.1,ho.2.2.2⟩ h
     have hdF:=qaz (qbs e r i 0).1
     by_cases hc:(qbs e r i 0).2=0
     ·rw[if_pos hc]
      have hnorm:=qhV hN s2 hc
      rw[hc] at hap
      have ih:=qv1 hnext k (qbs e r i 0).1 (l++[(r,i)]) hnorm (by simp;omega)
      have hbe:(((l++[(r,i)]).length+k:Nat):Int)=((l.length+(k+1):Nat):Int):=by simp;omega
      rw[hbe] at ih
      dsimp only
      rw[List.append_assoc] at ih
      refine (qc3 ?_).trans ih
      unfold rs
      generalize ((l.length+(k+1):Nat):Int)=bud at *
      generalize (qbs e r i 0).1=F at *
      have hall:=qry l
      have hlen:l.length+1≤1073741824:=by omega
      rw[List.map_append,List.length_append]
      by_cases hz:l=[]
      ·subst hz
       simp only[List.length_nil,Int.natCast_zero] at hlt
       unfold qdd
       simp -implicitDefEqProofs only[ev_,aOp,opd,qaa,qas,qay,qbb,qax,aUn,qab,qaN,qaQ,leaf,qap,qav,ren,renC,qa1,qba,qbi,↓reduceIte,Nat.reduceEqDiff,Nat.reduceAdd,Nat.reduceLT,Nat.reduceLeDiff,Int.reduceBNe,qat,qck,qbx,qco,hdE,hdF,hlt,hnx,hap,qal L hp,hp,Int.natCast_zero]
      ·obtain⟨q,hq⟩:∃ q,l.length=q+1:=⟨l.length-1,by have:=List.length_pos_iff.2 hz;omega⟩
       have h1:qck 0 l.length=some (some 0):=by rw[hq];rfl
       have h2:qbx 3 l.length=[.tail l.length 3]:=by rw[hq];rfl
       have h3:qck 0 (l.length+[(r,i)].length)=some (some 0):=by rw[hq];rfl
       have h4:qbx 3 (l.length+[(r,i)].length)=[.tail (l.length+1) 3]:=by rw[hq];rfl
       rw[h1,h2,h3,h4]
       unfold qdd
       simp -implicitDefEqProofs only[ev_,aOp,opd,qaa,qas,qay,qbb,qax,aUn,qab,qaN,qaQ,leaf,qap,qav,ren,renC,qa1,qba,qbi,↓reduceIte,Nat.reduceEqDiff,Nat.reduceAdd,Nat.reduceLT,Int.reduceBNe,qat,qco,hdE,hdF,hdL,hall,hlen,hlt,hnx,hap,qal L hp,hp]
     ·rw[if_neg hc]
      have hcb:((qbs e r i 0).2==0)=false:=by simpa using hc
      refine qch ?_
      rw[List.append_nil]
      unfold rs rt
      generalize ((l.length+(k+1):Nat):Int)=bud at *
      generalize (qbs e r i 0).1=F at *
      generalize (qbs e r i 0).2=g at *
      by_cases hz:l=[]
      ·subst hz
       simp only[List.length_nil,Int.natCast_zero] at hlt
       unfold qdd
       simp -implicitDefEqProofs only[ev_,aOp,opd,qaa,qas,qay,qbb,qax,aUn,qab,qaN,qaQ,leaf,qap,gcE,qav,ren,renC,qa1,qba,↓reduceIte,reduceCtorEq,Nat.reduceEqDiff,Nat.reduceAdd,qat,qck,qbx,hdE,hdF,hlt,hnx,hap,hcb,bne,qal L hp,hp,Int.natCast_zero]
      ·obtain⟨q,hq⟩:∃ q,l.length=q+1:=⟨l.length-1,by have:=List.length_pos_iff.2 hz;omega⟩
       have h1:qck 0 l.length=some (some 0):=by rw[hq];rfl
       have h2:qbx 3 l.length=[.tail l.length 3]:=by rw[hq];rfl
       rw[h1,h2]
       unfold qdd
       simp -implicitDefEqProofs only[ev_,aOp,opd,qaa,qas,qay,qbb,qax,aUn,qab,qaN,qaQ,leaf,qap,gcE,qav,ren,renC,qa1,qba,↓reduceIte,reduceCtorEq,Nat.reduceEqDiff,Nat.reduceAdd,Nat.reduceLT,qat,hdE,hdF,hdL,hlt,hnx,hap,hcb,bne,qal L hp,hp]
def qv0 (e:List CExpr) (bud:Int):AVal :=
 if qaL e=0 then (if bud<0∨500<bud then .tuple [.list [] none,.list [] none,.int .i64 4]
  else .tuple [.list ((qea bud.toNat (qaU (qa0 e))).1.map qam) none,.list ((qea bud.toNat (qaU (qa0 e))).2.map qco) none,.int .i64 0])
 else .tuple [.list [] none,.list [] none,.int .i64 (qaL e)]
theorem qrb (hnext:∀ (e:List CExpr) (h:Heap),Norm e→pcall L 334 [.list (e.map qam) none] h=some (.val (ql5 e),h)) (h332:L.fns 332=some fn332) (e:List CExpr) (hl:e.length<2 ^ 30) (hf:∀ x∈e,NodeFit x) (bud:Int) (h:Heap) :
  pcall L 332 [.list (e.map qam) none,.int .i64 bud] h=some (.val (qv0 e bud),h):=by
 have hL:=hR.plain
 have hp:=hL.pure
 have hdE:=qaz e
 have hck:=qdx hR.toCLib e hl hf
 have hdv:qaC (qv0 e bud)=true:=by
  unfold qv0
  split
  ·split
   ·rfl
   ·simp only[qio,qim,qjO,qaV,qaz,qcD,qk5,Bool.and_true]
  ·rfl
 refine qaY hL h332 hdv ?_ h
 unfold qv0
 by_cases hz:qaL e=0
 case neg =>
  have hne:(qaL e==0)=false:=by simpa using hz
  rw[if_neg hz]
  generalize qaL e=r at *
  unfold fn332
  simp -implicitDefEqProofs only[ev_,aOp,opd,qaa,qay,qax,qab,qao,qac,qae,qaj,↓reduceIte,reduceCtorEq,Nat.reduceEqDiff,qat,qak,hck,hne,hdE,bne,qal L hp,hp]
 rw[if_pos hz]
 rw[hz] at hck
 by_cases hneg:bud<0
 ·rw[if_pos (.inl hneg)]
  have b1:(bud<0)=True:=by simpa using hneg
  unfold fn332
  simp -implicitDefEqProofs only[ev_,aOp,opd,qaa,qay,qax,qab,qaf,qao,qac,qae,qaj,↓reduceIte,reduceCtorEq,Nat.reduceEqDiff,qat,qak,hck,b1,hdE,bne,qal L hp,hp]
 by_cases hbig:500<bud
 ·rw[if_pos (.inr hbig)]
  have b1:(bud<0)=False:=by simpa using hneg
  have b2:(500<bud)=True:=by simpa using hbig
  unfold fn332
  simp -implicitDefEqProofs only[ev_,aOp,opd,qaa,qay,qax,qab,qaf,qao,qac,qae,qaj,↓reduceIte,reduceCtorEq,Nat.reduceEqDiff,gt_iff_lt,qat,qak,hck,b1,b2,hdE,bne,qal L hp,hp]
 rw[if_neg (by omega)]
 have b1:(bud<0)=False:=by simpa using hneg
 have b2:(500<bud)=False:=by simpa using hbig
 obtain⟨hT,hn4,hh,hlab,_⟩:=qbq hz
 obtain⟨hft,hsz⟩:=qef hz hf
 have hgr:=fun h=>hR.grow e h hl hf hT (by omega)
 have hli:=hR.list (qa0 e) hft (by omega)
 obtain⟨tc,htc,hdt⟩:=qbu (qa0 e)
 rw[htc] at hgr hli
 have hl0:=qv1 hR hnext bud.toNat (qaU (qa0 e)) [] (qjZ hz hf) (by simp;omega)
 have hbe:((([]:List (Int × Nat)).length+bud.toNat:Nat):Int)=bud:=by simp;omega
 rw[hbe,List.nil_append] at hl0
 have hdG:=qaz (qaU (qa0 e))
 have hdF:=qaz (qea bud.toNat (qaU (qa0 e))).1
 have hdL:=qcD (qea bud.toNat (qaU (qa0 e))).2
 unfold rs rt at hl0
 generalize (qea bud.toNat (qaU (qa0 e))).1=F at *
 generalize (qea bud.toNat (qaU (qa0 e))).2=l at *
 generalize qaU (qa0 e)=G at *
 by_cases hq0:l=[]
 ·subst hq0
  simp only[List.length_nil,List.map_nil,qck,qbx] at hl0
  unfold fn332
  simp -implicitDefEqProofs only[ev_,aOp,opd,qaa,qay,qax,qab,qaf,qao,qac,qae,qaj,qav,ren,renC,qa1,qba,↓reduceIte,reduceCtorEq,Nat.reduceEqDiff,gt_iff_lt,qat,qak,hck,b1,b2,hgr,hli,hl0,hdE,hdF,hdG,hdt,bne,qbI,qal L hp,hp]
 ·obtain⟨q,hq⟩:∃ q,l.length=q+1:=⟨l.length-1,by have:=List.length_pos_iff.2 hq0;omega⟩
  have h1:qck 0 l.length=some (some 0):=by rw[hq];rfl
  have h2:qbx 3 l.length=[.tail l.length 3]:=by rw[hq];rfl
  rw[h1,h2] at hl0
  simp only[List.length_nil,List.map_nil,qck,qbx] at hl0
  unfold fn332
  simp -implicitDefEqProofs only[ev_,aOp,opd,qaa,qay,qax,qab,qaf,qao,qac,qae,qaj,qav,ren,renC,qa1,qba,↓reduceIte,reduceCtorEq,Nat.reduceEqDiff,gt_iff_lt,qat,qak,hck,b1,b2,hgr,hli,hl0,hdE,hdF,hdG,hdL,hdt,bne,qbI,qal L hp,hp]
end
theorem qlp:∀ (k:Nat) (e:List CExpr),∀ s∈(qea k e).2,s.1≠10∧s.1≠12
 | 0,e,s,h=>by cases h
 | k + 1,e,s,h => by
   rw[qea] at h
   cases hn:qhU e with
   | none=>rw[hn] at h;cases h
   | some p =>
     obtain⟨r,i⟩:=p
     rw[hn] at h
     dsimp only at h
     have ho:=qj3 (qge hn).1
     by_cases hz:(qbs e r i 0).2=0
     ·rw[if_pos hz] at h
      rcases List.mem_cons.1 h with rfl | h
      ·exact⟨ho.2.2.1,ho.2.2.2⟩
      ·exact qlp k _ s h
     ·rw[if_neg hz] at h;cases h
theorem qlu:∀ (k:Nat) {e:List CExpr},Norm e→∀ (m:Nat) (e':List CExpr),qfC ((qea k e).2.take m) e=some e'→Norm e'
 | 0,e,hN,m,e',h => by
   have h:qfC (([]:List (Int × Nat)).take m) e=some e':=h
   rw[List.take_nil] at h
   cases h
   exact hN
 | k + 1,e,hN,m,e',h => by
   rw[qea] at h
   cases hn:qhU e with
   | none =>
     rw[hn] at h
     dsimp only at h
     rw[List.take_nil] at h
     cases h
     exact hN
   | some p =>
     obtain⟨r,i⟩:=p
     rw[hn] at h
     dsimp only at h
     by_cases hz:(qbs e r i 0).2=0
     ·rw[if_pos hz] at h
      dsimp only at h
      cases m with
      | zero =>
        rw[List.take_zero] at h
        cases h
        exact hN
      | succ m =>
        rw[List.take_succ_cons,qfC,if_pos hz] at h
        exact qlu k (qhV hN (qge hn).2.1 hz) m e' h
     ·rw[if_neg hz] at h
      dsimp only at h
      rw[List.take_nil] at h
      cases h
      exact hN
section
variable {L:Lib} (hR:RLib L)
include hR
theorem qnD (f:List CExpr) (l:List (Int × Nat)) (hl:l.length<2 ^ 30) (hs:∀ s∈l,s.1≠10∧s.1≠12) (R:List CExpr):∀ (k j:Nat) (e:List CExpr),j+k=l.length→qaL e=0→(∀ x∈e,NodeFit x)→(∀ m e',m≤l.length-j→qfC ((l.drop j).take m) e=some e'→qaL e'=0∧∀ x∈e',NodeFit x)→qfC (l.drop j) e=some R →
  qa6 L.pure (call L) 0 [0,1,29,30,31] [0,1,6] 0 qiT ⟨kt [0,1,29,30,31] [.list (e.map qam) none,.list (f.map qam) none,.list (l.map qco) none,.int .i64 l.length,.int .i64 (j:Int)],[]⟩ =
   some (.normal,⟨kt [0,1,6] [.list (R.map qam) none,.list (f.map qam) none,.junk],[]⟩)
 | 0,j,e,hj,hz,hf,hall,h => by
   have hdE:=qaz e
   have hdF:=qaz f
   have hdL:=qcD l
   have hjl:l.drop j=[]:=List.drop_eq_nil_of_le (by omega)
   rw[hjl] at h
   have h:some e=some R:=h
   cases h
   have hj':j=l.length:=by omega
   subst hj'
   have h0:=qaS l.length
   refine qch ?_
   unfold qiT
   simp -implicitDefEqProofs only[ev_,aOp,opd,qaa,qay,qax,qab,gcE,qav,ren,renC,qa1,qba,↓reduceIte,reduceCtorEq,Nat.reduceEqDiff,h0,hdE,hdF,hdL]
 | k + 1,j,e,hj,hz,hf,hall,h => by
   have hL:=hR.plain
   have hp:=hL.pure
   have hjl:j<l.length:=by omega
   obtain⟨h1,h2,h3⟩:=qaR qco l hl j hjl
   have hd:l.drop j=l[j]::l.drop (j+1):=List.drop_eq_getElem_cons hjl
   have hr:=hs l[j] (List.getElem_mem hjl)
   rw[hd] at h
   generalize hsj:l[j]=s at *
   obtain⟨r,i⟩:=s
   rw[qfC] at h
   by_cases hc:(qbs e r i 0).2=0
   case neg=>rw[if_neg hc] at h;cases h
   rw[if_pos hc] at h
   have hel:e.length<2 ^ 30:=by have:=(qbq hz).2.1;omega
   have hap:=fun h=>qpg hR e hel hf r i 0 ⟨hr.1,hr.2⟩ h
   rw[hc] at hap
   have hnx:=hall 1 (qbs e r i 0).1 (by omega) (by rw[hd,List.take_succ_cons,List.take_zero,qfC,if_pos hc];rfl)
   have ih:=qnD f l hl hs R k (j+1) (qbs e r i 0).1 (by omega) hnx.1 hnx.2 (fun m e' hm hst=>hall (m+1) e' (by omega) (by rw[hd,List.take_succ_cons,qfC,if_pos hc];exact hst)) h
   refine (qc3 ?_).trans ih
   have hdE:=qaz e
   have hdF:=qaz f
   have hdL:=qcD l
   have hdG:=qaz (qbs e r i 0).1
   generalize (qbs e r i 0).1=G at *
   have hst:qco (r,i)=.agg [.int .i64 r,.int .i64 i,.int .i64 0]:=rfl
   unfold qiT
   simp -implicitDefEqProofs only[ev_,aOp,opd,qaa,qas,qay,qax,qad,qab,qaN,qaQ,leaf,qap,qav,ren,renC,qa1,qba,↓reduceIte,reduceCtorEq,Nat.reduceEqDiff,Nat.reduceAdd,qat,h1,h2,h3,hsj,hst,hap,hdE,hdF,hdG,hdL,bne,qal L hp,hp]
theorem qgv (hC:CLib2 L) (h279:L.fns 279=some fn279) (e f:List CExpr) (hl:e.length<2 ^ 30) (hf:∀ x∈e,NodeFit x) (hz:qaL e=0) (hl2:f.length<2 ^ 30) (hf2:∀ x∈f,NodeFit x) (hz2:qaL f=0) (k:Nat) (hk:k≤500) (h:Heap) :
  pcall L 279 [.list (e.map qam) none,.list (f.map qam) none,.list ((qea k (qaU (qa0 e))).2.map qco) none] h=some (.val (.int .i64 (if qgw (qea k (qaU (qa0 e))).1 f=true then 0 else 14)),h):=by
 have hL:=hR.plain
 have hp:=hL.pure
 have hdE:=qaz e
 have hdF:=qaz f
 have hck:=qdx hR.toCLib e hl hf
 have hck2:=qdx hR.toCLib f hl2 hf2
 refine qaY hL h279 rfl ?_ h
 rw[hz] at hck
 rw[hz2] at hck2
 obtain⟨hT,hn4,hh,hlab,_⟩:=qbq hz
 obtain⟨hft,hsz⟩:=qef hz hf
 have hgr:=fun h=>hR.grow e h hl hf hT (by omega)
 have hli:=hR.list (qa0 e) hft (by omega)
 obtain⟨tc,htc,hdt⟩:=qbu (qa0 e)
 rw[htc] at hgr hli
 have hN:=qjZ hz hf
 have hrl:=qmj k (qaU (qa0 e))
 have hst:=qlq k (qaU (qa0 e))
 have hNR:=ql6 k hN
 have hsm:=qq7 hC (qea k (qaU (qa0 e))).1 f (by have:=(qbq hNR.ok).2.1;omega) hNR.fit hl2 hf2
 have hl0:=qnD hR f (qea k (qaU (qa0 e))).2 (by omega) (qlp k _) (qea k (qaU (qa0 e))).1 (qea k (qaU (qa0 e))).2.length 0 (qaU (qa0 e)) (by omega) hN.ok hN.fit
  (fun m e' _ hs=>by
   rw[List.drop_zero] at hs
   have:=qlu k hN m e' hs
   exact⟨this.ok,this.fit⟩) (by rw[List.drop_zero];exact hst)
 simp only[Int.natCast_zero] at hl0
 have hdG:=qaz (qaU (qa0 e))
 have hdR:=qaz (qea k (qaU (qa0 e))).1
 have hdS:=qcD (qea k (qaU (qa0 e))).2
 have hbig:(2000<(((qea k (qaU (qa0 e))).2.length:Nat):Int))=False:=by simp;omega
 generalize (qea k (qaU (qa0 e))).2=l at *
 generalize (qea k (qaU (qa0 e))).1=R at *
 generalize qaU (qa0 e)=G at *
 cases hb:qgw R f with
 | true =>
   rw[hb] at hsm
   rw[if_pos rfl]
   unfold fn279
   simp -implicitDefEqProofs only[ev_,aOp,opd,qaa,qay,qbb,qax,aUn,qab,qao,qac,qae,qaj,qav,ren,renC,qa1,qba,↓reduceIte,reduceCtorEq,Nat.reduceEqDiff,gt_iff_lt,qat,qak,hck,hck2,hgr,hli,hl0,hsm,hbig,hdE,hdF,hdG,hdR,hdS,hdt,bne,qbI,qal L hp,hp]
 | false =>
   rw[hb] at hsm
   rw[if_neg (by decide)]
   unfold fn279
   simp -implicitDefEqProofs only[ev_,aOp,opd,qaa,qay,qbb,qax,aUn,qab,qao,qac,qae,qaj,qav,ren,renC,qa1,qba,↓reduceIte,reduceCtorEq,Nat.reduceEqDiff,gt_iff_lt,qat,qak,hck,hck2,hgr,hli,hl0,hsm,hbig,hdE,hdF,hdG,hdR,hdS,hdt,bne,qbI,qal L hp,hp]
end
theorem qjB {α β:Type} {f:α→Option β}:∀ {l:List α} {j:Nat} (hj:j<l.length) (hn:∀ k (hk:k<l.length),k<j→f l[k]=none) {b:β} (hb:f l[j]=some b),l.findSome? f=some b
 | x :: l,0,_,_,b,hb => by
   have hb:f x=some b:=hb
   rw[List.findSome?_cons,hb]
 | x :: l,j + 1,hj,hn,b,hb => by
   have h0:f x=none:=hn 0 (by simp) (by omega)
   rw[List.findSome?_cons,h0]
   exact qjB (j:=j) (by simpa using hj) (fun k hk hkj=>hn (k+1) (by simpa using hk) (by omega)) hb
theorem qjC {α β:Type} {f:α→Option β}:∀ {l:List α} (hn:∀ k (hk:k<l.length),f l[k]=none),l.findSome? f=none
 | [],_=>rfl
 | x :: l,hn => by
   have h0:f x=none:=hn 0 (by simp)
   rw[List.findSome?_cons,h0]
   exact qjC fun k hk=>hn (k+1) (by simpa using hk)
def Ext (H H':Heap):Prop:=H.length≤H'.length∧∀ i,i<H.length→H'[i]? = H[i]?
theorem Ext.refl (H:Heap):Ext H H:=⟨Nat.le_refl _,fun _ _=>rfl⟩
theorem Ext.trans {A B C:Heap} (h:Ext A B) (k:Ext B C):Ext A C:=⟨Nat.le_trans h.1 k.1,fun i hi=>by rw[k.2 i (by have:=h.1;omega),h.2 i hi]⟩
def orderA:List AVal:=ruleOrder.map fun r=>.int .i64 r
theorem qvh:([.int .i64 3,.int .i64 4,.int .i64 6,.int .i64 7,.int .i64 5,.int .i64 1,.int .i64 2,.int .i64 11,.int .i64 8,.int .i64 9]:List AVal)=orderA:=rfl
theorem qlh:orderA.length=10:=rfl
theorem qj2:orderA.take 10=orderA:=rfl
theorem qsX:ruleOrder.length=10:=rfl
section
variable {L:Lib} (hR:RLib L)
include hR
theorem qxT (h343:L.fns 343=some fn343) (h346:L.fns 346=some fn346) (h347:L.fns 347=some fn347) {b:Nat} (e:List CExpr) (hz:qaL e=0) (hf:∀ x∈e,NodeFit x) (r:Int) (hr:r∈ruleOrder) (H1:Heap) (ps:List Nat) (ow:Option (Option Nat)) (mid:Nat) (x0:List AVal)
  (hm:H1[mid]? = some (.map (encB (ql8 e)))) (hps:ps.length=e.length) (hws:∀ k,k<e.length→WS H1 (fun i=>i<H1.length) (qbp e k) (ps.getD k 0)) (h0:H1[0]? = some (.box [.int .i64 0,.int .i64 0,.int .i64 0])) (j:Nat) (H':Heap) (hx:Ext H1 H') :
  (∃ T,qa6 L.pure (call L) b [1000000,2,6,7,9,22,23,29,30,31] [1000000,2,3,4,6,7,22,23] 2 qd1
    ⟨kt [2,6,7,9,22,23,29,30,31] [.ptr (some (0,0)),.ptr (some (1,0)),.map (some mid),.int .i64 r,.agg orderA,.int .i64 (j:Int),.list (ps.map qaF) ow,.int .i64 (ps.length:Nat),.int .i64 0],H'⟩=some (.normal,T) ∧
    (∃ H2,T=⟨kt [2,3,4,6,7,22,23] [.ptr (some (0,0)),.junk,.junk,.ptr (some (1,0)),.map (some mid),.agg orderA,.int .i64 (j:Int)],H2⟩∧Ext H1 H2∧qdP e r=none)) ∨
  (∃ T,qa6 L.pure (call L) b [1000000,2,6,7,9,22,23,29,30,31] [1000000,2,3,4,6,7,22,23] 2 qd1
    ⟨kt [2,6,7,9,22,23,29,30,31] [.ptr (some (0,0)),.ptr (some (1,0)),.map (some mid),.int .i64 r,.agg orderA,.int .i64 (j:Int),.list (ps.map qaF) ow,.int .i64 (ps.length:Nat),.int .i64 0],H'⟩=some (.ret,T) ∧
    (∃ H2 i,T=⟨kt [2,3,4,6,7,22,23] [.ptr (some (0,0)),.bool true,.int .i64 0,.ptr (some (1,0)),.map (some mid),.agg orderA,.int .i64 (j:Int)],H2⟩∧H2[0]? = some (.box [.int .i64 r,.int .i64 (i:Nat),.int .i64 0])∧qdP e r=some i)):=by
 have hel:e.length<2 ^ 30:=by have:=(qbq hz).2.1;omega
 refine qgN (pure:=L.pure) (call:=call L) (b:=b) (id:=2) (body:=qd1)
  (fun i s=>∃ H2,s=⟨kt [2,6,7,9,22,23,29,30,31] [.ptr (some (0,0)),.ptr (some (1,0)),.map (some mid),.int .i64 r,.agg orderA,.int .i64 (j:Int),.list (ps.map qaF) ow,.int .i64 (ps.length:Nat),.int .i64 (i:Nat)],H2⟩∧Ext H1 H2∧∀ k,k<i→qym r (qud e) (qbp e k)=false) ps.length _ _ ?_ ?_ ?_
 ·intro i s hi hs
  obtain⟨H2,rfl,hE,hno⟩:=hs
  obtain⟨h1,h2,h3⟩:=qaR qaF ps (by omega) i hi
  have hgi:ps.getD i 0=ps[i]:=by rw[List.getD_eq_getElem?_getD,List.getElem?_eq_getElem (by omega)];rfl
  have hw:=(hws i (by omega)).frame' hE.2
  obtain⟨H3,c1,c2,c3⟩:=qyw hR h343 h346 h347 r hr (qbp e i) (qoD hz hf i (by omega)) H2 (fun i=>i<H2.length) (fun i h=>h) (ps.getD i 0) mid (ql8 e) (qud e) (qpY e) (hw.mono fun i hi=>by have:=hE.1;omega) (by rw[hE.2 mid (hlt hm)];exact hm)
  rw[hgi] at c1
  have hE3:Ext H1 H3:=hE.trans ⟨c2,c3⟩
  have hb0:H3[0]? = some (.box [.int .i64 0,.int .i64 0,.int .i64 0]):=by rw[hE3.2 0 (hlt h0)];exact h0
  generalize ps[i]=p at *
  unfold qaF at h3
  obtain⟨q,hr0⟩:∃ q,qa8 L.pure (call L) b [1000000,2,6,7,9,22,23,29,30,31] [1000000,2,3,4,6,7,22,23] qd1
   ⟨kt [2,6,7,9,22,23,29,30,31] [.ptr (some (0,0)),.ptr (some (1,0)),.map (some mid),.int .i64 r,.agg orderA,.int .i64 (j:Int),.list (ps.map qaF) ow,.int .i64 (ps.length:Nat),.int .i64 (i:Nat)],H2⟩=q:=⟨_,rfl⟩
  have hr:=hr0
  unfold qaF at hr
  cases hc:qym r (qud e) (qbp e i) with
  | false =>
    rw[hc] at c1
    unfold qd1 at hr
    simp -implicitDefEqProofs only[ev_,aOp,opd,qaa,qay,qax,qad,qab,qag,↓reduceIte,Nat.reduceEqDiff,h1,h2,h3,c1] at hr
    subst hr
    refine .inl ⟨_,hr0,H3,rfl,hE3,fun k hk=>?_⟩
    by_cases hki:k=i
    ·rw[hki];exact hc
    ·exact hno k (by omega)
  | true =>
    rw[hc] at c1
    unfold qd1 at hr
    simp -implicitDefEqProofs only[ev_,aOp,opd,qaa,qas,qay,qax,qad,qab,qag,qaN,qbS,qcd,leaf,qap,gcE,↓reduceIte,Nat.reduceEqDiff,Nat.reduceAdd,Nat.reduceLeDiff,h1,h2,h3,c1,hb0] at hr
    subst hr
    refine .inr ⟨_,hr0,_,i,rfl,hgs (hlt hb0),?_⟩
    unfold qdP
    rw[List.find?_range_eq_some]
    exact⟨hc,by simp;omega,fun k hk=>by simp[hno k hk]⟩
 ·intro s hs
  obtain⟨H2,rfl,hE,hno⟩:=hs
  have h0:=qaS ps.length
  refine⟨_,?_,H2,rfl,hE,?_⟩
  ·unfold qd1
   simp -implicitDefEqProofs only[ev_,aOp,opd,qaa,qay,qax,qab,gcE,↓reduceIte,Nat.reduceEqDiff,h0]
  ·unfold qdP
   rw[List.find?_range_eq_none]
   intro k hk
   simp[hno k (by omega)]
 ·exact⟨H',rfl,hx,fun k hk=>absurd hk (by omega)⟩
theorem qxU (h343:L.fns 343=some fn343) (h346:L.fns 346=some fn346) (h347:L.fns 347=some fn347) {b:Nat} (e:List CExpr) (hz:qaL e=0) (hf:∀ x∈e,NodeFit x) (H1:Heap) (ps:List Nat) (ow:Option (Option Nat)) (rt:AVal) (mid:Nat)
  (hm:H1[mid]? = some (.map (encB (ql8 e)))) (hps:ps.length=e.length) (hws:∀ k,k<e.length→WS H1 (fun i=>i<H1.length) (qbp e k) (ps.getD k 0)) (h0:H1[0]? = some (.box [.int .i64 0,.int .i64 0,.int .i64 0])) (hw1:H1[1]? = some (.box [.list (ps.map qaF) ow,rt])) :
  (∃ T,qa6 L.pure (call L) b [1000000,2,6,7,22,23] [1000000,2,3,4] 0 qd2
    ⟨kt [2,6,7,22,23] [.ptr (some (0,0)),.ptr (some (1,0)),.map (some mid),.agg orderA,.int .i64 0],H1⟩=some (.normal,T) ∧
    (∃ H2,T=⟨kt [2,3,4] [.ptr (some (0,0)),.junk,.junk],H2⟩∧H2[0]? = some (.box [.int .i64 0,.int .i64 0,.int .i64 0])∧qhU e=none)) ∨
  (∃ T,qa6 L.pure (call L) b [1000000,2,6,7,22,23] [1000000,2,3,4] 0 qd2
    ⟨kt [2,6,7,22,23] [.ptr (some (0,0)),.ptr (some (1,0)),.map (some mid),.agg orderA,.int .i64 0],H1⟩=some (.ret,T) ∧
    (∃ H2 r i,T=⟨kt [2,3,4] [.ptr (some (0,0)),.bool true,.int .i64 0],H2⟩∧H2[0]? = some (.box [.int .i64 r,.int .i64 (i:Nat),.int .i64 0])∧qhU e=some (r,i))):=by
 refine qgN (pure:=L.pure) (call:=call L) (b:=b) (id:=0) (body:=qd2)
  (fun j s=>∃ H2,s=⟨kt [2,6,7,22,23] [.ptr (some (0,0)),.ptr (some (1,0)),.map (some mid),.agg orderA,.int .i64 (j:Nat)],H2⟩∧Ext H1 H2∧∀ k (hk:k<ruleOrder.length),k<j→qdP e ruleOrder[k]=none) ruleOrder.length _ _ ?_ ?_ ?_
 ·intro j s hj hs
  obtain⟨H2,rfl,hE,hno⟩:=hs
  have hj10:j<10:=hj
  have h1:((j:Int)<10)=True:=by simp;omega
  have h2:IntKind.i64.wrap ((j:Int)+1)=((j+1:Nat):Int):=by rw[qbX (by omega) (by omega)];omega
  have h3:orderA[j]? = some (.int .i64 ruleOrder[j]):=by unfold orderA;rw[List.getElem?_map,List.getElem?_eq_getElem hj];rfl
  have hro:ruleOrder[j]∈ruleOrder:=List.getElem_mem hj
  have hw2:H2[1]? = some (.box [.list (ps.map qaF) ow,rt]):=by rw[hE.2 1 (hlt hw1)];exact hw1
  have hin:=fun b=>qxT hR h343 h346 h347 (b:=b) e hz hf ruleOrder[j] hro H1 ps ow mid [] hm hps hws h0 j H2 hE
  have hlm:(ps.map qaF).length=ps.length:=List.length_map _
  obtain⟨q,hr0⟩:∃ q,qa8 L.pure (call L) b [1000000,2,6,7,22,23] [1000000,2,3,4] qd2
   ⟨kt [2,6,7,22,23] [.ptr (some (0,0)),.ptr (some (1,0)),.map (some mid),.agg orderA,.int .i64 (j:Nat)],H2⟩=q:=⟨_,rfl⟩
  have hr:=hr0
  have hin:=hin H2.length
  generalize hrj:ruleOrder[j]=r at *
  generalize hps2:ps.map qaF=pl at *
  rcases hin with ⟨T,t1,H3,rfl,t3,t4⟩ | ⟨T,t1,H3,i,rfl,t3,t4⟩
  ·unfold qd2 at hr
   simp -implicitDefEqProofs only[ev_,aOp,opd,qaa,qay,qbb,qax,qfa,qab,qag,qai,↓reduceIte,Nat.reduceEqDiff,h1,h2,h3,hw2,hlm,t1] at hr
   subst hr
   refine .inl ⟨_,hr0,H3,rfl,t3,fun k hk hkj=>?_⟩
   by_cases hki:k=j
   ·subst hki;exact (congrArg (qdP e) hrj).trans t4
   ·exact hno k hk (by omega)
  ·unfold qd2 at hr
   simp -implicitDefEqProofs only[ev_,aOp,opd,qaa,qay,qbb,qax,qfa,qab,qag,qai,gcE,↓reduceIte,Nat.reduceEqDiff,h1,h2,h3,hw2,hlm,t1] at hr
   subst hr
   refine .inr ⟨_,hr0,H3,r,i,rfl,t3,?_⟩
   unfold qhU
   exact qjB hj (fun k hk hkj=>by rw[hno k hk hkj];rfl) (by
    have h5:qdP e (ruleOrder[j]'hj)=some i:=(congrArg (qdP e) hrj).trans t4
    rw[h5]
    exact congrArg (fun q=>some (q,i)) hrj)
 ·intro s hs
  obtain⟨H2,rfl,hE,hno⟩:=hs
  refine⟨_,?_,H2,rfl,by rw[hE.2 0 (hlt h0)];exact h0,?_⟩
  ·rw[qsX]
   unfold qd2
   simp -implicitDefEqProofs only[ev_,aOp,opd,qaa,qay,qax,qab,gcE,↓reduceIte,Nat.reduceEqDiff,Int.reduceLT]
  ·unfold qhU
   exact qjC fun k hk=>by rw[hno k hk hk];rfl
 ·exact⟨H1,rfl,Ext.refl _,fun k hk hkj=>absurd hkj (by omega)⟩
theorem qxV (h334:L.fns 334=some fn334) (h342:L.fns 342=some fn342) (h343:L.fns 343=some fn343) (h346:L.fns 346=some fn346) (h347:L.fns 347=some fn347) (e:List CExpr) (h:Heap) (hN:Norm e) :
  pcall L 334 [.list (e.map qam) none] h=some (.val (ql5 e),h):=by
 have hL:=hR.plain
 have hp:=hL.pure
 have hz:=hN.ok
 have hf:=hN.fit
 obtain⟨hT,hn4,_⟩:=qbq hz
 have hel:e.length<2 ^ 30:=by omega
 have hdE:=qaz e
 have hck:=qdx hR.toCLib e hel hf
 rw[hz] at hck
 have hdv:qaC (ql5 e)=true:=by
  unfold ql5
  split<;>rfl
 refine qaY hL h334 hdv ?_ h
 obtain⟨H,ps,ow,c1,hO,hke⟩:=qsU hL hR.f293 e hel hT.pos hf hT.ahead [.box [.int .i64 0,.int .i64 0,.int .i64 0]]
 rw[List.length_singleton] at c1 hO hke
 obtain⟨H1,d1,d2,d3⟩:=qkD hL h342 e hel H
 have hE1:Ext H H1:=⟨by have:=hlt d2;omega,d3⟩
 have hps:=hO.len
 have hlow:=hlt hO.work
 have hb0:H1[0]? = some (.box [.int .i64 0,.int .i64 0,.int .i64 0]):=by rw[d3 0 (by omega),hke 0 (by omega)];rfl
 have hw1:H1[1]? = some (.box [.list (ps.map qaF) ow,qaF (ps.getD (e.length-1) 0)]):=by rw[d3 1 (by omega)];exact hO.work
 have hws:∀ k,k<e.length→WS H1 (fun i=>i<H1.length) (qbp e k) (ps.getD k 0):=fun k hk=>((hO.ws hT.ahead k hk).frame' d3).toT
 have hl1:=qxU hR h343 h346 h347 (b:=H1.length) e hz hf H1 ps ow _ H.length d2 hps hws hb0 hw1
 have hoe:=qvh
 unfold qaF at c1
 unfold ql5
 rcases hl1 with ⟨T,t1,H3,rfl,t3,t4⟩ | ⟨T,t1,H3,r,i,rfl,t3,t4⟩
 ·have hl3:=hlt t3
  rw[t4]
  unfold fn334
  simp -implicitDefEqProofs only[ev_,aOp,opd,qaa,qas,qay,qax,qab,qaN,qaQ,qbS,leaf,qap,qao,qac,qae,qaj,↓reduceIte,reduceCtorEq,Nat.reduceEqDiff,Nat.reduceAdd,qat,qak,hck,hdE,c1,d1,hoe,qlh,qj2,t1,t3,bne,hl3,hgs,qal L hp,hp]
 ·rw[t4]
  dsimp only[qco]
  unfold fn334
  simp -implicitDefEqProofs only[ev_,aOp,opd,qaa,qay,qax,qab,qaQ,qao,qac,qae,qaj,↓reduceIte,reduceCtorEq,Nat.reduceEqDiff,Nat.reduceAdd,qat,qak,hck,hdE,c1,d1,hoe,qlh,qj2,t1,t3,bne,qal L hp,hp]
end
theorem qx5 {e:List CExpr} (hz:qaL e=0) (k:Nat) (hk:k≤500):qv0 e (k:Int)=.tuple [.list ((qea k (qaU (qa0 e))).1.map qam) none,.list ((qea k (qaU (qa0 e))).2.map qco) none,.int .i64 0]:=by
 unfold qv0
 rw[if_pos hz,if_neg (by omega),Int.toNat_natCast]
theorem qvt {e:List CExpr} (hz:¬ qaL e=0) (b:Int):qv0 e b=.tuple [.list [] none,.list [] none,.int .i64 (qaL e)]:=by
 unfold qv0
 rw[if_neg hz]
theorem qo0 {e:List CExpr} (hz:qaL e=0):qgw e e=true:=by
 unfold qgw
 rw[hz,(qnF (qa0 e) [] (fun v w h=>by cases h)).1]
 rfl
theorem qzD (a m:Int) (h : -9223372036854775808≤a∧a<9223372036854775808) (hm:0<m):∃ k:Nat,((if a > 0 then a else 0).tmod m=(k:Int))∧(k:Int)<m:=by
 have h1:0≤(if a > 0 then a else 0):=by split<;>omega
 have h2:0≤(if a > 0 then a else 0).tmod m:=Int.tmod_nonneg _ h1
 have h3:(if a > 0 then a else 0).tmod m<m:=Int.tmod_lt_of_pos _ hm
 exact⟨((if a > 0 then a else 0).tmod m).toNat,by omega,by omega⟩
def qiB:CExpr:=⟨1,5,[],[],[]⟩
theorem qtp {e:List CExpr} (hN:Norm e) (h:qgw e [qiB]=true):∃ x,e=[x]∧x.op=1∧x.n=5:=by
 unfold qgw at h
 simp only[Bool.and_eq_true] at h
 have h2:=h.2
 have hg:qa0 [qiB]=.mk 1 5 [] [] []:=rfl
 rw[hg] at h2
 have hl:=hN.list
 generalize qa0 e=t at h2 hl
 obtain⟨op,n,binds,kids,alts⟩:=t
 rw[qgQ] at h2
 by_cases c1:op≠1∨kids.length≠([]:List CTree).length∨binds.length≠([]:List Int).length∨alts.length≠([]:List CAlt).length
 ·rw[if_pos c1] at h2;cases h2
 rw[if_neg c1] at h2
 have c2:op=1∧kids=[]∧binds=[]∧alts=[]:=by
  simp only[not_or,List.length_nil,ne_eq,Classical.not_not,List.length_eq_zero_iff] at c1
  exact c1
 obtain⟨rfl,rfl,rfl,rfl⟩:=c2
 rw[if_neg (by decide)] at h2
 by_cases c3:n=5
 ·subst c3
  exact⟨qiB,hl.symm,rfl,rfl⟩
 ·rw[if_pos (.inl c3)] at h2;cases h2
section
variable {L:Lib} (hR:RLib L)
include hR
theorem qka (hC:CLib2 L) (hnext:∀ (e:List CExpr) (h:Heap),Norm e→pcall L 334 [.list (e.map qam) none] h=some (.val (ql5 e),h)) (h332:L.fns 332=some fn332) (h329:L.fns 329=some fn329) (h279:L.fns 279=some fn279) (h153:L.fns 153=some fn153) (hfact:∀ h:Heap,pcall L 278 [] h=some (.val (.bool true),h)) (e:List CExpr) (hl:e.length<2 ^ 30) (hf:∀ x∈e,NodeFit x)
  (a:Int) (ha : -9223372036854775808≤a∧a<9223372036854775808) (h:Heap) :
  pcall L 329 [.list (e.map qam) none,.int .i64 a] h=some (.val (.bool true),h):=by
 have hL:=hR.plain
 have hp:=hL.pure
 have hdE:=qaz e
 obtain⟨m,m1,m2⟩:=qzD a 40 ha (by decide)
 have hr1:=qrb hR hnext h332 e hl hf (m:Int)
 have hck:=qdx hR.toCLib e hl hf
 refine qaY hL h329 rfl ?_ h
 by_cases hz:qaL e=0
 case neg =>
  have hne:(qaL e==0)=false:=by simpa using hz
  have he:(qaL e==qaL e)=true:=by simp
  rw[qvt hz] at hr1
  generalize qaL e=r at *
  unfold fn329
  simp -implicitDefEqProofs only[ev_,aOp,opd,qaa,qay,qax,qab,qaf,qao,qac,qae,qaj,↓reduceIte,reduceCtorEq,Nat.reduceEqDiff,Int.reduceEq,gt_iff_lt,qat,qak,qcV,hfact,m1,hr1,hck,hne,he,hdE,qal L hp,hp,List.map_nil,bne]
 rw[qx5 hz _ (by omega)] at hr1
 rw[hz] at hck
 have hN:=ql6 m (qjZ hz hf)
 have hFl:(qea m (qaU (qa0 e))).1.length<2 ^ 30:=by have:=(qbq hN.ok).2.1;omega
 have hrep:=qgv hR hC h279 e (qea m (qaU (qa0 e))).1 hl hf hz hFl hN.fit hN.ok m (by omega)
 rw[qo0 hN.ok,if_pos rfl] at hrep
 have hfive:qaL [qiB]=0:=by decide
 have hfit5:∀ x∈[qiB],NodeFit x:=by
  intro x hx
  rw[List.mem_singleton] at hx
  subst hx
  constructor<;>simp[qiB]
 have hrep5:=qgv hR hC h279 e [qiB] hl hf hz (by decide) hfit5 hfive m (by omega)
 have hw5:=qzS hC h153 5
 have htr:qaE (nN 1 5 [])=.mk 1 5 [] [] []:=by unfold nN;rw[qhB];rfl
 have hli5:=qu8 hC (nN 1 5 []) (by rw[htr];decide)
 have hl5:qaU (qaE (nN 1 5 []))=[qiB]:=by rw[htr];rfl
 rw[hl5] at hli5
 have hlen:=qmj m (qaU (qa0 e))
 have hs5:=fun h=>qtp (e:=(qea m (qaU (qa0 e))).1) hN h
 have hdB:=qaz (qea m (qaU (qa0 e))).1
 have hd5:=qaz [qiB]
 have hdS:=qcD (qea m (qaU (qa0 e))).2
 obtain⟨tc,htc,hdt⟩:=qfk (nN 1 5 [])
 rw[htc] at hw5 hli5
 generalize [qiB].map qam=five at *
 generalize (qea m (qaU (qa0 e))).2=l at *
 generalize (qea m (qaU (qa0 e))).1=B at *
 have hcls:(∃ x,B=[x]∧x.op=1∧x.n=5)∨((∃ x,B=[x]∧x.op=1∧x.n≠5)∨(∃ x,B=[x]∧x.op≠1)∨B.length≠1):=by
  by_cases h1:B.length=1
  ·obtain⟨x,rfl⟩:=List.length_eq_one_iff.1 h1
   by_cases h2:x.op=1
   ·by_cases h3:x.n=5
    ·exact .inl ⟨x,rfl,h2,h3⟩
    ·exact .inr (.inl ⟨x,rfl,h2,h3⟩)
   ·exact .inr (.inr (.inl ⟨x,rfl,h2⟩))
  ·exact .inr (.inr (.inr h1))
 rcases hcls with ⟨x,rfl,hx1,hx2⟩ | hcls
 ·simp only[List.map_cons,List.map_nil,qaT] at hr1 hrep hdB
  have hb1:(x.op==1)=true:=by simpa using hx1
  have hb2:(x.n==5)=true:=by simpa using hx2
  have hdX:=qan x.alts
  clear hrep5 hs5
  unfold fn329
  simp -implicitDefEqProofs only[ev_,aOp,opd,qaa,qay,qbb,qax,qad,qab,qaf,qag,qai,qao,qac,qae,qaj,↓reduceIte,reduceCtorEq,Nat.reduceEqDiff,Nat.reduceAdd,Int.reduceToNat,Int.reduceEq,gt_iff_lt,qat,qak,Int.le_refl,qcV,hfact,m1,hr1,hck,hb1,hb2,hw5,hli5,hrep,hdE,hdB,hd5,hdS,hdt,hdX,qbI,qal L hp,hp,bne]
 ·have hns:qgw B [qiB]=false:=by
   cases hq:qgw B [qiB] with
   | false=>rfl
   | true =>
     obtain⟨x,rfl,h1,h2⟩:=hs5 hq
     rcases hcls with ⟨y,e1,e2,e3⟩ | ⟨y,e1,e2⟩ | e1
     ·cases e1;exact absurd h2 e3
     ·cases e1;exact absurd h1 e2
     ·exact absurd rfl e1
  rw[hns,if_neg (by decide)] at hrep5
  clear hs5
  rcases hcls with ⟨x,rfl,hx1,hx2⟩ | ⟨x,rfl,hx1⟩ | hx1
  ·simp only[List.map_cons,List.map_nil,qaT] at hr1 hrep hrep5 hdB
   have hb1:(x.op==1)=true:=by simpa using hx1
   have hb2:(x.n==5)=false:=by simpa using hx2
   have hdX:=qan x.alts
   unfold fn329
   simp -implicitDefEqProofs only[ev_,aOp,opd,qaa,qay,qbb,qax,qad,qab,qaf,qag,qai,qao,qac,qae,qaj,↓reduceIte,reduceCtorEq,Nat.reduceEqDiff,Nat.reduceAdd,Int.reduceToNat,Int.reduceEq,gt_iff_lt,qat,qak,Int.le_refl,qcV,hfact,m1,hr1,hck,hb1,hb2,hw5,hli5,hrep,hrep5,hdE,hdB,hd5,hdS,hdt,hdX,qbI,qal L hp,hp,bne]
  ·simp only[List.map_cons,List.map_nil,qaT] at hr1 hrep hrep5 hdB
   have hb1:(x.op==1)=false:=by simpa using hx1
   have hdX:=qan x.alts
   unfold fn329
   simp -implicitDefEqProofs only[ev_,aOp,opd,qaa,qay,qbb,qax,qad,qab,qaf,qag,qai,qao,qac,qae,qaj,↓reduceIte,reduceCtorEq,Nat.reduceEqDiff,Nat.reduceAdd,Int.reduceToNat,Int.reduceEq,gt_iff_lt,qat,qak,Int.le_refl,qcV,hfact,m1,hr1,hck,hb1,hw5,hli5,hrep,hrep5,hdE,hdB,hd5,hdS,hdt,hdX,qbI,qal L hp,hp,bne]
  ·have hb1:((B.length:Int)==1)=false:=by simp;omega
   unfold fn329
   simp -implicitDefEqProofs only[ev_,aOp,opd,qaa,qay,qbb,qax,qab,qaf,qao,qac,qae,qaj,↓reduceIte,reduceCtorEq,Nat.reduceEqDiff,Int.reduceEq,gt_iff_lt,qat,qak,qcV,hfact,m1,hr1,hck,hb1,hw5,hli5,hrep,hrep5,hdE,hdB,hd5,hdS,hdt,qbI,qal L hp,hp,bne]
end
end Go.Abs
