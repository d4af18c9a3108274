/-
  PARTS OF A PROOF, joined: an abstract machine for quiet code, its evaluation, and what the seat's functions answer on it. Conditions: none.
-/
import Derived.Test.YtpchghpipgpkfaaDoorRAA
import Derived.Test.YtpchghpipgpkfaaDoorD
set_option linter.unusedVariables false
set_option linter.unusedSimpArgs false
set_option maxRecDepth 100000
set_option maxHeartbeats 8000000
namespace Go.Abs
def qbz (s:Int × Nat):AVal:=.agg [.int .i64 s.1,.int .i64 s.2,.int .i64 0]
theorem qbP (l:List (Int × Nat)):qay (l.map qbz)=true:=qdF qbz (fun _=>rfl) l
theorem qms (l:List (Int × Nat)):((l.map qbz).all fun v=>decide ((acells v).length=3))=true:=by
 rw[List.all_eq_true]
 intro v hv
 obtain⟨q,_,rfl⟩:=List.mem_map.1 hv
 rfl
def qlW (e:List CExpr):AVal :=
 match qhh e with
 | some s=>.tuple [qbz s,.bool true,.int .i64 0]
 | none=>.tuple [.agg [.int .i64 0,.int .i64 0,.int .i64 0],.bool false,.int .i64 0]
def rs (bud:Int) (e:List CExpr) (l:List (Int × Nat)):St:=⟨kt [1,8,9] [.int .i64 bud,.list (e.map qam) none,.list (l.map qbz) (qcA 0 l.length)],qbB 3 l.length⟩
def rt (e:List CExpr) (l:List (Int × Nat)):St:=⟨kt [8,9] [.list (e.map qam) none,.list (l.map qbz) (qcA 0 l.length)],qbB 3 l.length⟩
section
variable {L:Lib} (hR:RLib L)
include hR
theorem qvN (hnext:∀ (e:List CExpr) (h:Heap),Norm e→pcall L 334 [.list (e.map qam) none] h=some (.val (qlW e),h)):∀ (k:Nat) (e:List CExpr) (l:List (Int × Nat)),Norm e→l.length+k<2 ^ 30 →
  qa5 L.pure (call L) 0 [1,8,9] [8,9] 0 qc4 (rs ((l.length+k:Nat):Int) e l)=some (.normal,rt (qcN k e).1 (l++(qcN k e).2))
 | 0,e,l,hN,hb => by
   have hp:=hR.plain.pure
   have hdE:=qaE e
   have hdL:=qbP l
   refine qcg ?_
   rw[qcN,List.append_nil,Nat.add_zero]
   have hlt:((l.length:Int)<l.length)=False:=by simp
   unfold rs rt
   by_cases hz:l=[]
   ·subst hz
    unfold qc4
    simp -implicitDefEqProofs only[ev_,aOp,opd,qaa,qax,qa7,qaw,qab,gcE,qav,ren,renC,qaZ,qa8,↓reduceIte,Nat.reduceEqDiff,Int.reduceLT,qcA,qbB,hdE,hlt]
   ·obtain⟨q,hq⟩:∃ q,l.length=q+1:=⟨l.length-1,by have:=List.length_pos_iff.2 hz;omega⟩
    have h1:qcA 0 l.length=some (some 0):=by rw[hq];rfl
    have h2:qbB 3 l.length=[.tail l.length 3]:=by rw[hq];rfl
    rw[h1,h2]
    unfold qc4
    simp -implicitDefEqProofs only[ev_,aOp,opd,qaa,qax,qa7,qaw,qab,gcE,qav,ren,renC,qaZ,qa8,↓reduceIte,Nat.reduceEqDiff,Nat.reduceLT,hdE,hdL,hlt]
 | k + 1,e,l,hN,hb => by
   have hL:=hR.plain
   have hp:=hL.pure
   have hdE:=qaE e
   have hdL:=qbP l
   have hlt:((l.length:Int)<((l.length+(k+1):Nat):Int))=True:=by simp;omega
   have hnx:=fun h=>hnext e h hN
   have hel:e.length<2 ^ 30:=by have:=(qbo hN.ok).2.1;omega
   rw[qcN]
   cases hs:qhh e with
   | none =>
     dsimp only
     unfold qlW at hnx
     rw[hs] at hnx
     dsimp only at hnx
     refine qcg ?_
     rw[List.append_nil]
     unfold rs rt
     generalize ((l.length+(k+1):Nat):Int)=bud at *
     by_cases hz:l=[]
     ·subst hz
      simp only[List.length_nil,Int.natCast_zero] at hlt
      unfold qc4
      simp -implicitDefEqProofs only[ev_,aOp,opd,qaa,qas,qax,qa7,qaw,aUn,qab,qaL,leaf,qaq,gcE,qav,ren,renC,qaZ,qa8,↓reduceIte,reduceCtorEq,Nat.reduceEqDiff,Nat.reduceAdd,qat,qcA,qbB,hdE,hlt,hnx,qal L hp,hp,Int.natCast_zero]
     ·obtain⟨q,hq⟩:∃ q,l.length=q+1:=⟨l.length-1,by have:=List.length_pos_iff.2 hz;omega⟩
      have h1:qcA 0 l.length=some (some 0):=by rw[hq];rfl
      have h2:qbB 3 l.length=[.tail l.length 3]:=by rw[hq];rfl
      rw[h1,h2]
      unfold qc4
      simp -implicitDefEqProofs only[ev_,aOp,opd,qaa,qas,qax,qa7,qaw,aUn,qab,qaL,leaf,qaq,gcE,qav,ren,renC,qaZ,qa8,↓reduceIte,reduceCtorEq,Nat.reduceEqDiff,Nat.reduceAdd,Nat.reduceLT,qat,hdE,hdL,hlt,hnx,qal L hp,hp]
   | some s =>
     obtain⟨r,i⟩:=s
     dsimp only
     unfold qlW at hnx
     rw[hs] at hnx
     dsimp only[qbz] at hnx
     obtain⟨s1,s2,s3⟩:=qf2 hs
     have ho:=qjO s1
     have hap:=fun h=>qo9 hR e hel hN.fit r i 0 ⟨ho.2.2.1,ho.2.2.2⟩ h
     have hdF:=qaE (qbq e r i 0).1
     by_cases hc:(qbq e r i 0).2=0
     ·rw[if_pos hc]
      have hnorm:=qhG hN s2 hc
      rw[hc] at hap
      have ih:=qvN hnext k (qbq e r i 0).1 (l++[(r,i)]) hnorm (by simp;omega)
      have hbe:(((l++[(r,i)]).length+k:Nat):Int)=((l.length+(k+1):Nat):Int):=by simp;omega
      rw[hbe] at ih
      dsimp only
      rw[List.append_assoc] at ih
      refine (qcW ?_).trans ih
      unfold rs
      generalize ((l.length+(k+1):Nat):Int)=bud at *
      generalize (qbq e r i 0).1=F at *
      have hall:=qms l
      have hlen:l.length+1≤1073741824:=by omega
      rw[List.map_append,List.length_append]
      by_cases hz:l=[]
      ·subst hz
       simp only[List.length_nil,Int.natCast_zero] at hlt
       unfold qc4
       simp -implicitDefEqProofs only[ev_,aOp,opd,qaa,qas,qax,qa7,qaw,aUn,qab,qaL,qaM,leaf,qaq,qav,ren,renC,qaZ,qa8,qbs,↓reduceIte,Nat.reduceEqDiff,Nat.reduceAdd,Nat.reduceLT,Nat.reduceLeDiff,Int.reduceBNe,qat,qcA,qbB,qbz,hdE,hdF,hlt,hnx,hap,qal L hp,hp,Int.natCast_zero]
      ·obtain⟨q,hq⟩:∃ q,l.length=q+1:=⟨l.length-1,by have:=List.length_pos_iff.2 hz;omega⟩
       have h1:qcA 0 l.length=some (some 0):=by rw[hq];rfl
       have h2:qbB 3 l.length=[.tail l.length 3]:=by rw[hq];rfl
       have h3:qcA 0 (l.length+[(r,i)].length)=some (some 0):=by rw[hq];rfl
       have h4:qbB 3 (l.length+[(r,i)].length)=[.tail (l.length+1) 3]:=by rw[hq];rfl
       rw[h1,h2,h3,h4]
       unfold qc4
       simp -implicitDefEqProofs only[ev_,aOp,opd,qaa,qas,qax,qa7,qaw,aUn,qab,qaL,qaM,leaf,qaq,qav,ren,renC,qaZ,qa8,qbs,↓reduceIte,Nat.reduceEqDiff,Nat.reduceAdd,Nat.reduceLT,Int.reduceBNe,qat,qbz,hdE,hdF,hdL,hall,hlen,hlt,hnx,hap,qal L hp,hp]
     ·rw[if_neg hc]
      have hcb:((qbq e r i 0).2==0)=false:=by simpa using hc
      refine qcg ?_
      rw[List.append_nil]
      unfold rs rt
      generalize ((l.length+(k+1):Nat):Int)=bud at *
      generalize (qbq e r i 0).1=F at *
      generalize (qbq e r i 0).2=g at *
      by_cases hz:l=[]
      ·subst hz
       simp only[List.length_nil,Int.natCast_zero] at hlt
       unfold qc4
       simp -implicitDefEqProofs only[ev_,aOp,opd,qaa,qas,qax,qa7,qaw,aUn,qab,qaL,qaM,leaf,qaq,gcE,qav,ren,renC,qaZ,qa8,↓reduceIte,reduceCtorEq,Nat.reduceEqDiff,Nat.reduceAdd,qat,qcA,qbB,hdE,hdF,hlt,hnx,hap,hcb,bne,qal L hp,hp,Int.natCast_zero]
      ·obtain⟨q,hq⟩:∃ q,l.length=q+1:=⟨l.length-1,by have:=List.length_pos_iff.2 hz;omega⟩
       have h1:qcA 0 l.length=some (some 0):=by rw[hq];rfl
       have h2:qbB 3 l.length=[.tail l.length 3]:=by rw[hq];rfl
       rw[h1,h2]
       unfold qc4
       simp -implicitDefEqProofs only[ev_,aOp,opd,qaa,qas,qax,qa7,qaw,aUn,qab,qaL,qaM,leaf,qaq,gcE,qav,ren,renC,qaZ,qa8,↓reduceIte,reduceCtorEq,Nat.reduceEqDiff,Nat.reduceAdd,Nat.reduceLT,qat,hdE,hdF,hdL,hlt,hnx,hap,hcb,bne,qal L hp,hp]
def qvM (e:List CExpr) (bud:Int):AVal :=
 if qaJ e=0 then (if bud<0∨500<bud then .tuple [.list [] none,.list [] none,.int .i64 4]
  else .tuple [.list ((qcN bud.toNat (qaQ (qaY e))).1.map qam) none,.list ((qcN bud.toNat (qaQ (qaY e))).2.map qbz) none,.int .i64 0])
 else .tuple [.list [] none,.list [] none,.int .i64 (qaJ e)]
theorem qlk (hnext:∀ (e:List CExpr) (h:Heap),Norm e→pcall L 334 [.list (e.map qam) none] h=some (.val (qlW e),h)) (h332:L.fns 332=some fn332) (e:List CExpr) (hl:e.length<2 ^ 30) (hf:∀ x∈e,NodeFit x) (bud:Int) (h:Heap) :
  pcall L 332 [.list (e.map qam) none,.int .i64 bud] h=some (.val (qvM e bud),h):=by
 have hL:=hR.plain
 have hp:=hL.pure
 have hdE:=qaE e
 have hck:=qdM hR.toCLib e hl hf
 have hdv:qaA (qvM e bud)=true:=by
  unfold qvM
  split
  ·split
   ·rfl
   ·simp only[qia,qh8,qjz,qaT,qaE,qbP,qkU,Bool.and_true]
  ·rfl
 refine qaW hL h332 hdv ?_ h
 unfold qvM
 by_cases hz:qaJ e=0
 case neg =>
  have hne:(qaJ e==0)=false:=by simpa using hz
  rw[if_neg hz]
  generalize qaJ e=r at *
  unfold fn332
  simp -implicitDefEqProofs only[ev_,aOp,opd,qaa,qax,qaw,qab,qan,qac,qae,qaj,↓reduceIte,reduceCtorEq,Nat.reduceEqDiff,qat,qak,hck,hne,hdE,bne,qal L hp,hp]
 rw[if_pos hz]
 rw[hz] at hck
 by_cases hneg:bud<0
 ·rw[if_pos (.inl hneg)]
  have b1:(bud<0)=True:=by simpa using hneg
  unfold fn332
  simp -implicitDefEqProofs only[ev_,aOp,opd,qaa,qax,qaw,qab,qaf,qan,qac,qae,qaj,↓reduceIte,reduceCtorEq,Nat.reduceEqDiff,qat,qak,hck,b1,hdE,bne,qal L hp,hp]
 by_cases hbig:500<bud
 ·rw[if_pos (.inr hbig)]
  have b1:(bud<0)=False:=by simpa using hneg
  have b2:(500<bud)=True:=by simpa using hbig
  unfold fn332
  simp -implicitDefEqProofs only[ev_,aOp,opd,qaa,qax,qaw,qab,qaf,qan,qac,qae,qaj,↓reduceIte,reduceCtorEq,Nat.reduceEqDiff,gt_iff_lt,qat,qak,hck,b1,b2,hdE,bne,qal L hp,hp]
 rw[if_neg (by omega)]
 have b1:(bud<0)=False:=by simpa using hneg
 have b2:(500<bud)=False:=by simpa using hbig
 obtain⟨hT,hn4,hh,hlab,_⟩:=qbo hz
 obtain⟨hft,hsz⟩:=qd5 hz hf
 have hgr:=fun h=>hR.grow e h hl hf hT (by omega)
 have hli:=hR.list (qaY e) hft (by omega)
 obtain⟨tc,htc,hdt⟩:=qbt (qaY e)
 rw[htc] at hgr hli
 have hl0:=qvN hR hnext bud.toNat (qaQ (qaY e)) [] (qjK hz hf) (by simp;omega)
 have hbe:((([]:List (Int × Nat)).length+bud.toNat:Nat):Int)=bud:=by simp;omega
 rw[hbe,List.nil_append] at hl0
 have hdG:=qaE (qaQ (qaY e))
 have hdF:=qaE (qcN bud.toNat (qaQ (qaY e))).1
 have hdL:=qbP (qcN bud.toNat (qaQ (qaY e))).2
 unfold rs rt at hl0
 generalize (qcN bud.toNat (qaQ (qaY e))).1=F at *
 generalize (qcN bud.toNat (qaQ (qaY e))).2=l at *
 generalize qaQ (qaY e)=G at *
 by_cases hq0:l=[]
 ·subst hq0
  simp only[List.length_nil,List.map_nil,qcA,qbB] at hl0
  unfold fn332
  simp -implicitDefEqProofs only[ev_,aOp,opd,qaa,qax,qaw,qab,qaf,qan,qac,qae,qaj,qav,ren,renC,qaZ,qa8,↓reduceIte,reduceCtorEq,Nat.reduceEqDiff,gt_iff_lt,qat,qak,hck,b1,b2,hgr,hli,hl0,hdE,hdF,hdG,hdt,bne,qdy,qal L hp,hp]
 ·obtain⟨q,hq⟩:∃ q,l.length=q+1:=⟨l.length-1,by have:=List.length_pos_iff.2 hq0;omega⟩
  have h1:qcA 0 l.length=some (some 0):=by rw[hq];rfl
  have h2:qbB 3 l.length=[.tail l.length 3]:=by rw[hq];rfl
  rw[h1,h2] at hl0
  simp only[List.length_nil,List.map_nil,qcA,qbB] at hl0
  unfold fn332
  simp -implicitDefEqProofs only[ev_,aOp,opd,qaa,qax,qaw,qab,qaf,qan,qac,qae,qaj,qav,ren,renC,qaZ,qa8,↓reduceIte,reduceCtorEq,Nat.reduceEqDiff,gt_iff_lt,qat,qak,hck,b1,b2,hgr,hli,hl0,hdE,hdF,hdG,hdL,hdt,bne,qdy,qal L hp,hp]
end
theorem qle:∀ (k:Nat) (e:List CExpr),∀ s∈(qcN k e).2,s.1≠10∧s.1≠12
 | 0,e,s,h=>by cases h
 | k + 1,e,s,h => by
   rw[qcN] at h
   cases hn:qhh e with
   | none=>rw[hn] at h;cases h
   | some p =>
     obtain⟨r,i⟩:=p
     rw[hn] at h
     dsimp only at h
     have ho:=qjO (qf2 hn).1
     by_cases hz:(qbq e r i 0).2=0
     ·rw[if_pos hz] at h
      rcases List.mem_cons.1 h with rfl | h
      ·exact⟨ho.2.2.1,ho.2.2.2⟩
      ·exact qle k _ s h
     ·rw[if_neg hz] at h;cases h
theorem qll:∀ (k:Nat) {e:List CExpr},Norm e→∀ (m:Nat) (e':List CExpr),qfr ((qcN k e).2.take m) e=some e'→Norm e'
 | 0,e,hN,m,e',h => by
   have h:qfr (([]:List (Int × Nat)).take m) e=some e':=h
   rw[List.take_nil] at h
   cases h
   exact hN
 | k + 1,e,hN,m,e',h => by
   rw[qcN] at h
   cases hn:qhh e with
   | none =>
     rw[hn] at h
     dsimp only at h
     rw[List.take_nil] at h
     cases h
     exact hN
   | some p =>
     obtain⟨r,i⟩:=p
     rw[hn] at h
     dsimp only at h
     by_cases hz:(qbq e r i 0).2=0
     ·rw[if_pos hz] at h
      dsimp only at h
      cases m with
      | zero =>
        rw[List.take_zero] at h
        cases h
        exact hN
      | succ m =>
        rw[List.take_succ_cons,qfr,if_pos hz] at h
        exact qll k (qhG hN (qf2 hn).2.1 hz) m e' h
     ·rw[if_neg hz] at h
      dsimp only at h
      rw[List.take_nil] at h
      cases h
      exact hN
section
variable {L:Lib} (hR:RLib L)
include hR
theorem qnu (f:List CExpr) (l:List (Int × Nat)) (hl:l.length<2 ^ 30) (hs:∀ s∈l,s.1≠10∧s.1≠12) (R:List CExpr):∀ (k j:Nat) (e:List CExpr),j+k=l.length→qaJ e=0→(∀ x∈e,NodeFit x)→(∀ m e',m≤l.length-j→qfr ((l.drop j).take m) e=some e'→qaJ e'=0∧∀ x∈e',NodeFit x)→qfr (l.drop j) e=some R →
  qa5 L.pure (call L) 0 [0,1,29,30,31] [0,1,6] 0 qiE ⟨kt [0,1,29,30,31] [.list (e.map qam) none,.list (f.map qam) none,.list (l.map qbz) none,.int .i64 l.length,.int .i64 (j:Int)],[]⟩ =
   some (.normal,⟨kt [0,1,6] [.list (R.map qam) none,.list (f.map qam) none,.junk],[]⟩)
 | 0,j,e,hj,hz,hf,hall,h => by
   have hdE:=qaE e
   have hdF:=qaE f
   have hdL:=qbP l
   have hjl:l.drop j=[]:=List.drop_eq_nil_of_le (by omega)
   rw[hjl] at h
   have h:some e=some R:=h
   cases h
   have hj':j=l.length:=by omega
   subst hj'
   have h0:=qaO l.length
   refine qcg ?_
   unfold qiE
   simp -implicitDefEqProofs only[ev_,aOp,opd,qaa,qax,qaw,qab,gcE,qav,ren,renC,qaZ,qa8,↓reduceIte,reduceCtorEq,Nat.reduceEqDiff,h0,hdE,hdF,hdL]
 | k + 1,j,e,hj,hz,hf,hall,h => by
   have hL:=hR.plain
   have hp:=hL.pure
   have hjl:j<l.length:=by omega
   obtain⟨h1,h2,h3⟩:=qaN qbz l hl j hjl
   have hd:l.drop j=l[j]::l.drop (j+1):=List.drop_eq_getElem_cons hjl
   have hr:=hs l[j] (List.getElem_mem hjl)
   rw[hd] at h
   generalize hsj:l[j]=s at *
   obtain⟨r,i⟩:=s
   rw[qfr] at h
   by_cases hc:(qbq e r i 0).2=0
   case neg=>rw[if_neg hc] at h;cases h
   rw[if_pos hc] at h
   have hel:e.length<2 ^ 30:=by have:=(qbo hz).2.1;omega
   have hap:=fun h=>qo9 hR e hel hf r i 0 ⟨hr.1,hr.2⟩ h
   rw[hc] at hap
   have hnx:=hall 1 (qbq e r i 0).1 (by omega) (by rw[hd,List.take_succ_cons,List.take_zero,qfr,if_pos hc];rfl)
   have ih:=qnu f l hl hs R k (j+1) (qbq e r i 0).1 (by omega) hnx.1 hnx.2 (fun m e' hm hst=>hall (m+1) e' (by omega) (by rw[hd,List.take_succ_cons,qfr,if_pos hc];exact hst)) h
   refine (qcW ?_).trans ih
   have hdE:=qaE e
   have hdF:=qaE f
   have hdL:=qbP l
   have hdG:=qaE (qbq e r i 0).1
   generalize (qbq e r i 0).1=G at *
   have hst:qbz (r,i)=.agg [.int .i64 r,.int .i64 i,.int .i64 0]:=rfl
   unfold qiE
   simp -implicitDefEqProofs only[ev_,aOp,opd,qaa,qas,qax,qaw,qad,qab,qaL,qaM,leaf,qaq,qav,ren,renC,qaZ,qa8,↓reduceIte,reduceCtorEq,Nat.reduceEqDiff,Nat.reduceAdd,qat,h1,h2,h3,hsj,hst,hap,hdE,hdF,hdG,hdL,bne,qal L hp,hp]
theorem qkv (hC:CLib2 L) (h279:L.fns 279=some fn279) (e f:List CExpr) (hl:e.length<2 ^ 30) (hf:∀ x∈e,NodeFit x) (hz:qaJ e=0) (hl2:f.length<2 ^ 30) (hf2:∀ x∈f,NodeFit x) (hz2:qaJ f=0) (k:Nat) (hk:k≤500) (h:Heap) :
  pcall L 279 [.list (e.map qam) none,.list (f.map qam) none,.list ((qcN k (qaQ (qaY e))).2.map qbz) none] h=some (.val (.int .i64 (if qlg (qcN k (qaQ (qaY e))).1 f=true then 0 else 14)),h):=by
 have hL:=hR.plain
 have hp:=hL.pure
 have hdE:=qaE e
 have hdF:=qaE f
 have hck:=qdM hR.toCLib e hl hf
 have hck2:=qdM hR.toCLib f hl2 hf2
 refine qaW hL h279 rfl ?_ h
 rw[hz] at hck
 rw[hz2] at hck2
 obtain⟨hT,hn4,hh,hlab,_⟩:=qbo hz
 obtain⟨hft,hsz⟩:=qd5 hz hf
 have hgr:=fun h=>hR.grow e h hl hf hT (by omega)
 have hli:=hR.list (qaY e) hft (by omega)
 obtain⟨tc,htc,hdt⟩:=qbt (qaY e)
 rw[htc] at hgr hli
 have hN:=qjK hz hf
 have hrl:=qiO k (qaQ (qaY e))
 have hst:=qlf k (qaQ (qaY e))
 have hNR:=qlX k hN
 have hsm:=qq0 hC (qcN k (qaQ (qaY e))).1 f (by have:=(qbo hNR.ok).2.1;omega) hNR.fit hl2 hf2
 have hl0:=qnu hR f (qcN k (qaQ (qaY e))).2 (by omega) (qle k _) (qcN k (qaQ (qaY e))).1 (qcN k (qaQ (qaY e))).2.length 0 (qaQ (qaY e)) (by omega) hN.ok hN.fit
  (fun m e' _ hs=>by
   rw[List.drop_zero] at hs
   have:=qll k hN m e' hs
   exact⟨this.ok,this.fit⟩) (by rw[List.drop_zero];exact hst)
 simp only[Int.natCast_zero] at hl0
 have hdG:=qaE (qaQ (qaY e))
 have hdR:=qaE (qcN k (qaQ (qaY e))).1
 have hdS:=qbP (qcN k (qaQ (qaY e))).2
 have hbig:(2000<(((qcN k (qaQ (qaY e))).2.length:Nat):Int))=False:=by simp;omega
 generalize (qcN k (qaQ (qaY e))).2=l at *
 generalize (qcN k (qaQ (qaY e))).1=R at *
 generalize qaQ (qaY e)=G at *
 cases hb:qlg R f with
 | true =>
   rw[hb] at hsm
   rw[if_pos rfl]
   unfold fn279
   simp -implicitDefEqProofs only[ev_,aOp,opd,qaa,qax,qa7,qaw,aUn,qab,qan,qac,qae,qaj,qav,ren,renC,qaZ,qa8,↓reduceIte,reduceCtorEq,Nat.reduceEqDiff,gt_iff_lt,qat,qak,hck,hck2,hgr,hli,hl0,hsm,hbig,hdE,hdF,hdG,hdR,hdS,hdt,bne,qdy,qal L hp,hp]
 | false =>
   rw[hb] at hsm
   rw[if_neg (by decide)]
   unfold fn279
   simp -implicitDefEqProofs only[ev_,aOp,opd,qaa,qax,qa7,qaw,aUn,qab,qan,qac,qae,qaj,qav,ren,renC,qaZ,qa8,↓reduceIte,reduceCtorEq,Nat.reduceEqDiff,gt_iff_lt,qat,qak,hck,hck2,hgr,hli,hl0,hsm,hbig,hdE,hdF,hdG,hdR,hdS,hdt,bne,qdy,qal L hp,hp]
end
theorem qjn {α β:Type} {f:α→Option β}:∀ {l:List α} {j:Nat} (hj:j<l.length) (hn:∀ k (hk:k<l.length),k<j→f l[k]=none) {b:β} (hb:f l[j]=some b),l.findSome? f=some b
 | x :: l,0,_,_,b,hb => by
   have hb:f x=some b:=hb
   rw[List.findSome?_cons,hb]
 | x :: l,j + 1,hj,hn,b,hb => by
   have h0:f x=none:=hn 0 (by simp) (by omega)
   rw[List.findSome?_cons,h0]
   exact qjn (j:=j) (by simpa using hj) (fun k hk hkj=>hn (k+1) (by simpa using hk) (by omega)) hb
theorem qjo {α β:Type} {f:α→Option β}:∀ {l:List α} (hn:∀ k (hk:k<l.length),f l[k]=none),l.findSome? f=none
 | [],_=>rfl
 | x :: l,hn => by
   have h0:f x=none:=hn 0 (by simp)
   rw[List.findSome?_cons,h0]
   exact qjo fun k hk=>hn (k+1) (by simpa using hk)
def Ext (H H':Heap):Prop:=H.length≤H'.length∧∀ i,i<H.length→H'[i]? = H[i]?
theorem Ext.refl (H:Heap):Ext H H:=⟨Nat.le_refl _,fun _ _=>rfl⟩
theorem Ext.trans {A B C:Heap} (h:Ext A B) (k:Ext B C):Ext A C:=⟨Nat.le_trans h.1 k.1,fun i hi=>by rw[k.2 i (by have:=h.1;omega),h.2 i hi]⟩
def orderA:List AVal:=ruleOrder.map fun r=>.int .i64 r
theorem qu3:([.int .i64 3,.int .i64 4,.int .i64 6,.int .i64 7,.int .i64 5,.int .i64 1,.int .i64 2,.int .i64 11,.int .i64 8,.int .i64 9]:List AVal)=orderA:=rfl
theorem qk6:orderA.length=10:=rfl
theorem qjN:orderA.take 10=orderA:=rfl
theorem qsM:ruleOrder.length=10:=rfl
section
variable {L:Lib} (hR:RLib L)
include hR
theorem qxG (h343:L.fns 343=some fn343) (h346:L.fns 346=some fn346) (h347:L.fns 347=some fn347) {b:Nat} (e:List CExpr) (hz:qaJ e=0) (hf:∀ x∈e,NodeFit x) (r:Int) (hr:r∈ruleOrder) (H1:Heap) (ps:List Nat) (ow:Option (Option Nat)) (mid:Nat) (x0:List AVal)
  (hm:H1[mid]? = some (.map (encB (qlZ e)))) (hps:ps.length=e.length) (hws:∀ k,k<e.length→WS H1 (fun i=>i<H1.length) (qbm e k) (ps.getD k 0)) (h0:H1[0]? = some (.box [.int .i64 0,.int .i64 0,.int .i64 0])) (j:Nat) (H':Heap) (hx:Ext H1 H') :
  (∃ T,qa5 L.pure (call L) b [1000000,2,6,7,9,22,23,29,30,31] [1000000,2,3,4,6,7,22,23] 2 qdP
    ⟨kt [2,6,7,9,22,23,29,30,31] [.ptr (some (0,0)),.ptr (some (1,0)),.map (some mid),.int .i64 r,.agg orderA,.int .i64 (j:Int),.list (ps.map qaD) ow,.int .i64 (ps.length:Nat),.int .i64 0],H'⟩=some (.normal,T) ∧
    (∃ H2,T=⟨kt [2,3,4,6,7,22,23] [.ptr (some (0,0)),.junk,.junk,.ptr (some (1,0)),.map (some mid),.agg orderA,.int .i64 (j:Int)],H2⟩∧Ext H1 H2∧qdD e r=none)) ∨
  (∃ T,qa5 L.pure (call L) b [1000000,2,6,7,9,22,23,29,30,31] [1000000,2,3,4,6,7,22,23] 2 qdP
    ⟨kt [2,6,7,9,22,23,29,30,31] [.ptr (some (0,0)),.ptr (some (1,0)),.map (some mid),.int .i64 r,.agg orderA,.int .i64 (j:Int),.list (ps.map qaD) ow,.int .i64 (ps.length:Nat),.int .i64 0],H'⟩=some (.ret,T) ∧
    (∃ H2 i,T=⟨kt [2,3,4,6,7,22,23] [.ptr (some (0,0)),.bool true,.int .i64 0,.ptr (some (1,0)),.map (some mid),.agg orderA,.int .i64 (j:Int)],H2⟩∧H2[0]? = some (.box [.int .i64 r,.int .i64 (i:Nat),.int .i64 0])∧qdD e r=some i)):=by
 have hel:e.length<2 ^ 30:=by have:=(qbo hz).2.1;omega
 refine qgx (pure:=L.pure) (call:=call L) (b:=b) (id:=2) (body:=qdP)
  (fun i s=>∃ H2,s=⟨kt [2,6,7,9,22,23,29,30,31] [.ptr (some (0,0)),.ptr (some (1,0)),.map (some mid),.int .i64 r,.agg orderA,.int .i64 (j:Int),.list (ps.map qaD) ow,.int .i64 (ps.length:Nat),.int .i64 (i:Nat)],H2⟩∧Ext H1 H2∧∀ k,k<i→qx9 r (qt2 e) (qbm e k)=false) ps.length _ _ ?_ ?_ ?_
 ·intro i s hi hs
  obtain⟨H2,rfl,hE,hno⟩:=hs
  obtain⟨h1,h2,h3⟩:=qaN qaD ps (by omega) i hi
  have hgi:ps.getD i 0=ps[i]:=by rw[List.getD_eq_getElem?_getD,List.getElem?_eq_getElem (by omega)];rfl
  have hw:=(hws i (by omega)).frame' hE.2
  obtain⟨H3,c1,c2,c3⟩:=qyj hR h343 h346 h347 r hr (qbm e i) (qov hz hf i (by omega)) H2 (fun i=>i<H2.length) (fun i h=>h) (ps.getD i 0) mid (qlZ e) (qt2 e) (qpR e) (hw.mono fun i hi=>by have:=hE.1;omega) (by rw[hE.2 mid (hlt hm)];exact hm)
  rw[hgi] at c1
  have hE3:Ext H1 H3:=hE.trans ⟨c2,c3⟩
  have hb0:H3[0]? = some (.box [.int .i64 0,.int .i64 0,.int .i64 0]):=by rw[hE3.2 0 (hlt h0)];exact h0
  generalize ps[i]=p at *
  unfold qaD at h3
  obtain⟨q,hr0⟩:∃ q,qa4 L.pure (call L) b [1000000,2,6,7,9,22,23,29,30,31] [1000000,2,3,4,6,7,22,23] qdP
   ⟨kt [2,6,7,9,22,23,29,30,31] [.ptr (some (0,0)),.ptr (some (1,0)),.map (some mid),.int .i64 r,.agg orderA,.int .i64 (j:Int),.list (ps.map qaD) ow,.int .i64 (ps.length:Nat),.int .i64 (i:Nat)],H2⟩=q:=⟨_,rfl⟩
  have hr:=hr0
  unfold qaD at hr
  cases hc:qx9 r (qt2 e) (qbm e i) with
  | false =>
    rw[hc] at c1
    unfold qdP at hr
    simp -implicitDefEqProofs only[ev_,aOp,opd,qaa,qax,qaw,qad,qab,qag,↓reduceIte,Nat.reduceEqDiff,h1,h2,h3,c1] at hr
    subst hr
    refine .inl ⟨_,hr0,H3,rfl,hE3,fun k hk=>?_⟩
    by_cases hki:k=i
    ·rw[hki];exact hc
    ·exact hno k (by omega)
  | true =>
    rw[hc] at c1
    unfold qdP at hr
    simp -implicitDefEqProofs only[ev_,aOp,opd,qaa,qas,qax,qaw,qad,qab,qag,qaL,qbR,qcf,leaf,qaq,gcE,↓reduceIte,Nat.reduceEqDiff,Nat.reduceAdd,Nat.reduceLeDiff,h1,h2,h3,c1,hb0] at hr
    subst hr
    refine .inr ⟨_,hr0,_,i,rfl,hgs (hlt hb0),?_⟩
    unfold qdD
    rw[List.find?_range_eq_some]
    exact⟨hc,by simp;omega,fun k hk=>by simp[hno k hk]⟩
 ·intro s hs
  obtain⟨H2,rfl,hE,hno⟩:=hs
  have h0:=qaO ps.length
  refine⟨_,?_,H2,rfl,hE,?_⟩
  ·unfold qdP
   simp -implicitDefEqProofs only[ev_,aOp,opd,qaa,qax,qaw,qab,gcE,↓reduceIte,Nat.reduceEqDiff,h0]
  ·unfold qdD
   rw[List.find?_range_eq_none]
   intro k hk
   simp[hno k (by omega)]
 ·exact⟨H',rfl,hx,fun k hk=>absurd hk (by omega)⟩
theorem qxH (h343:L.fns 343=some fn343) (h346:L.fns 346=some fn346) (h347:L.fns 347=some fn347) {b:Nat} (e:List CExpr) (hz:qaJ e=0) (hf:∀ x∈e,NodeFit x) (H1:Heap) (ps:List Nat) (ow:Option (Option Nat)) (rt:AVal) (mid:Nat)
  (hm:H1[mid]? = some (.map (encB (qlZ e)))) (hps:ps.length=e.length) (hws:∀ k,k<e.length→WS H1 (fun i=>i<H1.length) (qbm e k) (ps.getD k 0)) (h0:H1[0]? = some (.box [.int .i64 0,.int .i64 0,.int .i64 0])) (hw1:H1[1]? = some (.box [.list (ps.map qaD) ow,rt])) :
  (∃ T,qa5 L.pure (call L) b [1000000,2,6,7,22,23] [1000000,2,3,4] 0 qdQ
    ⟨kt [2,6,7,22,23] [.ptr (some (0,0)),.ptr (some (1,0)),.map (some mid),.agg orderA,.int .i64 0],H1⟩=some (.normal,T) ∧
    (∃ H2,T=⟨kt [2,3,4] [.ptr (some (0,0)),.junk,.junk],H2⟩∧H2[0]? = some (.box [.int .i64 0,.int .i64 0,.int .i64 0])∧qhh e=none)) ∨
  (∃ T,qa5 L.pure (call L) b [1000000,2,6,7,22,23] [1000000,2,3,4] 0 qdQ
    ⟨kt [2,6,7,22,23] [.ptr (some (0,0)),.ptr (some (1,0)),.map (some mid),.agg orderA,.int .i64 0],H1⟩=some (.ret,T) ∧
    (∃ H2 r i,T=⟨kt [2,3,4] [.ptr (some (0,0)),.bool true,.int .i64 0],H2⟩∧H2[0]? = some (.box [.int .i64 r,.int .i64 (i:Nat),.int .i64 0])∧qhh e=some (r,i))):=by
 refine qgx (pure:=L.pure) (call:=call L) (b:=b) (id:=0) (body:=qdQ)
  (fun j s=>∃ H2,s=⟨kt [2,6,7,22,23] [.ptr (some (0,0)),.ptr (some (1,0)),.map (some mid),.agg orderA,.int .i64 (j:Nat)],H2⟩∧Ext H1 H2∧∀ k (hk:k<ruleOrder.length),k<j→qdD e ruleOrder[k]=none) ruleOrder.length _ _ ?_ ?_ ?_
 ·intro j s hj hs
  obtain⟨H2,rfl,hE,hno⟩:=hs
  have hj10:j<10:=hj
  have h1:((j:Int)<10)=True:=by simp;omega
  have h2:IntKind.i64.wrap ((j:Int)+1)=((j+1:Nat):Int):=by rw[qbW (by omega) (by omega)];omega
  have h3:orderA[j]? = some (.int .i64 ruleOrder[j]):=by unfold orderA;rw[List.getElem?_map,List.getElem?_eq_getElem hj];rfl
  have hro:ruleOrder[j]∈ruleOrder:=List.getElem_mem hj
  have hw2:H2[1]? = some (.box [.list (ps.map qaD) ow,rt]):=by rw[hE.2 1 (hlt hw1)];exact hw1
  have hin:=fun b=>qxG hR h343 h346 h347 (b:=b) e hz hf ruleOrder[j] hro H1 ps ow mid [] hm hps hws h0 j H2 hE
  have hlm:(ps.map qaD).length=ps.length:=List.length_map _
  obtain⟨q,hr0⟩:∃ q,qa4 L.pure (call L) b [1000000,2,6,7,22,23] [1000000,2,3,4] qdQ
   ⟨kt [2,6,7,22,23] [.ptr (some (0,0)),.ptr (some (1,0)),.map (some mid),.agg orderA,.int .i64 (j:Nat)],H2⟩=q:=⟨_,rfl⟩
  have hr:=hr0
  have hin:=hin H2.length
  generalize hrj:ruleOrder[j]=r at *
  generalize hps2:ps.map qaD=pl at *
  rcases hin with ⟨T,t1,H3,rfl,t3,t4⟩ | ⟨T,t1,H3,i,rfl,t3,t4⟩
  ·unfold qdQ at hr
   simp -implicitDefEqProofs only[ev_,aOp,opd,qaa,qax,qa7,qaw,qe1,qab,qag,qai,↓reduceIte,Nat.reduceEqDiff,h1,h2,h3,hw2,hlm,t1] at hr
   subst hr
   refine .inl ⟨_,hr0,H3,rfl,t3,fun k hk hkj=>?_⟩
   by_cases hki:k=j
   ·subst hki;exact (congrArg (qdD e) hrj).trans t4
   ·exact hno k hk (by omega)
  ·unfold qdQ at hr
   simp -implicitDefEqProofs only[ev_,aOp,opd,qaa,qax,qa7,qaw,qe1,qab,qag,qai,gcE,↓reduceIte,Nat.reduceEqDiff,h1,h2,h3,hw2,hlm,t1] at hr
   subst hr
   refine .inr ⟨_,hr0,H3,r,i,rfl,t3,?_⟩
   unfold qhh
   exact qjn hj (fun k hk hkj=>by rw[hno k hk hkj];rfl) (by
    have h5:qdD e (ruleOrder[j]'hj)=some i:=(congrArg (qdD e) hrj).trans t4
    rw[h5]
    exact congrArg (fun q=>some (q,i)) hrj)
 ·intro s hs
  obtain⟨H2,rfl,hE,hno⟩:=hs
  refine⟨_,?_,H2,rfl,by rw[hE.2 0 (hlt h0)];exact h0,?_⟩
  ·rw[qsM]
   unfold qdQ
   simp -implicitDefEqProofs only[ev_,aOp,opd,qaa,qax,qaw,qab,gcE,↓reduceIte,Nat.reduceEqDiff,Int.reduceLT]
  ·unfold qhh
   exact qjo fun k hk=>by rw[hno k hk hk];rfl
 ·exact⟨H1,rfl,Ext.refl _,fun k hk hkj=>absurd hkj (by omega)⟩
theorem qxI (h334:L.fns 334=some fn334) (h342:L.fns 342=some fn342) (h343:L.fns 343=some fn343) (h346:L.fns 346=some fn346) (h347:L.fns 347=some fn347) (e:List CExpr) (h:Heap) (hN:Norm e) :
  pcall L 334 [.list (e.map qam) none] h=some (.val (qlW e),h):=by
 have hL:=hR.plain
 have hp:=hL.pure
 have hz:=hN.ok
 have hf:=hN.fit
 obtain⟨hT,hn4,_⟩:=qbo hz
 have hel:e.length<2 ^ 30:=by omega
 have hdE:=qaE e
 have hck:=qdM hR.toCLib e hel hf
 rw[hz] at hck
 have hdv:qaA (qlW e)=true:=by
  unfold qlW
  split<;>rfl
 refine qaW hL h334 hdv ?_ h
 obtain⟨H,ps,ow,c1,hO,hke⟩:=qsJ hL hR.f293 e hel hT.pos hf hT.ahead [.box [.int .i64 0,.int .i64 0,.int .i64 0]]
 rw[List.length_singleton] at c1 hO hke
 obtain⟨H1,d1,d2,d3⟩:=qkq hL h342 e hel H
 have hE1:Ext H H1:=⟨by have:=hlt d2;omega,d3⟩
 have hps:=hO.len
 have hlow:=hlt hO.work
 have hb0:H1[0]? = some (.box [.int .i64 0,.int .i64 0,.int .i64 0]):=by rw[d3 0 (by omega),hke 0 (by omega)];rfl
 have hw1:H1[1]? = some (.box [.list (ps.map qaD) ow,qaD (ps.getD (e.length-1) 0)]):=by rw[d3 1 (by omega)];exact hO.work
 have hws:∀ k,k<e.length→WS H1 (fun i=>i<H1.length) (qbm e k) (ps.getD k 0):=fun k hk=>((hO.ws hT.ahead k hk).frame' d3).toT
 have hl1:=qxH hR h343 h346 h347 (b:=H1.length) e hz hf H1 ps ow _ H.length d2 hps hws hb0 hw1
 have hoe:=qu3
 unfold qaD at c1
 unfold qlW
 rcases hl1 with ⟨T,t1,H3,rfl,t3,t4⟩ | ⟨T,t1,H3,r,i,rfl,t3,t4⟩
 ·have hl3:=hlt t3
  rw[t4]
  unfold fn334
  simp -implicitDefEqProofs only[ev_,aOp,opd,qaa,qas,qax,qaw,qab,qaL,qaM,qbR,leaf,qaq,qan,qac,qae,qaj,↓reduceIte,reduceCtorEq,Nat.reduceEqDiff,Nat.reduceAdd,qat,qak,hck,hdE,c1,d1,hoe,qk6,qjN,t1,t3,bne,hl3,hgs,qal L hp,hp]
 ·rw[t4]
  dsimp only[qbz]
  unfold fn334
  simp -implicitDefEqProofs only[ev_,aOp,opd,qaa,qax,qaw,qab,qaM,qan,qac,qae,qaj,↓reduceIte,reduceCtorEq,Nat.reduceEqDiff,Nat.reduceAdd,qat,qak,hck,hdE,c1,d1,hoe,qk6,qjN,t1,t3,bne,qal L hp,hp]
end
theorem qxS {e:List CExpr} (hz:qaJ e=0) (k:Nat) (hk:k≤500):qvM e (k:Int)=.tuple [.list ((qcN k (qaQ (qaY e))).1.map qam) none,.list ((qcN k (qaQ (qaY e))).2.map qbz) none,.int .i64 0]:=by
 unfold qvM
 rw[if_pos hz,if_neg (by omega),Int.toNat_natCast]
theorem qvf {e:List CExpr} (hz:¬ qaJ e=0) (b:Int):qvM e b=.tuple [.list [] none,.list [] none,.int .i64 (qaJ e)]:=by
 unfold qvM
 rw[if_neg hz]
theorem qoS {e:List CExpr} (hz:qaJ e=0):qlg e e=true:=by
 unfold qlg
 rw[hz,(qnw (qaY e) [] (fun v w h=>by cases h)).1]
 rfl
theorem qyD (a m:Int) (h : -9223372036854775808≤a∧a<9223372036854775808) (hm:0<m):∃ k:Nat,((if a > 0 then a else 0).tmod m=(k:Int))∧(k:Int)<m:=by
 have h1:0≤(if a > 0 then a else 0):=by split<;>omega
 have h2:0≤(if a > 0 then a else 0).tmod m:=Int.tmod_nonneg _ h1
 have h3:(if a > 0 then a else 0).tmod m<m:=Int.tmod_lt_of_pos _ hm
 exact⟨((if a > 0 then a else 0).tmod m).toNat,by omega,by omega⟩
section
variable {L:Lib} (hR:RLib L)
include hR
theorem qoU (h338:L.fns 338=some fn338) (a:List (Int × Nat)) (ha:a.length<2 ^ 30) (h:Heap):pcall L 338 [.list (a.map qbz) none,.list (a.map qbz) none] h=some (.val (.bool true),h):=by
 have hL:=hR.plain
 refine qaW hL h338 rfl ?_ h
 have hloop:=qjF (pure:=L.pure) (call:=call L) (b:=0) (keep:=[0,1,12,13]) (fk:=[4]) (id:=0) (body:=qiF)
  (fun i=>⟨kt [0,1,12,13] [.list (a.map qbz) none,.list (a.map qbz) none,.int .i64 a.length,.int .i64 i],[]⟩) a.length (T:=⟨kt [4] [.junk],[]⟩) (by
   intro i hi
   obtain⟨h1,h2,h3⟩:=qaN qbz a ha i hi
   have hdS:=qbP a
   generalize hs:a[i]=s at *
   have hst:qbz s=.agg [.int .i64 s.1,.int .i64 s.2,.int .i64 0]:=rfl
   rw[hst] at h3
   unfold qiF
   simp -implicitDefEqProofs only[ev_,aOp,opd,qaa,qax,qaw,aEq,qcF,qad,qab,qaf,qaM,qav,ren,renC,qaZ,qa8,qaz,↓reduceIte,reduceCtorEq,Nat.reduceEqDiff,Nat.reduceAdd,h1,h2,h3,hdS]) (by
   have h0:=qaO a.length
   unfold qiF
   simp -implicitDefEqProofs only[ev_,aOp,opd,qaa,qax,qaw,qab,gcE,qav,ren,renC,qaZ,qa8,↓reduceIte,reduceCtorEq,Nat.reduceEqDiff,h0])
 simp only[Int.natCast_zero] at hloop
 have hdS:=qbP a
 unfold fn338
 simp -implicitDefEqProofs only[ev_,aOp,opd,qaa,qax,qa7,qaw,qab,qan,qac,qae,qaj,qav,ren,renC,qaZ,qa8,↓reduceIte,reduceCtorEq,Nat.reduceEqDiff,qak,hloop,hdS,bne]
theorem qjV (hC:CLib2 L) (hnext:∀ (e:List CExpr) (h:Heap),Norm e→pcall L 334 [.list (e.map qam) none] h=some (.val (qlW e),h)) (h332:L.fns 332=some fn332) (h330:L.fns 330=some fn330) (h338:L.fns 338=some fn338) (h279:L.fns 279=some fn279) (hfact:∀ h:Heap,pcall L 278 [] h=some (.val (.bool true),h)) (e:List CExpr) (hl:e.length<2 ^ 30) (hf:∀ x∈e,NodeFit x)
  (a b:Int) (ha : -9223372036854775808≤a∧a<9223372036854775808) (hb : -9223372036854775808≤b∧b<9223372036854775808) (h:Heap) :
  pcall L 330 [.list (e.map qam) none,.int .i64 a,.int .i64 b] h=some (.val (.bool true),h):=by
 have hL:=hR.plain
 have hp:=hL.pure
 have hdE:=qaE e
 obtain⟨m,m1,m2⟩:=qyD a 30 ha (by decide)
 obtain⟨n,n1,n2⟩:=qyD b 30 hb (by decide)
 have hw:IntKind.i64.wrap ((m:Int)+(n:Int))=((m+n:Nat):Int):=by rw[qbW (by omega) (by omega)];omega
 have hr1:=qlk hR hnext h332 e hl hf ((m+n:Nat):Int)
 have hr2:=qlk hR hnext h332 e hl hf (m:Int)
 refine qaW hL h330 rfl ?_ h
 by_cases hz:qaJ e=0
 case neg =>
  have hne:(qaJ e==0)=false:=by simpa using hz
  have he:(qaJ e==qaJ e)=true:=by simp
  rw[qvf hz] at hr1 hr2
  generalize qaJ e=r at *
  unfold fn330
  simp -implicitDefEqProofs only[ev_,aOp,opd,qaa,qax,qaw,qab,qaf,qan,qac,qae,qaj,↓reduceIte,reduceCtorEq,Nat.reduceEqDiff,Int.reduceEq,gt_iff_lt,qat,qak,qdW,hfact,m1,n1,hw,hr1,hr2,hne,he,hdE,qal L hp,hp,List.map_nil,bne]
 rw[qxS hz _ (by omega)] at hr1 hr2
 have hN:=qlX m (qjK hz hf)
 have hrep:=qkv hR hC h279 e (qcN m (qaQ (qaY e))).1 hl hf hz (by have:=(qbo hN.ok).2.1;omega) hN.fit hN.ok m (by omega)
 rw[qoS hN.ok,if_pos rfl] at hrep
 have hadd:=qpZ m n (qaQ (qaY e))
 have hlen:=qiO m (qaQ (qaY e))
 rw[hadd] at hr1
 dsimp only at hr1
 have hdB:=qaE (qcN m (qaQ (qaY e))).1
 have hdS:=qbP (qcN m (qaQ (qaY e))).2
 generalize (qcN m (qaQ (qaY e))).2=l at *
 generalize (qcN m (qaQ (qaY e))).1=B at *
 have hdA:=qaE (qcN n B).1
 have hdT:=qbP (l++(qcN n B).2)
 have hall:=qms (l++(qcN n B).2)
 have hlen2:=qiO n B
 generalize (qcN n B).1=A at *
 generalize (qcN n B).2=q at *
 have hse:=qoU hR h338 l (by omega)
 have hle:((l.length:Int)≤((l++q).length:Nat)):=by rw[List.length_append];omega
 have htk:((l++q).map qbz).take l.length=l.map qbz:=by rw[← List.map_take,List.take_left]
 have hml:((l++q).map qbz).length=(l++q).length:=List.length_map _
 generalize l++q=p at *
 unfold fn330
 simp -implicitDefEqProofs only[ev_,aOp,opd,qaa,qax,qa7,qaw,qab,qaf,qan,qac,qae,qaj,↓reduceIte,reduceCtorEq,Nat.reduceEqDiff,Int.reduceToNat,Int.reduceEq,gt_iff_lt,qc6,qdh,qat,qak,Int.le_refl,qdW,hfact,m1,n1,hw,hr1,hr2,hle,htk,hml,hall,hse,hrep,hdE,hdA,hdB,hdS,hdT,qal L hp,hp,bne]
end
end Go.Abs
