/-
  PARTS OF A PROOF, joined: an abstract machine for quiet code, its evaluation, and what the seat's functions answer on it. Conditions: none.
-/
import Derived.Test.YtpchghpipgpkfaaDoorCJ
set_option linter.unusedVariables false
set_option linter.unusedSimpArgs false
set_option maxRecDepth 100000
set_option maxHeartbeats 4000000
namespace Go.Abs
abbrev FS:=IM Int × IM Unit
def qbQ (v:Int) (b:IM Int):Int:=(qbt v b).getD 0
def qgw (d:Int) (b:IM Int) (n:Int):IM Int:=qh1 n (qbQ n b+d) b
def qc0 (op n:Int) (s:FS):FS:=if op=0∧qbQ n s.1=0 then (s.1,qh1 n () s.2) else s
mutual
def qdF:CTree→FS→FS
 | .mk op n binds kids alts,s=>qdx op binds alts kids 0 (qc0 op n s)
def qdx (op:Int) (binds:List Int) (alts:List CAlt):List CTree→Nat→FS→FS
 | [],_,s=>s
 | kid :: ks,k,s =>
   qdx op binds alts ks (k+1)
    ((qbg op binds alts k).foldl (qgw (-1)) (qdF kid ((qbg op binds alts k).foldl (qgw 1) s.1,s.2)).1,(qdF kid ((qbg op binds alts k).foldl (qgw 1) s.1,s.2)).2)
end
mutual
def hgt:CTree→Nat
 | .mk _ _ _ kids _=>qc4 kids+1
def qc4:List CTree→Nat
 | []=>0
 | k::ks=>max (hgt k) (qc4 ks)
end
theorem qd8 {k:CTree} {ks:List CTree} (h:k∈ks):hgt k≤qc4 ks:=by
 induction ks with
 | nil=>cases h
 | cons x xs ih =>
   unfold qc4
   rcases List.mem_cons.1 h with rfl | h
   ·omega
   ·have:=ih h;omega
inductive TFit:CTree→Prop
 | mk (op n:Int) (binds:List Int) (kids:List CTree) (alts:List CAlt) (hb:(binds++alts.flatMap (·.binds)).length<2 ^ 30) (hk:kids.length<2 ^ 30) (ha:alts.length<2 ^ 30) (h:∀ k∈kids,TFit k):TFit (.mk op n binds kids alts)
theorem qiQ (alts:List CAlt) {a:CAlt} (h:a∈alts):a.binds.length≤(alts.flatMap (·.binds)).length:=by
 induction alts with
 | nil=>cases h
 | cons x xs ih =>
   rw[List.flatMap_cons,List.length_append]
   rcases List.mem_cons.1 h with rfl | h
   ·omega
   ·have:=ih h;omega
theorem qns (op:Int) (binds:List Int) (alts:List CAlt) (k:Nat):(qbg op binds alts k).length≤(binds++alts.flatMap (·.binds)).length:=by
 unfold qbg
 rw[List.length_append]
 split
 ·omega
 ·split
  ·split
   ·rename_i a ha
    have:=qiQ alts (List.mem_of_getElem? ha)
    omega
   ·simp
  ·simp
theorem qbF (v n x:Int) (b:IM Int):qbQ v (qh1 n x b)=if v=n then x else qbQ v b:=by
 unfold qbQ
 rw[qdp]
 split<;>rfl
def MB (lo hi:Int) (b:IM Int):Prop:=∀ v,lo≤qbQ v b∧qbQ v b≤hi
theorem MB.up {lo hi:Int} {b:IM Int} (h:MB lo hi b) (n:Int):MB lo (hi+1) (qgw 1 b n):=by
 intro v
 unfold qgw
 rw[qbF]
 have h1:=h v
 have h2:=h n
 split<;>omega
theorem MB.down {lo hi:Int} {b:IM Int} (h:MB lo hi b) (n:Int):MB (lo-1) hi (qgw (-1) b n):=by
 intro v
 unfold qgw
 rw[qbF]
 have h1:=h v
 have h2:=h n
 split<;>omega
theorem MB.ups {lo:Int}:∀ (l:List Int) {hi:Int} {b:IM Int},MB lo hi b→MB lo (hi+l.length) (l.foldl (qgw 1) b)
 | [],hi,b,h=>by simpa using h
 | n :: l,hi,b,h => by
   have:=MB.ups l (h.up n)
   rw[List.foldl_cons,List.length_cons]
   rw[show hi+((l.length+1:Nat):Int)=hi+1+l.length by omega]
   exact this
def qyZ (v:Int) (l:List Int):Int:=(l.count v:Int)
theorem qcu (d v:Int):∀ (l:List Int) (b:IM Int),qbQ v (l.foldl (qgw d) b)=qbQ v b+d*qyZ v l
 | [],b=>by simp[qyZ]
 | n :: l,b => by
   rw[List.foldl_cons,qcu d v l]
   unfold qgw qyZ
   rw[qbF,List.count_cons]
   by_cases h:v=n
   ·subst h
    simp
    rw[Int.mul_add]
    omega
   ·have:(n==v)=false:=by simpa using fun e=>h e.symm
    simp[h,this]
mutual
theorem qhk (v:Int):∀ (t:CTree) (s:FS),qbQ v (qdF t s).1=qbQ v s.1
 | .mk op n binds kids alts,s => by
   rw[qdF,qls v op binds alts kids]
   unfold qc0
   split<;>rfl
theorem qls (v op:Int) (binds:List Int) (alts:List CAlt):∀ (ks:List CTree) (k:Nat) (s:FS),qbQ v (qdx op binds alts ks k s).1=qbQ v s.1
 | [],_,s=>by rw[qdx]
 | kid :: ks,k,s => by
   rw[qdx,qls v op binds alts ks,qcu,qhk v kid,qcu]
   omega
end
abbrev encB:IM Int→List (AVal × AVal):=qkP qau
theorem qdz (b:IM Int):qkK (.map (encB b))=[]:=qzc _ (fun _=>rfl) b
theorem qdA (ρ:Nat→Option Nat) (b:IM Int):qej ρ (.map (encB b))=.map (encB b):=qzp _ (fun _=>rfl) ρ b
theorem qoi (h:Heap) (r:Nat) (v:Int) (m:IM Int) (hr:h[r]? = some (.map (encB m))):qhF h .int (.int .i64 0) false (.map (some r)) (.int .i64 v)=some (.int .i64 (qbQ v m)):=by
 rw[qtn qau h r _ false v m hr]
 unfold qbQ
 cases qbt v m<;>rfl
theorem qzz (h:Heap) (r:Nat) (v x:Int) (m:IM Int) (hr:h[r]? = some (.map (encB m))):qdK h .int (.map (some r)) (.int .i64 v) (.int .i64 x)=some (h.set r (.map (encB (qh1 v x m)))) :=
 qzO qau h r v x m rfl hr
section
variable {L:Lib} (hL:Plain L)
def qsQ (A:AVal) (kid:CTree) (l:List Int) (K:List AVal) (n k:Nat) (o:IM Unit) (b:IM Int) (j:Nat):St :=
 ⟨kt [0,1,2,7,8,36,37,38,46,47,48] [A,.map (some 0),.map (some 1),qaw kid,.list (l.map qau) none,.list K none,.int .i64 n,.int .i64 k,.list (l.map qau) none,.int .i64 l.length,.int .i64 j],[.map (encB b),.map (encU o)]⟩
def qu3 (A:AVal) (kid:CTree) (l:List Int) (K:List AVal) (n k:Nat) (o:IM Unit) (b:IM Int):St :=
 ⟨kt [0,1,2,7,8,36,37,38] [A,.map (some 0),.map (some 1),qaw kid,.list (l.map qau) none,.list K none,.int .i64 n,.int .i64 k],[.map (encB b),.map (encU o)]⟩
theorem qwY (A:AVal) (hA:qax A=true) (kid:CTree) (l:List Int) (hl:l.length<2 ^ 30) (K:List AVal) (hK:qas K=true) (n k:Nat) (o:IM Unit) (b:IM Int) (c:Int) (hc:0≤c) (hc2:c+2 ^ 30<2 ^ 62) (hb:MB 0 c b) :
  qbd L.pure (call L) 2 [0,1,2,7,8,36,37,38,46,47,48] [0,1,2,7,8,36,37,38] 2 qiS (qsQ A kid l K n k o b 0)=some (.normal,qu3 A kid l K n k o (l.foldl (qgw 1) b)):=by
 have hT:=qco kid
 refine (qeu l (qgw 1) (qsQ A kid l K n k o) (qu3 A kid l K n k o) (fun b j=>MB 0 (c+(j:Nat)) b) b (by simpa using hb) ?_ ?_).2
 ·intro j hj b hb
  obtain⟨h1,h2,h3⟩:=qaN qau l hl j hj
  refine⟨?_,by have:=hb.up l[j];rw[show c+((j+1:Nat):Int)=c+(j:Nat)+1 by omega];exact this⟩
  generalize l[j]=v at *
  have hv:=hb v
  have w:IntKind.i64.wrap (qbQ v b+1)=qbQ v b+1:=qcl (by omega) (by omega)
  have hlk:=fun (h:Heap) (hr:h[0]? = some (.map (encB b)))=>qoi h 0 v b hr
  have hup:=fun (h:Heap) (hr:h[0]? = some (.map (encB b)))=>qzz h 0 v (qbQ v b+1) b hr
  unfold qiS qsQ qgw
  simp -implicitDefEqProofs only[ev_,aOp,opd,qaa,qaq,qaA,qaz,qad,qab,qag,qav,ren,renC,qaW,qbc,↓reduceIte,reduceCtorEq,Nat.reduceEqDiff,Nat.reduceAdd,Nat.reduceLT,Nat.reduceLeDiff,qa9,qah,h1,h2,h3,hlk,hup,w,hA,hT,hK,qdz,qdA,qba,qbb]
 ·intro b _
  have h0:=qaO l.length
  unfold qiS qsQ qu3
  simp -implicitDefEqProofs only[ev_,aOp,opd,qaa,qaA,qaz,qab,gcE,qav,ren,renC,qaW,qbc,↓reduceIte,reduceCtorEq,Nat.reduceEqDiff,Nat.reduceAdd,Nat.reduceLT,Nat.reduceLeDiff,qah,h0,hA,hT,hK,qdz,qdA,qba,qbb]
def qsR (A:AVal) (l:List Int) (K:List AVal) (n k:Nat) (o:IM Unit) (b:IM Int) (j:Nat):St :=
 ⟨kt [0,1,2,36,37,38,61,62,63] [A,.map (some 0),.map (some 1),.list K none,.int .i64 n,.int .i64 k,.list (l.map qau) none,.int .i64 l.length,.int .i64 j],[.map (encB b),.map (encU o)]⟩
def qmr (A:AVal) (K:List AVal) (n k:Nat) (o:IM Unit) (b:IM Int):St :=
 ⟨kt [0,1,2,36,37,38] [A,.map (some 0),.map (some 1),.list K none,.int .i64 n,.int .i64 k],[.map (encB b),.map (encU o)]⟩
theorem qwZ (A:AVal) (hA:qax A=true) (l:List Int) (hl:l.length<2 ^ 30) (K:List AVal) (hK:qas K=true) (n k:Nat) (o:IM Unit) (b:IM Int) (c:Int) (hc:0≤c) (hc2:c<2 ^ 62) (hb:MB 0 c b) :
  qbd L.pure (call L) 2 [0,1,2,36,37,38,61,62,63] [0,1,2,36,37,38] 4 qiT (qsR A l K n k o b 0)=some (.normal,qmr A K n k o (l.foldl (qgw (-1)) b)):=by
 refine (qeu l (qgw (-1)) (qsR A l K n k o) (qmr A K n k o) (fun b j=>MB (-(j:Nat)) c b) b (by simpa using hb) ?_ ?_).2
 ·intro j hj b hb
  obtain⟨h1,h2,h3⟩:=qaN qau l hl j hj
  refine⟨?_,by have:=hb.down l[j];rw[show -((j+1:Nat):Int) = -(j:Nat)-1 by omega];exact this⟩
  generalize l[j]=v at *
  have hv:=hb v
  have w:IntKind.i64.wrap (qbQ v b-1)=qbQ v b + -1:=by rw[qcl (by omega) (by omega)];rfl
  have hlk:=fun (h:Heap) (hr:h[0]? = some (.map (encB b)))=>qoi h 0 v b hr
  have hup:=fun (h:Heap) (hr:h[0]? = some (.map (encB b)))=>qzz h 0 v (qbQ v b + -1) b hr
  unfold qiT qsR qgw
  simp -implicitDefEqProofs only[ev_,aOp,opd,qaa,qaq,qaA,qaz,qad,qab,qag,qav,ren,renC,qaW,qbc,↓reduceIte,reduceCtorEq,Nat.reduceEqDiff,Nat.reduceAdd,Nat.reduceLT,Nat.reduceLeDiff,Int.reduceNeg,qa9,qah,h1,h2,h3,hlk,hup,w,hA,hK,qdz,qdA,qba,qbb]
 ·intro b _
  have h0:=qaO l.length
  unfold qiT qsR qmr
  simp -implicitDefEqProofs only[ev_,aOp,opd,qaa,qaA,qaz,qab,gcE,qav,ren,renC,qaW,qbc,↓reduceIte,reduceCtorEq,Nat.reduceEqDiff,Nat.reduceAdd,Nat.reduceLT,Nat.reduceLeDiff,h0,hA,hK,qdz,qdA,qba,qbb]
def qhj (op:Int) (binds:List Int) (alts:List CAlt) (k:Nat) (s:FS) (kid:CTree):FS :=
 ((qbg op binds alts k).foldl (qgw (-1)) (qdF kid ((qbg op binds alts k).foldl (qgw 1) s.1,s.2)).1,(qdF kid ((qbg op binds alts k).foldl (qgw 1) s.1,s.2)).2)
theorem qjO (op:Int) (binds:List Int) (alts:List CAlt):∀ (ks:List CTree) (k:Nat) (s:FS),qbs (fun k s kid=>(.ok (qhj op binds alts k s kid):Except Unit FS)) ks k s=.ok (qdx op binds alts ks k s)
 | [],k,s=>by rw[qdx];rfl
 | kid::ks,k,s=>by rw[qbs,qdx];exact qjO op binds alts ks (k+1) _
theorem qmv (op:Int) (binds:List Int) (alts:List CAlt) (k:Nat) (s:FS) (kid:CTree) (v:Int):qbQ v (qhj op binds alts k s kid).1=qbQ v s.1:=by
 unfold qhj
 dsimp only
 rw[qcu,qhk v kid,qcu]
 omega
include hL
theorem qw0 (h236:L.fns 236=some fn236) (op n:Int) (binds:List Int) (kids:List CTree) (alts:List CAlt) (hb:(binds++alts.flatMap (·.binds)).length<2 ^ 30) (hk:kids.length<2 ^ 30) (ha:alts.length<2 ^ 30)
  (c:Int) (hc:0≤c) (hc2:c+2 ^ 30<2 ^ 62) (s0:FS) (hs0:MB 0 c s0.1)
  (ih:∀ kid∈kids,∀ (b:IM Int) (o:IM Unit),MB 0 (c+2 ^ 30) b→call L 196 [qaw kid,.map (some 0),.map (some 1)] [.map (encB b),.map (encU o)]=some (.val (.tuple []),[.map (encB (qdF kid (b,o)).1),.map (encU (qdF kid (b,o)).2)])) :
  qbd L.pure (call L) 2 [0,1,2,36,37,38] [] 0 qiU (qmr (.vptr [.int .i64 op,.int .i64 n,.list (binds.map qau) none,.list (kids.map qaw) none,.list (alts.map qar) none] 0) (kids.map qaw) kids.length 0 s0.2 s0.1) =
   some (.normal,⟨kt [] [],[.map (encB (qdx op binds alts kids 0 s0).1),.map (encU (qdx op binds alts kids 0 s0).2)]⟩):=by
 have hp:=hL.pure
 have hA:qax (.vptr [.int .i64 op,.int .i64 n,.list (binds.map qau) none,.list (kids.map qaw) none,.list (alts.map qar) none] 0)=true:=by
  simp only[qax,qas,qah,qak,qbN,Bool.and_self]
 have hK:=qbN kids
 refine ((qcr kids (fun k s kid=>(.ok (qhj op binds alts k s kid):Except Unit FS)) (fun s k=>qmr (.vptr [.int .i64 op,.int .i64 n,.list (binds.map qau) none,.list (kids.map qaw) none,.list (alts.map qar) none] 0) (kids.map qaw) kids.length k s.2 s.1)
  (fun s=>⟨kt [] [],[.map (encB s.1),.map (encU s.2)]⟩) (fun _ _=>False) (fun s _=>MB 0 c s.1) s0 hs0 ?_ ?_ ?_).1 _ (qjO op binds alts kids 0 s0)).2
 ·intro k hk' s s' hs hq
  injection hq with hq
  subst hq
  refine⟨?_,fun v=>by rw[qmv];exact hs v⟩
  obtain⟨h1,h2,h3⟩:=qaN qaw kids hk k hk'
  have hbo:=qqk hL h236 op n binds (.list (kids.map qaw) none) alts ha k (by omega)
  have hbl:=qns op binds alts k
  have ihk:=ih kids[k] (List.getElem_mem hk')
  unfold qhj
  generalize kids[k]=kid at *
  have hT:=qco kid
  generalize qbg op binds alts k=l at *
  have hl0:=qwY (L:=L) _ hA kid l (by omega) (kids.map qaw) hK kids.length k s.2 s.1 c hc (by omega) hs
  have hup:=MB.ups l hs
  have hup2:MB 0 (c+2 ^ 30) (l.foldl (qgw 1) s.1):=fun v=>⟨(hup v).1,by have:=(hup v).2;omega⟩
  have ihk:=ihk (l.foldl (qgw 1) s.1) s.2 hup2
  have hl1:=qwZ (L:=L) _ hA l (by omega) (kids.map qaw) hK kids.length k (qdF kid (l.foldl (qgw 1) s.1,s.2)).2 (qdF kid (l.foldl (qgw 1) s.1,s.2)).1 (c+2 ^ 30) (by omega) (by omega)
   (fun v=>by rw[qhk];exact hup2 v)
  generalize qdF kid (l.foldl (qgw 1) s.1,s.2)=r at *
  unfold qsQ qu3 at hl0
  unfold qsR qmr at hl1
  simp only[Int.natCast_zero] at hl0 hl1
  obtain⟨tc,htc,hdt⟩:=qcf kid
  rw[htc] at ihk hl0 h3 hT
  unfold qiU qmr
  simp -implicitDefEqProofs only[ev_,aOp,opd,qaa,qaA,qbq,qaz,qad,qab,qag,qav,ren,renC,qaW,qbc,↓reduceIte,reduceCtorEq,Nat.reduceEqDiff,Nat.reduceAdd,Nat.reduceLT,Nat.reduceLeDiff,Int.reduceNeg,qah,qak,h1,h2,h3,hbo,hl0,ihk,hl1,hK,hT,hdt,qdz,qdA,qba,qbb,qan L hp,hp,qmd,List.range_succ,List.range_zero]
 ·intro k hk' s e hs hq
  cases hq
 ·intro s _
  have h0:=qaO kids.length
  unfold qiU qmr
  simp -implicitDefEqProofs only[ev_,aOp,opd,qaa,qaA,qaz,qab,gcE,qav,ren,renC,qaW,qbc,↓reduceIte,reduceCtorEq,Nat.reduceEqDiff,Nat.reduceAdd,h0,hK,qdz,qdA,qba,qbb]
theorem qw1 (h236:L.fns 236=some fn236) (h196:L.fns 196=some fn196):∀ (t:CTree),TFit t→∀ (c:Int) (b:IM Int) (o:IM Unit),0≤c→c+2 ^ 30*(hgt t:Int)<2 ^ 62→MB 0 c b →
  call L 196 [qaw t,.map (some 0),.map (some 1)] [.map (encB b),.map (encU o)]=some (.val (.tuple []),[.map (encB (qdF t (b,o)).1),.map (encU (qdF t (b,o)).2)]):=by
 have hs:L.summ 196=none:=hL.summ 196 (by rw[h196];exact fun hx=>by cases hx)
 intro t
 induction t using CTree.ind with
 | h op n binds kids alts ih =>
   intro hf c b o hc hc2 hb
   cases hf with
   | mk _ _ _ _ _ hbf hkf haf hfk =>
     rw[hgt] at hc2
     have hloop:=qw0 hL h236 op n binds kids alts hbf hkf haf c hc (by omega) (qc0 op n (b,o)) (by unfold qc0;split<;>exact hb) (by
      intro kid hkid b' o' hb'
      have hh:=qd8 hkid
      exact ih kid hkid (hfk kid hkid) (c+2 ^ 30) b' o' (by omega) (by omega) hb')
     rw[qdF]
     refine qaM hs h196 ?_
     rw[qa6]
     have hK:=qbN kids
     unfold qmr at hloop
     simp only[Int.natCast_zero] at hloop
     have hlk:=fun (h:Heap) (hr:h[0]? = some (.map (encB b)))=>qoi h 0 n b hr
     have hup:=fun (h:Heap) (hr:h[1]? = some (.map (encU o)))=>qzO (fun _:Unit=>AVal.agg []) h 1 n () o rfl hr
     unfold qc0 at hloop ⊢
     by_cases h0:op=0
     ·subst h0
      by_cases hz:qbQ n b=0
      ·rw[if_pos ⟨rfl,hz⟩] at hloop ⊢
       dsimp only at hloop
       unfold fn196
       simp -implicitDefEqProofs only[ev_,aOp,opd,qaa,qaq,qaA,qbq,qaz,qab,qae,qag,qai,qbK,qap,qac,qaj,qav,ren,renC,qaW,qbc,↓reduceIte,reduceCtorEq,Nat.reduceEqDiff,Nat.reduceAdd,Nat.reduceLT,Nat.reduceLeDiff,qah,qak,hlk,hup,hz,hloop,hK,qdz,qdA,qba,qbb]
      ·have hz':(qbQ n b==0)=false:=by simpa using hz
       rw[if_neg (fun h=>hz h.2)] at hloop ⊢
       dsimp only at hloop
       unfold fn196
       simp -implicitDefEqProofs only[ev_,aOp,opd,qaa,qaA,qbq,qaz,qab,qae,qag,qai,qap,qac,qaj,qav,ren,renC,qaW,qbc,↓reduceIte,reduceCtorEq,Nat.reduceEqDiff,Nat.reduceAdd,Nat.reduceLT,Nat.reduceLeDiff,qah,qak,hlk,hz',hloop,hK,qdz,qdA,qba,qbb]
     ·have h0':(op==0)=false:=by simpa using h0
      rw[if_neg (fun h=>h0 h.1)] at hloop ⊢
      dsimp only at hloop
      unfold fn196
      simp -implicitDefEqProofs only[ev_,aOp,opd,qaa,qaA,qbq,qaz,qab,qae,qag,qai,qap,qac,qaj,qav,ren,renC,qaW,qbc,↓reduceIte,reduceCtorEq,Nat.reduceEqDiff,Nat.reduceAdd,Nat.reduceLT,Nat.reduceLeDiff,qah,qak,h0',hloop,hK,qdz,qdA,qba,qbb]
end
def qw5 (n:Int):List Int→List Int
 | []=>[n]
 | m::l=>if n≤m then n::m::l else m::qw5 n l
def qa0 (l:List Int):List Int:=l.foldr qw5 []
theorem qjR (n:Int):∀ l,(qw5 n l).Perm (n::l)
 | []=>.refl _
 | m :: l => by
   unfold qw5
   split
   ·exact .refl _
   ·exact ((qjR n l).cons m).trans (.swap n m l)
theorem qjS (n:Int):∀ {l:List Int},l.Pairwise (· ≤ ·)→(qw5 n l).Pairwise (· ≤ ·)
 | [],_=>by simp[qw5]
 | m :: l,h => by
   rw[List.pairwise_cons] at h
   unfold qw5
   split
   ·rename_i hnm
    rw[List.pairwise_cons]
    refine⟨fun x hx=>?_,List.pairwise_cons.2 h⟩
    rcases List.mem_cons.1 hx with rfl | hx
    ·exact hnm
    ·have:=h.1 x hx;omega
   ·rw[List.pairwise_cons]
    refine⟨fun x hx=>?_,qjS n h.2⟩
    rcases List.mem_cons.1 ((qjR n l).mem_iff.1 hx) with rfl | hx
    ·omega
    ·exact h.1 x hx
theorem qcz:∀ l,(qa0 l).Perm l
 | []=>.refl _
 | n::l=>(qjR n (qa0 l)).trans ((qcz l).cons n)
theorem qc3:∀ l,(qa0 l).Pairwise (· ≤ ·)
 | []=>.nil
 | n::l=>qjS n (qc3 l)
theorem qoT {a b:List Int} (ha:a.Pairwise (· ≤ ·)) (hb:b.Pairwise (· ≤ ·)) (h:a.Perm b):a=b :=
 List.Perm.eq_of_pairwise (le:=fun x y:Int=>x≤y) (fun x y _ _ h1 h2=>by omega) ha hb h
theorem qkY {a b:List Int} (h:a.Perm b):qa0 a=qa0 b :=
 qoT (qc3 a) (qc3 b) ((qcz a).trans (h.trans (qcz b).symm))
theorem qeb (l:List Int):(qa0 l).length=l.length:=(qcz l).length_eq
theorem qow {α β:Type} (f:α→β):∀ {es:List β} {l:List α},es.Perm (l.map f)→∃ l':List α,l'.Perm l∧es=l'.map f
 | [],l,h => by
   have:=h.symm.eq_nil
   rw[List.map_eq_nil_iff] at this
   exact⟨[],by rw[this],rfl⟩
 | e :: es,l,h => by
   obtain⟨x,hx,rfl⟩:=List.mem_map.1 (h.mem_iff.1 (List.mem_cons_self ..))
   obtain⟨s,t,rfl⟩:=List.append_of_mem hx
   have h1:(f x::es).Perm (f x::(s++t).map f):=by
    refine h.trans ?_
    rw[List.map_append,List.map_cons,List.map_append]
    exact List.perm_middle
   obtain⟨l',h2,rfl⟩:=qow f h1.cons_inv
   exact⟨x::l',(h2.cons x).trans List.perm_middle.symm,rfl⟩
theorem qtL {pure:Nat→Bool} {call:CallT} {k:RangeK} {b c:ACode} {s s1:St} {es:List (AVal × AVal)} {r:AExit × St} (hpre:qcd pure call k.pre s=some (.normal,s1)) (hes:qcC k.str (opd s1.tm k.m) s1.h=some es)
  (hall:∀ es',qcq k.str es es'→qcx (qcd pure call) k (qaS pure call b) (qaS pure call c) s s1 es'=some r):qaS pure call (.range k b c) s=some r:=by
 rw[qaS,qeC,hpre]
 dsimp only
 rw[hes]
 exact (qcG (qbS _ _)).2 hall
def qcg {β:Type} (m:IM β):List Int:=m.map (·.1)
def qd7 (t:CTree):List Int:=qa0 (qcg (qdF t ([],[])).2)
def quy (acc:List Int):AVal:=if acc=[] then .list [] (some none) else .vec 3 acc.length
def qux (acc:List Int):Heap:=if acc=[] then [] else [.vec (acc.map qau) 1]
def quw (b:IM Int) (acc:List Int):St:=⟨kt [4,12] [quy acc,.ptr (some (2,0))],[.gone,.map (encB b),.gone]++qux acc⟩
theorem qvA (id n:Nat):qfC (.vec id n)=false:=rfl
theorem qyf:qfC (.list [] (some none))=true:=rfl
theorem qlS (pure:Nat→Bool) (call:CallT) (sz bytes:Nat) (x y:Opd) (tm:Tmps) (h:Heap):qhG pure call (.append sz bytes x y) tm h =
  if qfC (opd tm x)=true then (match qdh h sz (opd tm x) (opd tm y) with | some (v,h')=>some (.val v,h') | none=>none) else aOp pure call (.append sz bytes x y) tm h:=rfl
theorem qgx (pure:Nat→Bool) (call:CallT) (sz:Nat) (ps:List Opd) (tm:Tmps) (h:Heap):qhG pure call (.buildSlice sz ps) tm h=aOp pure call (.buildSlice sz ps) tm h:=rfl
section
variable {L:Lib} (hL:Plain L)
theorem qv1 (b:IM Int) (acc:List Int) (hl:acc.length<2 ^ 30) (k:Int) :
  (qbe (qcd L.pure (call L)) 2 fn167_k0 (qaS L.pure (call L) qf5) (.int .i64 k,.agg []) (quw b acc)).map (fun r=>(r.1,gc 3 fn167_k0.kr r.2))=some (.normal,quw b (acc++[k])):=by
 unfold qbe fn167_k0 qf5 quw
 have hall:=qcR acc
 have hn:acc++[k]≠[]:=by simp
 have e1:quy (acc++[k])=.vec 3 (acc.length+1):=by unfold quy;rw[if_neg hn];simp
 have e2:qux (acc++[k])=[.vec ((acc++[k]).map qau) 1]:=by unfold qux;rw[if_neg hn]
 rw[e1,e2]
 by_cases hz:acc=[]
 ·subst hz
  have e3:quy []=.list [] (some none):=rfl
  have e4:qux []=[]:=rfl
  rw[e3,e4]
  simp -implicitDefEqProofs only[ev_,aOp,opd,qaa,leaf,qav,ren,renC,qaW,qbc,↓reduceIte,Nat.reduceEqDiff,Nat.reduceAdd,Nat.reduceLT,Nat.reduceLeDiff,qa9,qbl,qbI,qqO,qds,qkv,qlS,qgx,qyf,qdh,qdz,qdA]
 ·have e3:quy acc=.vec 3 acc.length:=by unfold quy;rw[if_neg hz]
  have e4:qux acc=[.vec (acc.map qau) 1]:=by unfold qux;rw[if_neg hz]
  have hle:acc.length+1≤1073741824:=by omega
  rw[e3,e4]
  simp -implicitDefEqProofs only[ev_,aOp,opd,qaa,leaf,qav,ren,renC,qaW,qbc,qa4,↓reduceIte,Nat.reduceEqDiff,Nat.reduceAdd,Nat.reduceLT,Nat.reduceLeDiff,qa9,qbl,qbI,qbV,Nat.mul_one,qqO,qds,qkv,qlS,qgx,qvA,hle,qdz,qdA]
def qzG (b:IM Int) (acc:List Int):St:=⟨upd (upd (quw b acc).tm (some 13) (.tuple [.bool false])) (some 14) (.bool false),(quw b acc).h⟩
theorem qy1 (b:IM Int) (acc:List Int):qbH (qcd L.pure (call L)) 2 fn167_k0 (quw b acc)=some (.normal,qzG b acc):=by
 unfold qbH fn167_k0 qzG quw
 simp -implicitDefEqProofs only[ev_,aOp,opd,qaa,↓reduceIte,Nat.reduceEqDiff,qqO]
theorem qwu (b:IM Int):∀ (o':IM Unit) (acc:List Int) (s:St),acc.length+o'.length<2 ^ 30→gc 3 fn167_k0.kr s=quw b acc →
  qbf (qcd L.pure (call L)) 2 fn167_k0 (qaS L.pure (call L) qf5) (encU o') s=some (.normal,qzG b (acc++qcg o'))
 | [],acc,s,_,hs => by
   show qbH _ 2 fn167_k0 (gc 3 fn167_k0.kr s)=_
   rw[hs]
   have:acc++qcg ([]:IM Unit)=acc:=by simp[qcg]
   rw[this]
   exact qy1 b acc
 | e :: o',acc,s,hl,hs => by
   rw[List.length_cons] at hl
   have hr:=qv1 (L:=L) b acc (by omega) e.1
   rw[← hs] at hr
   obtain⟨⟨x,s'⟩,h1,h2⟩:=Option.map_eq_some_iff.1 hr
   simp only[Prod.mk.injEq] at h2
   obtain⟨rfl,h2⟩:=h2
   show (match qbe _ 2 fn167_k0 _ (.int .i64 e.1,.agg []) (gc 3 fn167_k0.kr s) with | some (.normal,s')=>qbf _ 2 fn167_k0 _ (encU o') s' | r=>qds fn167_k0.id r)=_
   rw[h1]
   have:=qwu b o' (acc++[e.1]) s' (by simp;omega) h2
   rw[List.append_assoc] at this
   exact this
include hL
theorem qsY (hP:CPrims L qa0) (h236:L.fns 236=some fn236) (h196:L.fns 196=some fn196) (h167:L.fns 167=some fn167) (t:CTree) (hf:TFit t) (hh:hgt t<2 ^ 30) (hn:(qdF t ([],[])).2.length<2 ^ 30) (h:Heap) :
  pcall L 167 [qaw t] h=some (.val (.list ((qd7 t).map qau) none),h):=by
 have hp:=hL.pure
 have hfree:=qw1 hL h236 h196 t hf 0 [] [] (by omega) (by omega) (fun v=>by simp[qbQ,qbt])
 refine qa5 hL h167 (by rw[qaT];exact qah _) ?_ h
 unfold qd7
 generalize qdF t ([],[])=r at *
 obtain⟨b,o⟩:=r
 dsimp only at hfree hn ⊢
 have hrange:∀ (tm:Tmps),tm 3=.map (some 0)→tm 4=.list [] (some none)→qaS L.pure (call L) (.range fn167_k0 qf5 qiR) ⟨tm,[.map (encU o),.map (encB b)]⟩ =
   some (.ret,⟨kt [2] [.list ((qa0 (qcg o)).map qau) (if qa0 (qcg o)=[] then some none else none)],[.map (encU o),.map (encB b)]⟩):=by
  intro tm h3 h4
  refine qtL (s1:=⟨upd tm (some 11) (.map (some 0)),[.map (encU o),.map (encB b)]⟩) (es:=encU o) ?_ ?_ ?_
  ·unfold fn167_k0
   simp -implicitDefEqProofs only[ev_,aOp,opd,h3]
  ·unfold fn167_k0
   simp -implicitDefEqProofs only[ev_,opd,↓reduceIte,qcC,qok,h3]
  ·intro es' hes
   have hes':es'.Perm (o.map fun p=>((.int .i64 p.1:AVal),AVal.agg [])):=hes
   obtain⟨o',hpm,rfl⟩:=qow _ hes'
   have hrun:=qwu (L:=L) b o' [] ⟨upd (upd tm (some 11) (.map (some 0))) (some 12) (.ptr (some (2,0))),[.gone,.map (encB b),.gone]⟩ (by rw[List.length_nil,hpm.length_eq];omega) ?_
   ·rw[List.nil_append] at hrun
    have hsort:qa0 (qcg o')=qa0 (qcg o):=qkY (hpm.map _)
    rw[← hsort]
    have hlen:(qcg o').length=o.length:=by unfold qcg;rw[List.length_map,hpm.length_eq]
    generalize qcg o'=ks at *
    unfold qcx
    have hh:qkS (opd (upd tm (some 11) (.map (some 0))) fn167_k0.m) [.map (encU o),.map (encB b)]=[.gone,.map (encB b),.gone]:=rfl
    have h15:fn167_k0.it=12:=rfl
    dsimp only
    rw[hh,h15]
    simp only[List.length_cons,List.length_nil]
    show Option.map _ (match qbf _ 2 _ _ (encU o') _ with | some (.normal,s2)=>_ | some (e,s2)=>_ | none=>_)=_
    rw[hrun]
    dsimp only
    have hm2:opd (upd tm (some 11) (.map (some 0))) fn167_k0.m=.map (some 0):=rfl
    have hk:fn167_k0.keep=[2]:=rfl
    rw[hm2,hk]
    have hs0:=hP.sort0
    unfold qzG quw qiR
    by_cases hz:ks=[]
    ·subst hz
     have e3:quy []=.list [] (some none):=rfl
     have e4:qux []=[]:=rfl
     have e5:qa0 []=[]:=rfl
     rw[e3,e4,e5]
     simp -implicitDefEqProofs only[ev_,aOp,opd,gcE,qav,ren,renC,qaW,qbc,↓reduceIte,Nat.reduceEqDiff,Nat.reduceAdd,Nat.reduceLeDiff,qct,hs0,qdz,qdA,qba,qbb,qan L hp,hp]
    ·have e3:quy ks=.vec 3 ks.length:=by unfold quy;rw[if_neg hz]
     have e4:qux ks=[.vec (ks.map qau) 1]:=by unfold qux;rw[if_neg hz]
     have hs1:=hP.sort ks hz (by omega)
     have hzs:¬ qa0 ks=[]:=fun h=>hz (by have:=qeb ks;rw[h] at this;exact List.length_eq_zero_iff.1 this.symm)
     have hsl:=qeb ks
     have hdS:=qah (qa0 ks)
     have hwS:((qa0 ks).map qau).map wipeCell=(qa0 ks).map qau:=by rw[List.map_map];rfl
     have hlS:((qa0 ks).map qau).all leaf=true:=by
      rw[List.all_eq_true]
      intro x hx
      obtain⟨y,_,rfl⟩:=List.mem_map.1 hx
      rfl
     generalize qa0 ks=ss at *
     rw[e3,e4]
     simp -implicitDefEqProofs only[ev_,aOp,opd,gcE,qav,ren,renC,qaW,qbc,↓reduceIte,reduceCtorEq,Nat.reduceEqDiff,Nat.reduceAdd,Nat.reduceLT,Nat.reduceLeDiff,frz,frzC,qiF,qrl,qbl,qb2,qbI,qb3,qbV,Nat.mul_one,qct,hs1,hsl,hzs,hdS,hwS,hlS,qdz,qdA,qba,qbb,qan L hp,hp]
   ·unfold quw fn167_k0
    have e3:quy []=.list [] (some none):=rfl
    have e4:qux []=[]:=rfl
    rw[e3,e4]
    simp -implicitDefEqProofs only[ev_,qav,ren,renC,qaW,qbc,↓reduceIte,Nat.reduceEqDiff,Nat.reduceAdd,Nat.reduceLT,Nat.reduceLeDiff,h4,qdz,qdA]
 obtain⟨tc,htc,hdt⟩:=qcf t
 have hn0:encB []=[]:=rfl
 have hn1:encU []=[]:=rfl
 rw[hn0,hn1] at hfree
 rw[htc] at hfree ⊢
 generalize (if qa0 (qcg o)=[] then some none else none:Option (Option Nat))=ow at *
 unfold fn167
 generalize fn167_k0=kk at *
 generalize qf5=bb at *
 generalize qiR=aa at *
 simp -implicitDefEqProofs only[ev_,aOp,opd,qap,qac,qaf,qaj,qav,ren,renC,qaW,qbc,↓reduceIte,reduceCtorEq,Nat.reduceEqDiff,Nat.reduceAdd,Nat.reduceLT,qal,hfree,hrange,hdt,qdz,qdA,qba,qbb,qan L hp,hp]
end
end Go.Abs
