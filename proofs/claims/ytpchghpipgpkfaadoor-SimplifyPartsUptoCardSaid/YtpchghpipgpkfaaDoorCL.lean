/-
  PARTS OF A PROOF, joined: an abstract machine for quiet code, its evaluation, and what the seat's functions answer on it. Conditions: none.
-/
import Derived.Test.YtpchghpipgpkfaaDoorCJ
set_option linter.unusedVariables false
set_option linter.unusedSimpArgs false
set_option maxRecDepth 100000
set_option maxHeartbeats 4000000
namespace Go.Abs
abbrev FS:=IM Int × IM Unit
def qdV (v:Int) (b:IM Int):Int:=(qbS v b).getD 0
def qf6 (d:Int) (b:IM Int) (n:Int):IM Int:=qpB n (qdV n b+d) b
def qdM (op n:Int) (s:FS):FS:=if op=0∧qdV n s.1=0 then (s.1,qpB n () s.2) else s
mutual
def qdS:CTree→FS→FS
 | .mk op n binds kids alts,s=>qd0 op binds alts kids 0 (qdM op n s)
def qd0 (op:Int) (binds:List Int) (alts:List CAlt):List CTree→Nat→FS→FS
 | [],_,s=>s
 | kid :: ks,k,s =>
   qd0 op binds alts ks (k+1)
    ((qco op binds alts k).foldl (qf6 (-1)) (qdS kid ((qco op binds alts k).foldl (qf6 1) s.1,s.2)).1,(qdS kid ((qco op binds alts k).foldl (qf6 1) s.1,s.2)).2)
end
mutual
def hgt:CTree→Nat
 | .mk _ _ _ kids _=>qdg kids+1
def qdg:List CTree→Nat
 | []=>0
 | k::ks=>max (hgt k) (qdg ks)
end
theorem qew {k:CTree} {ks:List CTree} (h:k∈ks):hgt k≤qdg ks:=by
 induction ks with
 | nil=>cases h
 | cons x xs ih =>
   unfold qdg
   rcases List.mem_cons.1 h with rfl | h
   ·omega
   ·have:=ih h;omega
inductive TFit:CTree→Prop
 | mk (op n:Int) (binds:List Int) (kids:List CTree) (alts:List CAlt) (hb:(binds++alts.flatMap (·.binds)).length<2 ^ 30) (hk:kids.length<2 ^ 30) (ha:alts.length<2 ^ 30) (h:∀ k∈kids,TFit k):TFit (.mk op n binds kids alts)
theorem qin (alts:List CAlt) {a:CAlt} (h:a∈alts):a.binds.length≤(alts.flatMap (·.binds)).length:=by
 induction alts with
 | nil=>cases h
 | cons x xs ih =>
   rw[List.flatMap_cons,List.length_append]
   rcases List.mem_cons.1 h with rfl | h
   ·omega
   ·have:=ih h;omega
theorem qq6 (op:Int) (binds:List Int) (alts:List CAlt) (k:Nat):(qco op binds alts k).length≤(binds++alts.flatMap (·.binds)).length:=by
 unfold qco
 rw[List.length_append]
 split
 ·omega
 ·split
  ·split
   ·rename_i a ha
    have:=qin alts (List.mem_of_getElem? ha)
    omega
   ·simp
  ·simp
theorem qlj (v n x:Int) (b:IM Int):qdV v (qpB n x b)=if v=n then x else qdV v b:=by
 unfold qdV
 rw[qjd]
 split<;>rfl
def MB (lo hi:Int) (b:IM Int):Prop:=∀ v,lo≤qdV v b∧qdV v b≤hi
theorem MB.up {lo hi:Int} {b:IM Int} (h:MB lo hi b) (n:Int):MB lo (hi+1) (qf6 1 b n):=by
 intro v
 unfold qf6
 rw[qlj]
 have h1:=h v
 have h2:=h n
 split<;>omega
theorem MB.down {lo hi:Int} {b:IM Int} (h:MB lo hi b) (n:Int):MB (lo-1) hi (qf6 (-1) b n):=by
 intro v
 unfold qf6
 rw[qlj]
 have h1:=h v
 have h2:=h n
 split<;>omega
theorem MB.ups {lo:Int}:∀ (l:List Int) {hi:Int} {b:IM Int},MB lo hi b→MB lo (hi+l.length) (l.foldl (qf6 1) b)
 | [],hi,b,h=>by simpa using h
 | n :: l,hi,b,h => by
   have:=MB.ups l (h.up n)
   rw[List.foldl_cons,List.length_cons]
   rw[show hi+((l.length+1:Nat):Int)=hi+1+l.length by omega]
   exact this
def qxY (v:Int) (l:List Int):Int:=(l.count v:Int)
theorem qcP (d v:Int):∀ (l:List Int) (b:IM Int),qdV v (l.foldl (qf6 d) b)=qdV v b+d*qxY v l
 | [],b=>by simp[qxY]
 | n :: l,b => by
   rw[List.foldl_cons,qcP d v l]
   unfold qf6 qxY
   rw[qlj,List.count_cons]
   by_cases h:v=n
   ·subst h
    simp
    rw[Int.mul_add]
    omega
   ·have:(n==v)=false:=by simpa using fun e=>h e.symm
    simp[h,this]
mutual
theorem qjm (v:Int):∀ (t:CTree) (s:FS),qdV v (qdS t s).1=qdV v s.1
 | .mk op n binds kids alts,s => by
   rw[qdS,qkD v op binds alts kids]
   unfold qdM
   split<;>rfl
theorem qkD (v op:Int) (binds:List Int) (alts:List CAlt):∀ (ks:List CTree) (k:Nat) (s:FS),qdV v (qd0 op binds alts ks k s).1=qdV v s.1
 | [],_,s=>by rw[qd0]
 | kid :: ks,k,s => by
   rw[qd0,qkD v op binds alts ks,qcP,qjm v kid,qcP]
   omega
end
abbrev encB:IM Int→List (AVal × AVal):=qkb qaw
theorem qgd (b:IM Int):qnL (.map (encB b))=[]:=qyb _ (fun _=>rfl) b
theorem qge (ρ:Nat→Option Nat) (b:IM Int):qeh ρ (.map (encB b))=.map (encB b):=qyp _ (fun _=>rfl) ρ b
theorem qqr (h:Heap) (r:Nat) (v:Int) (m:IM Int) (hr:h[r]? = some (.map (encB m))):qhg h .int (.int .i64 0) false (.map (some r)) (.int .i64 v)=some (.int .i64 (qdV v m)):=by
 rw[qsa qaw h r _ false v m hr]
 unfold qdV
 cases qbS v m<;>rfl
theorem qzc (h:Heap) (r:Nat) (v x:Int) (m:IM Int) (hr:h[r]? = some (.map (encB m))):qdq h .int (.map (some r)) (.int .i64 v) (.int .i64 x)=some (h.set r (.map (encB (qpB v x m)))) :=
 qyK qaw h r v x m rfl hr
section
variable {L:Lib} (hL:Plain L)
def qrB (A:AVal) (kid:CTree) (l:List Int) (K:List AVal) (n k:Nat) (o:IM Unit) (b:IM Int) (j:Nat):St :=
 ⟨kt [0,1,2,7,8,36,37,38,46,47,48] [A,.map (some 0),.map (some 1),qaB kid,.list (l.map qaw) none,.list K none,.int .i64 n,.int .i64 k,.list (l.map qaw) none,.int .i64 l.length,.int .i64 j],[.map (encB b),.map (encU o)]⟩
def qtR (A:AVal) (kid:CTree) (l:List Int) (K:List AVal) (n k:Nat) (o:IM Unit) (b:IM Int):St :=
 ⟨kt [0,1,2,7,8,36,37,38] [A,.map (some 0),.map (some 1),qaB kid,.list (l.map qaw) none,.list K none,.int .i64 n,.int .i64 k],[.map (encB b),.map (encU o)]⟩
theorem qvY (A:AVal) (hA:qay A=true) (kid:CTree) (l:List Int) (hl:l.length<2 ^ 30) (K:List AVal) (hK:qas K=true) (n k:Nat) (o:IM Unit) (b:IM Int) (c:Int) (hc:0≤c) (hc2:c+2 ^ 30<2 ^ 62) (hb:MB 0 c b) :
  qa5 L.pure (call L) 2 [0,1,2,7,8,36,37,38,46,47,48] [0,1,2,7,8,36,37,38] 2 qir (qrB A kid l K n k o b 0)=some (.normal,qtR A kid l K n k o (l.foldl (qf6 1) b)):=by
 have hT:=qb8 kid
 refine (qfQ l (qf6 1) (qrB A kid l K n k o) (qtR A kid l K n k o) (fun b j=>MB 0 (c+(j:Nat)) b) b (by simpa using hb) ?_ ?_).2
 ·intro j hj b hb
  obtain⟨h1,h2,h3⟩:=qaN qaw l hl j hj
  refine⟨?_,by have:=hb.up l[j];rw[show c+((j+1:Nat):Int)=c+(j:Nat)+1 by omega];exact this⟩
  generalize l[j]=v at *
  have hv:=hb v
  have w:IntKind.i64.wrap (qdV v b+1)=qdV v b+1:=qbN (by omega) (by omega)
  have hlk:=fun (h:Heap) (hr:h[0]? = some (.map (encB b)))=>qqr h 0 v b hr
  have hup:=fun (h:Heap) (hr:h[0]? = some (.map (encB b)))=>qzc h 0 v (qdV v b+1) b hr
  unfold qir qrB qf6
  simp -implicitDefEqProofs only[ev_,aOp,opd,qaa,qaq,qau,qat,qad,qab,qag,qav,ren,renC,qa3,qbd,↓reduceIte,reduceCtorEq,Nat.reduceEqDiff,Nat.reduceAdd,Nat.reduceLT,Nat.reduceLeDiff,qbg,qai,h1,h2,h3,hlk,hup,w,hA,hT,hK,qgd,qge,qa8,qa9]
 ·intro b _
  have h0:=qaO l.length
  unfold qir qrB qtR
  simp -implicitDefEqProofs only[ev_,aOp,opd,qaa,qau,qat,qab,gcE,qav,ren,renC,qa3,qbd,↓reduceIte,reduceCtorEq,Nat.reduceEqDiff,Nat.reduceAdd,Nat.reduceLT,Nat.reduceLeDiff,qai,h0,hA,hT,hK,qgd,qge,qa8,qa9]
def qrC (A:AVal) (l:List Int) (K:List AVal) (n k:Nat) (o:IM Unit) (b:IM Int) (j:Nat):St :=
 ⟨kt [0,1,2,36,37,38,61,62,63] [A,.map (some 0),.map (some 1),.list K none,.int .i64 n,.int .i64 k,.list (l.map qaw) none,.int .i64 l.length,.int .i64 j],[.map (encB b),.map (encU o)]⟩
def qlq (A:AVal) (K:List AVal) (n k:Nat) (o:IM Unit) (b:IM Int):St :=
 ⟨kt [0,1,2,36,37,38] [A,.map (some 0),.map (some 1),.list K none,.int .i64 n,.int .i64 k],[.map (encB b),.map (encU o)]⟩
theorem qvZ (A:AVal) (hA:qay A=true) (l:List Int) (hl:l.length<2 ^ 30) (K:List AVal) (hK:qas K=true) (n k:Nat) (o:IM Unit) (b:IM Int) (c:Int) (hc:0≤c) (hc2:c<2 ^ 62) (hb:MB 0 c b) :
  qa5 L.pure (call L) 2 [0,1,2,36,37,38,61,62,63] [0,1,2,36,37,38] 4 qis (qrC A l K n k o b 0)=some (.normal,qlq A K n k o (l.foldl (qf6 (-1)) b)):=by
 refine (qfQ l (qf6 (-1)) (qrC A l K n k o) (qlq A K n k o) (fun b j=>MB (-(j:Nat)) c b) b (by simpa using hb) ?_ ?_).2
 ·intro j hj b hb
  obtain⟨h1,h2,h3⟩:=qaN qaw l hl j hj
  refine⟨?_,by have:=hb.down l[j];rw[show -((j+1:Nat):Int) = -(j:Nat)-1 by omega];exact this⟩
  generalize l[j]=v at *
  have hv:=hb v
  have w:IntKind.i64.wrap (qdV v b-1)=qdV v b + -1:=by rw[qbN (by omega) (by omega)];rfl
  have hlk:=fun (h:Heap) (hr:h[0]? = some (.map (encB b)))=>qqr h 0 v b hr
  have hup:=fun (h:Heap) (hr:h[0]? = some (.map (encB b)))=>qzc h 0 v (qdV v b + -1) b hr
  unfold qis qrC qf6
  simp -implicitDefEqProofs only[ev_,aOp,opd,qaa,qaq,qau,qat,qad,qab,qag,qav,ren,renC,qa3,qbd,↓reduceIte,reduceCtorEq,Nat.reduceEqDiff,Nat.reduceAdd,Nat.reduceLT,Nat.reduceLeDiff,Int.reduceNeg,qbg,qai,h1,h2,h3,hlk,hup,w,hA,hK,qgd,qge,qa8,qa9]
 ·intro b _
  have h0:=qaO l.length
  unfold qis qrC qlq
  simp -implicitDefEqProofs only[ev_,aOp,opd,qaa,qau,qat,qab,gcE,qav,ren,renC,qa3,qbd,↓reduceIte,reduceCtorEq,Nat.reduceEqDiff,Nat.reduceAdd,Nat.reduceLT,Nat.reduceLeDiff,h0,hA,hK,qgd,qge,qa8,qa9]
def qgV (op:Int) (binds:List Int) (alts:List CAlt) (k:Nat) (s:FS) (kid:CTree):FS :=
 ((qco op binds alts k).foldl (qf6 (-1)) (qdS kid ((qco op binds alts k).foldl (qf6 1) s.1,s.2)).1,(qdS kid ((qco op binds alts k).foldl (qf6 1) s.1,s.2)).2)
theorem qjl (op:Int) (binds:List Int) (alts:List CAlt):∀ (ks:List CTree) (k:Nat) (s:FS),qbr (fun k s kid=>(.ok (qgV op binds alts k s kid):Except Unit FS)) ks k s=.ok (qd0 op binds alts ks k s)
 | [],k,s=>by rw[qd0];rfl
 | kid::ks,k,s=>by rw[qbr,qd0];exact qjl op binds alts ks (k+1) _
theorem qlv (op:Int) (binds:List Int) (alts:List CAlt) (k:Nat) (s:FS) (kid:CTree) (v:Int):qdV v (qgV op binds alts k s kid).1=qdV v s.1:=by
 unfold qgV
 dsimp only
 rw[qcP,qjm v kid,qcP]
 omega
include hL
theorem qv0 (h236:L.fns 236=some fn236) (op n:Int) (binds:List Int) (kids:List CTree) (alts:List CAlt) (hb:(binds++alts.flatMap (·.binds)).length<2 ^ 30) (hk:kids.length<2 ^ 30) (ha:alts.length<2 ^ 30)
  (c:Int) (hc:0≤c) (hc2:c+2 ^ 30<2 ^ 62) (s0:FS) (hs0:MB 0 c s0.1)
  (ih:∀ kid∈kids,∀ (b:IM Int) (o:IM Unit),MB 0 (c+2 ^ 30) b→call L 196 [qaB kid,.map (some 0),.map (some 1)] [.map (encB b),.map (encU o)]=some (.val (.tuple []),[.map (encB (qdS kid (b,o)).1),.map (encU (qdS kid (b,o)).2)])) :
  qa5 L.pure (call L) 2 [0,1,2,36,37,38] [] 0 qit (qlq (.vptr [.int .i64 op,.int .i64 n,.list (binds.map qaw) none,.list (kids.map qaB) none,.list (alts.map qax) none] 0) (kids.map qaB) kids.length 0 s0.2 s0.1) =
   some (.normal,⟨kt [] [],[.map (encB (qd0 op binds alts kids 0 s0).1),.map (encU (qd0 op binds alts kids 0 s0).2)]⟩):=by
 have hp:=hL.pure
 have hA:qay (.vptr [.int .i64 op,.int .i64 n,.list (binds.map qaw) none,.list (kids.map qaB) none,.list (alts.map qax) none] 0)=true:=by
  simp only[qay,qas,qai,qao,qbU,Bool.and_self]
 have hK:=qbU kids
 refine ((qcs kids (fun k s kid=>(.ok (qgV op binds alts k s kid):Except Unit FS)) (fun s k=>qlq (.vptr [.int .i64 op,.int .i64 n,.list (binds.map qaw) none,.list (kids.map qaB) none,.list (alts.map qax) none] 0) (kids.map qaB) kids.length k s.2 s.1)
  (fun s=>⟨kt [] [],[.map (encB s.1),.map (encU s.2)]⟩) (fun _ _=>False) (fun s _=>MB 0 c s.1) s0 hs0 ?_ ?_ ?_).1 _ (qjl op binds alts kids 0 s0)).2
 ·intro k hk' s s' hs hq
  injection hq with hq
  subst hq
  refine⟨?_,fun v=>by rw[qlv];exact hs v⟩
  obtain⟨h1,h2,h3⟩:=qaN qaB kids hk k hk'
  have hbo:=qtw hL h236 op n binds (.list (kids.map qaB) none) alts ha k (by omega)
  have hbl:=qq6 op binds alts k
  have ihk:=ih kids[k] (List.getElem_mem hk')
  unfold qgV
  generalize kids[k]=kid at *
  have hT:=qb8 kid
  generalize qco op binds alts k=l at *
  have hl0:=qvY (L:=L) _ hA kid l (by omega) (kids.map qaB) hK kids.length k s.2 s.1 c hc (by omega) hs
  have hup:=MB.ups l hs
  have hup2:MB 0 (c+2 ^ 30) (l.foldl (qf6 1) s.1):=fun v=>⟨(hup v).1,by have:=(hup v).2;omega⟩
  have ihk:=ihk (l.foldl (qf6 1) s.1) s.2 hup2
  have hl1:=qvZ (L:=L) _ hA l (by omega) (kids.map qaB) hK kids.length k (qdS kid (l.foldl (qf6 1) s.1,s.2)).2 (qdS kid (l.foldl (qf6 1) s.1,s.2)).1 (c+2 ^ 30) (by omega) (by omega)
   (fun v=>by rw[qjm];exact hup2 v)
  generalize qdS kid (l.foldl (qf6 1) s.1,s.2)=r at *
  unfold qrB qtR at hl0
  unfold qrC qlq at hl1
  simp only[Int.natCast_zero] at hl0 hl1
  obtain⟨tc,htc,hdt⟩:=qcc kid
  rw[htc] at ihk hl0 h3 hT
  unfold qit qlq
  simp -implicitDefEqProofs only[ev_,aOp,opd,qaa,qau,qbc,qat,qad,qab,qag,qav,ren,renC,qa3,qbd,↓reduceIte,reduceCtorEq,Nat.reduceEqDiff,Nat.reduceAdd,Nat.reduceLT,Nat.reduceLeDiff,Int.reduceNeg,qai,qao,h1,h2,h3,hbo,hl0,ihk,hl1,hK,hT,hdt,qgd,qge,qa8,qa9,qam L hp,hp,qfW,List.range_succ,List.range_zero]
 ·intro k hk' s e hs hq
  cases hq
 ·intro s _
  have h0:=qaO kids.length
  unfold qit qlq
  simp -implicitDefEqProofs only[ev_,aOp,opd,qaa,qau,qat,qab,gcE,qav,ren,renC,qa3,qbd,↓reduceIte,reduceCtorEq,Nat.reduceEqDiff,Nat.reduceAdd,h0,hK,qgd,qge,qa8,qa9]
theorem qv1 (h236:L.fns 236=some fn236) (h196:L.fns 196=some fn196):∀ (t:CTree),TFit t→∀ (c:Int) (b:IM Int) (o:IM Unit),0≤c→c+2 ^ 30*(hgt t:Int)<2 ^ 62→MB 0 c b →
  call L 196 [qaB t,.map (some 0),.map (some 1)] [.map (encB b),.map (encU o)]=some (.val (.tuple []),[.map (encB (qdS t (b,o)).1),.map (encU (qdS t (b,o)).2)]):=by
 have hs:L.summ 196=none:=hL.summ 196 (by rw[h196];exact fun hx=>by cases hx)
 intro t
 induction t using CTree.ind with
 | h op n binds kids alts ih =>
   intro hf c b o hc hc2 hb
   cases hf with
   | mk _ _ _ _ _ hbf hkf haf hfk =>
     rw[hgt] at hc2
     have hloop:=qv0 hL h236 op n binds kids alts hbf hkf haf c hc (by omega) (qdM op n (b,o)) (by unfold qdM;split<;>exact hb) (by
      intro kid hkid b' o' hb'
      have hh:=qew hkid
      exact ih kid hkid (hfk kid hkid) (c+2 ^ 30) b' o' (by omega) (by omega) hb')
     rw[qdS]
     refine qaA hs h196 ?_
     rw[qbt]
     have hK:=qbU kids
     unfold qlq at hloop
     simp only[Int.natCast_zero] at hloop
     have hlk:=fun (h:Heap) (hr:h[0]? = some (.map (encB b)))=>qqr h 0 n b hr
     have hup:=fun (h:Heap) (hr:h[1]? = some (.map (encU o)))=>qyK (fun _:Unit=>AVal.agg []) h 1 n () o rfl hr
     unfold qdM at hloop ⊢
     by_cases h0:op=0
     ·subst h0
      by_cases hz:qdV n b=0
      ·rw[if_pos ⟨rfl,hz⟩] at hloop ⊢
       dsimp only at hloop
       unfold fn196
       simp -implicitDefEqProofs only[ev_,aOp,opd,qaa,qaq,qau,qbc,qat,qab,qaf,qag,qah,qbO,qan,qac,qaj,qav,ren,renC,qa3,qbd,↓reduceIte,reduceCtorEq,Nat.reduceEqDiff,Nat.reduceAdd,Nat.reduceLT,Nat.reduceLeDiff,qai,qao,hlk,hup,hz,hloop,hK,qgd,qge,qa8,qa9]
      ·have hz':(qdV n b==0)=false:=by simpa using hz
       rw[if_neg (fun h=>hz h.2)] at hloop ⊢
       dsimp only at hloop
       unfold fn196
       simp -implicitDefEqProofs only[ev_,aOp,opd,qaa,qau,qbc,qat,qab,qaf,qag,qah,qan,qac,qaj,qav,ren,renC,qa3,qbd,↓reduceIte,reduceCtorEq,Nat.reduceEqDiff,Nat.reduceAdd,Nat.reduceLT,Nat.reduceLeDiff,qai,qao,hlk,hz',hloop,hK,qgd,qge,qa8,qa9]
     ·have h0':(op==0)=false:=by simpa using h0
      rw[if_neg (fun h=>h0 h.1)] at hloop ⊢
      dsimp only at hloop
      unfold fn196
      simp -implicitDefEqProofs only[ev_,aOp,opd,qaa,qau,qbc,qat,qab,qaf,qag,qah,qan,qac,qaj,qav,ren,renC,qa3,qbd,↓reduceIte,reduceCtorEq,Nat.reduceEqDiff,Nat.reduceAdd,Nat.reduceLT,Nat.reduceLeDiff,qai,qao,h0',hloop,hK,qgd,qge,qa8,qa9]
end
def qv6 (n:Int):List Int→List Int
 | []=>[n]
 | m::l=>if n≤m then n::m::l else m::qv6 n l
def qa1 (l:List Int):List Int:=l.foldr qv6 []
theorem qjp (n:Int):∀ l,(qv6 n l).Perm (n::l)
 | []=>.refl _
 | m :: l => by
   unfold qv6
   split
   ·exact .refl _
   ·exact ((qjp n l).cons m).trans (.swap n m l)
theorem qjq (n:Int):∀ {l:List Int},l.Pairwise (· ≤ ·)→(qv6 n l).Pairwise (· ≤ ·)
 | [],_=>by simp[qv6]
 | m :: l,h => by
   rw[List.pairwise_cons] at h
   unfold qv6
   split
   ·rename_i hnm
    rw[List.pairwise_cons]
    refine⟨fun x hx=>?_,List.pairwise_cons.2 h⟩
    rcases List.mem_cons.1 hx with rfl | hx
    ·exact hnm
    ·have:=h.1 x hx;omega
   ·rw[List.pairwise_cons]
    refine⟨fun x hx=>?_,qjq n h.2⟩
    rcases List.mem_cons.1 ((qjp n l).mem_iff.1 hx) with rfl | hx
    ·omega
    ·exact h.1 x hx
theorem qcI:∀ l,(qa1 l).Perm l
 | []=>.refl _
 | n::l=>(qjp n (qa1 l)).trans ((qcI l).cons n)
theorem qcJ:∀ l,(qa1 l).Pairwise (· ≤ ·)
 | []=>.nil
 | n::l=>qjq n (qcJ l)
theorem qnp {a b:List Int} (ha:a.Pairwise (· ≤ ·)) (hb:b.Pairwise (· ≤ ·)) (h:a.Perm b):a=b :=
 List.Perm.eq_of_pairwise (le:=fun x y:Int=>x≤y) (fun x y _ _ h1 h2=>by omega) ha hb h
theorem qkl {a b:List Int} (h:a.Perm b):qa1 a=qa1 b :=
 qnp (qcJ a) (qcJ b) ((qcI a).trans (h.trans (qcI b).symm))
theorem qdP (l:List Int):(qa1 l).length=l.length:=(qcI l).length_eq
theorem qm8 {α β:Type} (f:α→β):∀ {es:List β} {l:List α},es.Perm (l.map f)→∃ l':List α,l'.Perm l∧es=l'.map f
 | [],l,h => by
   have:=h.symm.eq_nil
   rw[List.map_eq_nil_iff] at this
   exact⟨[],by rw[this],rfl⟩
 | e :: es,l,h => by
   obtain⟨x,hx,rfl⟩:=List.mem_map.1 (h.mem_iff.1 (List.mem_cons_self ..))
   obtain⟨s,t,rfl⟩:=List.append_of_mem hx
   have h1:(f x::es).Perm (f x::(s++t).map f):=by
    refine h.trans ?_
    rw[List.map_append,List.map_cons,List.map_append]
    exact List.perm_middle
   obtain⟨l',h2,rfl⟩:=qm8 f h1.cons_inv
   exact⟨x::l',(h2.cons x).trans List.perm_middle.symm,rfl⟩
theorem qsA {pure:Nat→Bool} {call:CallT} {k:RangeK} {b c:ACode} {s s1:St} {es:List (AVal × AVal)} {r:AExit × St} (hpre:qb0 pure call k.pre s=some (.normal,s1)) (hes:qci k.str (opd s1.tm k.m) s1.h=some es)
  (hall:∀ es',qb9 k.str es es'→qcg (qb0 pure call) k (qaT pure call b) (qaT pure call c) s s1 es'=some r):qaT pure call (.range k b c) s=some r:=by
 rw[qaT,qeb,hpre]
 dsimp only
 rw[hes]
 exact (qcm (qbF _ _)).2 hall
def qd4 {β:Type} (m:IM β):List Int:=m.map (·.1)
def qf4 (t:CTree):List Int:=qa1 (qd4 (qdS t ([],[])).2)
def qtn (acc:List Int):AVal:=if acc=[] then .list [] (some none) else .vec 3 acc.length
def qtm (acc:List Int):Heap:=if acc=[] then [] else [.vec (acc.map qaw) 1]
def qtl (b:IM Int) (acc:List Int):St:=⟨kt [4,12] [qtn acc,.ptr (some (2,0))],[.gone,.map (encB b),.gone]++qtm acc⟩
theorem qum (id n:Nat):qe6 (.vec id n)=false:=rfl
theorem qxg:qe6 (.list [] (some none))=true:=rfl
theorem qkW (pure:Nat→Bool) (call:CallT) (sz bytes:Nat) (x y:Opd) (tm:Tmps) (h:Heap):qih pure call (.append sz bytes x y) tm h =
  if qe6 (opd tm x)=true then (match qei h sz (opd tm x) (opd tm y) with | some (v,h')=>some (.val v,h') | none=>none) else aOp pure call (.append sz bytes x y) tm h:=rfl
theorem qf8 (pure:Nat→Bool) (call:CallT) (sz:Nat) (ps:List Opd) (tm:Tmps) (h:Heap):qih pure call (.buildSlice sz ps) tm h=aOp pure call (.buildSlice sz ps) tm h:=rfl
section
variable {L:Lib} (hL:Plain L)
theorem quV (b:IM Int) (acc:List Int) (hl:acc.length<2 ^ 30) (k:Int) :
  (qba (qb0 L.pure (call L)) 2 fn167_k0 (qaT L.pure (call L) qfB) (.int .i64 k,.agg []) (qtl b acc)).map (fun r=>(r.1,gc 3 fn167_k0.kr r.2))=some (.normal,qtl b (acc++[k])):=by
 unfold qba fn167_k0 qfB qtl
 have hall:=qej acc
 have hn:acc++[k]≠[]:=by simp
 have e1:qtn (acc++[k])=.vec 3 (acc.length+1):=by unfold qtn;rw[if_neg hn];simp
 have e2:qtm (acc++[k])=[.vec ((acc++[k]).map qaw) 1]:=by unfold qtm;rw[if_neg hn]
 rw[e1,e2]
 by_cases hz:acc=[]
 ·subst hz
  have e3:qtn []=.list [] (some none):=rfl
  have e4:qtm []=[]:=rfl
  rw[e3,e4]
  simp -implicitDefEqProofs only[ev_,aOp,opd,qaa,leaf,qav,ren,renC,qa3,qbd,↓reduceIte,Nat.reduceEqDiff,Nat.reduceAdd,Nat.reduceLT,Nat.reduceLeDiff,qbg,qbm,qbH,qpi,qdb,qjT,qkW,qf8,qxg,qei,qgd,qge]
 ·have e3:qtn acc=.vec 3 acc.length:=by unfold qtn;rw[if_neg hz]
  have e4:qtm acc=[.vec (acc.map qaw) 1]:=by unfold qtm;rw[if_neg hz]
  have hle:acc.length+1≤1073741824:=by omega
  rw[e3,e4]
  simp -implicitDefEqProofs only[ev_,aOp,opd,qaa,leaf,qav,ren,renC,qa3,qbd,qbo,↓reduceIte,Nat.reduceEqDiff,Nat.reduceAdd,Nat.reduceLT,Nat.reduceLeDiff,qbg,qbm,qbH,qbL,Nat.mul_one,qpi,qdb,qjT,qkW,qf8,qum,hle,qgd,qge]
def qyF (b:IM Int) (acc:List Int):St:=⟨upd (upd (qtl b acc).tm (some 13) (.tuple [.bool false])) (some 14) (.bool false),(qtl b acc).h⟩
theorem qx0 (b:IM Int) (acc:List Int):qbA (qb0 L.pure (call L)) 2 fn167_k0 (qtl b acc)=some (.normal,qyF b acc):=by
 unfold qbA fn167_k0 qyF qtl
 simp -implicitDefEqProofs only[ev_,aOp,opd,qaa,↓reduceIte,Nat.reduceEqDiff,qpi]
theorem qvt (b:IM Int):∀ (o':IM Unit) (acc:List Int) (s:St),acc.length+o'.length<2 ^ 30→gc 3 fn167_k0.kr s=qtl b acc →
  qbb (qb0 L.pure (call L)) 2 fn167_k0 (qaT L.pure (call L) qfB) (encU o') s=some (.normal,qyF b (acc++qd4 o'))
 | [],acc,s,_,hs => by
   show qbA _ 2 fn167_k0 (gc 3 fn167_k0.kr s)=_
   rw[hs]
   have:acc++qd4 ([]:IM Unit)=acc:=by simp[qd4]
   rw[this]
   exact qx0 b acc
 | e :: o',acc,s,hl,hs => by
   rw[List.length_cons] at hl
   have hr:=quV (L:=L) b acc (by omega) e.1
   rw[← hs] at hr
   obtain⟨⟨x,s'⟩,h1,h2⟩:=Option.map_eq_some_iff.1 hr
   simp only[Prod.mk.injEq] at h2
   obtain⟨rfl,h2⟩:=h2
   show (match qba _ 2 fn167_k0 _ (.int .i64 e.1,.agg []) (gc 3 fn167_k0.kr s) with | some (.normal,s')=>qbb _ 2 fn167_k0 _ (encU o') s' | r=>qdb fn167_k0.id r)=_
   rw[h1]
   have:=qvt b o' (acc++[e.1]) s' (by simp;omega) h2
   rw[List.append_assoc] at this
   exact this
include hL
theorem qrJ (hP:CPrims L qa1) (h236:L.fns 236=some fn236) (h196:L.fns 196=some fn196) (h167:L.fns 167=some fn167) (t:CTree) (hf:TFit t) (hh:hgt t<2 ^ 30) (hn:(qdS t ([],[])).2.length<2 ^ 30) (h:Heap) :
  pcall L 167 [qaB t] h=some (.val (.list ((qf4 t).map qaw) none),h):=by
 have hp:=hL.pure
 have hfree:=qv1 hL h236 h196 t hf 0 [] [] (by omega) (by omega) (fun v=>by simp[qdV,qbS])
 refine qaX hL h167 (by rw[qaY];exact qai _) ?_ h
 unfold qf4
 generalize qdS t ([],[])=r at *
 obtain⟨b,o⟩:=r
 dsimp only at hfree hn ⊢
 have hrange:∀ (tm:Tmps),tm 3=.map (some 0)→tm 4=.list [] (some none)→qaT L.pure (call L) (.range fn167_k0 qfB qiq) ⟨tm,[.map (encU o),.map (encB b)]⟩ =
   some (.ret,⟨kt [2] [.list ((qa1 (qd4 o)).map qaw) (if qa1 (qd4 o)=[] then some none else none)],[.map (encU o),.map (encB b)]⟩):=by
  intro tm h3 h4
  refine qsA (s1:=⟨upd tm (some 11) (.map (some 0)),[.map (encU o),.map (encB b)]⟩) (es:=encU o) ?_ ?_ ?_
  ·unfold fn167_k0
   simp -implicitDefEqProofs only[ev_,aOp,opd,h3]
  ·unfold fn167_k0
   simp -implicitDefEqProofs only[ev_,opd,↓reduceIte,qci,qmX,h3]
  ·intro es' hes
   have hes':es'.Perm (o.map fun p=>((.int .i64 p.1:AVal),AVal.agg [])):=hes
   obtain⟨o',hpm,rfl⟩:=qm8 _ hes'
   have hrun:=qvt (L:=L) b o' [] ⟨upd (upd tm (some 11) (.map (some 0))) (some 12) (.ptr (some (2,0))),[.gone,.map (encB b),.gone]⟩ (by rw[List.length_nil,hpm.length_eq];omega) ?_
   ·rw[List.nil_append] at hrun
    have hsort:qa1 (qd4 o')=qa1 (qd4 o):=qkl (hpm.map _)
    rw[← hsort]
    have hlen:(qd4 o').length=o.length:=by unfold qd4;rw[List.length_map,hpm.length_eq]
    generalize qd4 o'=ks at *
    unfold qcg
    have hh:qke (opd (upd tm (some 11) (.map (some 0))) fn167_k0.m) [.map (encU o),.map (encB b)]=[.gone,.map (encB b),.gone]:=rfl
    have h15:fn167_k0.it=12:=rfl
    dsimp only
    rw[hh,h15]
    simp only[List.length_cons,List.length_nil]
    show Option.map _ (match qbb _ 2 _ _ (encU o') _ with | some (.normal,s2)=>_ | some (e,s2)=>_ | none=>_)=_
    rw[hrun]
    dsimp only
    have hm2:opd (upd tm (some 11) (.map (some 0))) fn167_k0.m=.map (some 0):=rfl
    have hk:fn167_k0.keep=[2]:=rfl
    rw[hm2,hk]
    have hs0:=hP.sort0
    unfold qyF qtl qiq
    by_cases hz:ks=[]
    ·subst hz
     have e3:qtn []=.list [] (some none):=rfl
     have e4:qtm []=[]:=rfl
     have e5:qa1 []=[]:=rfl
     rw[e3,e4,e5]
     simp -implicitDefEqProofs only[ev_,aOp,opd,gcE,qav,ren,renC,qa3,qbd,↓reduceIte,Nat.reduceEqDiff,Nat.reduceAdd,Nat.reduceLeDiff,qca,hs0,qgd,qge,qa8,qa9,qam L hp,hp]
    ·have e3:qtn ks=.vec 3 ks.length:=by unfold qtn;rw[if_neg hz]
     have e4:qtm ks=[.vec (ks.map qaw) 1]:=by unfold qtm;rw[if_neg hz]
     have hs1:=hP.sort ks hz (by omega)
     have hzs:¬ qa1 ks=[]:=fun h=>hz (by have:=qdP ks;rw[h] at this;exact List.length_eq_zero_iff.1 this.symm)
     have hsl:=qdP ks
     have hdS:=qai (qa1 ks)
     have hwS:((qa1 ks).map qaw).map wipeCell=(qa1 ks).map qaw:=by rw[List.map_map];rfl
     have hlS:((qa1 ks).map qaw).all leaf=true:=by
      rw[List.all_eq_true]
      intro x hx
      obtain⟨y,_,rfl⟩:=List.mem_map.1 hx
      rfl
     generalize qa1 ks=ss at *
     rw[e3,e4]
     simp -implicitDefEqProofs only[ev_,aOp,opd,gcE,qav,ren,renC,qa3,qbd,↓reduceIte,reduceCtorEq,Nat.reduceEqDiff,Nat.reduceAdd,Nat.reduceLT,Nat.reduceLeDiff,frz,frzC,qj5,qvd,qbm,qb3,qbH,qb4,qbL,Nat.mul_one,qca,hs1,hsl,hzs,hdS,hwS,hlS,qgd,qge,qa8,qa9,qam L hp,hp]
   ·unfold qtl fn167_k0
    have e3:qtn []=.list [] (some none):=rfl
    have e4:qtm []=[]:=rfl
    rw[e3,e4]
    simp -implicitDefEqProofs only[ev_,qav,ren,renC,qa3,qbd,↓reduceIte,Nat.reduceEqDiff,Nat.reduceAdd,Nat.reduceLT,Nat.reduceLeDiff,h4,qgd,qge]
 obtain⟨tc,htc,hdt⟩:=qcc t
 have hn0:encB []=[]:=rfl
 have hn1:encU []=[]:=rfl
 rw[hn0,hn1] at hfree
 rw[htc] at hfree ⊢
 generalize (if qa1 (qd4 o)=[] then some none else none:Option (Option Nat))=ow at *
 unfold fn167
 generalize fn167_k0=kk at *
 generalize qfB=bb at *
 generalize qiq=aa at *
 simp -implicitDefEqProofs only[ev_,aOp,opd,qan,qac,qae,qaj,qav,ren,renC,qa3,qbd,↓reduceIte,reduceCtorEq,Nat.reduceEqDiff,Nat.reduceAdd,Nat.reduceLT,qak,hfree,hrange,hdt,qgd,qge,qa8,qa9,qam L hp,hp]
end
end Go.Abs
