/-
  PARTS OF A PROOF, joined: an abstract machine for quiet code, its evaluation, and what the seat's functions answer on it. Conditions: none.
-/
import Derived.Test.YtjbgooldkkbdmaaDoorCJ
set_option linter.unusedVariables false
set_option linter.unusedSimpArgs false
set_option maxRecDepth 100000
set_option maxHeartbeats 4000000
namespace Go.Abs
abbrev FS:=IM Int × IM Unit
def qbH (v:Int) (b:IM Int):Int:=(qbi v b).getD 0
def qgq (d:Int) (b:IM Int) (n:Int):IM Int:=qhi n (qbH n b+d) b
def qdv (op n:Int) (s:FS):FS:=if op=0∧qbH n s.1=0 then (s.1,qhi n () s.2) else s
mutual
def qdB:CTree→FS→FS
 | .mk op n binds kids alts,s=>qdL op binds alts kids 0 (qdv op n s)
def qdL (op:Int) (binds:List Int) (alts:List CAlt):List CTree→Nat→FS→FS
 | [],_,s=>s
 | kid :: ks,k,s =>
   qdL op binds alts ks (k+1)
    ((qbo op binds alts k).foldl (qgq (-1)) (qdB kid ((qbo op binds alts k).foldl (qgq 1) s.1,s.2)).1,(qdB kid ((qbo op binds alts k).foldl (qgq 1) s.1,s.2)).2)
end
mutual
def hgt:CTree→Nat
 | .mk _ _ _ kids _=>qsR kids+1
def qsR:List CTree→Nat
 | []=>0
 | k::ks=>max (hgt k) (qsR ks)
end
theorem qgm {k:CTree} {ks:List CTree} (h:k∈ks):hgt k≤qsR ks:=by
 induction ks with
 | nil=>cases h
 | cons x xs ih =>
   unfold qsR
   rcases List.mem_cons.1 h with rfl | h
   ·omega
   ·have:=ih h;omega
inductive TFit:CTree→Prop
 | mk (op n:Int) (binds:List Int) (kids:List CTree) (alts:List CAlt) (hb:(binds++alts.flatMap (·.binds)).length<2 ^ 30) (hk:kids.length<2 ^ 30) (ha:alts.length<2 ^ 30) (h:∀ k∈kids,TFit k):TFit (.mk op n binds kids alts)
theorem qr2 (alts:List CAlt) {a:CAlt} (h:a∈alts):a.binds.length≤(alts.flatMap (·.binds)).length:=by
 induction alts with
 | nil=>cases h
 | cons x xs ih =>
   rw[List.flatMap_cons,List.length_append]
   rcases List.mem_cons.1 h with rfl | h
   ·omega
   ·have:=ih h;omega
theorem qll (op:Int) (binds:List Int) (alts:List CAlt) (k:Nat):(qbo op binds alts k).length≤(binds++alts.flatMap (·.binds)).length:=by
 unfold qbo
 rw[List.length_append]
 split
 ·omega
 ·split
  ·split
   ·rename_i a ha
    have:=qr2 alts (List.mem_of_getElem? ha)
    omega
   ·simp
  ·simp
theorem qbq (v n x:Int) (b:IM Int):qbH v (qhi n x b)=if v=n then x else qbH v b:=by
 unfold qbH
 rw[qde]
 split<;>rfl
def MB (lo hi:Int) (b:IM Int):Prop:=∀ v,lo≤qbH v b∧qbH v b≤hi
theorem MB.up {lo hi:Int} {b:IM Int} (h:MB lo hi b) (n:Int):MB lo (hi+1) (qgq 1 b n):=by
 intro v
 unfold qgq
 rw[qbq]
 have h1:=h v
 have h2:=h n
 split<;>omega
theorem MB.down {lo hi:Int} {b:IM Int} (h:MB lo hi b) (n:Int):MB (lo-1) hi (qgq (-1) b n):=by
 intro v
 unfold qgq
 rw[qbq]
 have h1:=h v
 have h2:=h n
 split<;>omega
theorem MB.ups {lo:Int}:∀ (l:List Int) {hi:Int} {b:IM Int},MB lo hi b→MB lo (hi+l.length) (l.foldl (qgq 1) b)
 | [],hi,b,h=>by simpa using h
 | n :: l,hi,b,h => by
   have:=MB.ups l (h.up n)
   rw[List.foldl_cons,List.length_cons]
   rw[show hi+((l.length+1:Nat):Int)=hi+1+l.length by omega]
   exact this
def qvr (v:Int) (l:List Int):Int:=(l.count v:Int)
theorem qc5 (d v:Int):∀ (l:List Int) (b:IM Int),qbH v (l.foldl (qgq d) b)=qbH v b+d*qvr v l
 | [],b=>by simp[qvr]
 | n :: l,b => by
   rw[List.foldl_cons,qc5 d v l]
   unfold qgq qvr
   rw[qbq,List.count_cons]
   by_cases h:v=n
   ·subst h
    simp
    rw[Int.mul_add]
    omega
   ·have:(n==v)=false:=by simpa using fun e=>h e.symm
    simp[h,this]
mutual
theorem qiq (v:Int):∀ (t:CTree) (s:FS),qbH v (qdB t s).1=qbH v s.1
 | .mk op n binds kids alts,s => by
   rw[qdB,qjM v op binds alts kids]
   unfold qdv
   split<;>rfl
theorem qjM (v op:Int) (binds:List Int) (alts:List CAlt):∀ (ks:List CTree) (k:Nat) (s:FS),qbH v (qdL op binds alts ks k s).1=qbH v s.1
 | [],_,s=>by rw[qdL]
 | kid :: ks,k,s => by
   rw[qdL,qjM v op binds alts ks,qc5,qiq v kid,qc5]
   omega
end
abbrev encB:IM Int→List (AVal × AVal):=qjd qat
theorem qcW (b:IM Int):qi9 (.map (encB b))=[]:=quZ _ (fun _=>rfl) b
theorem qcX (ρ:Nat→Option Nat) (b:IM Int):qdF ρ (.map (encB b))=.map (encB b):=qvb _ (fun _=>rfl) ρ b
theorem ql1 (h:Heap) (r:Nat) (v:Int) (m:IM Int) (hr:h[r]? = some (.map (encB m))):qgA h .int (.int .i64 0) false (.map (some r)) (.int .i64 v)=some (.int .i64 (qbH v m)):=by
 rw[qqu qat h r _ false v m hr]
 unfold qbH
 cases qbi v m<;>rfl
theorem qvk (h:Heap) (r:Nat) (v x:Int) (m:IM Int) (hr:h[r]? = some (.map (encB m))):qc3 h .int (.map (some r)) (.int .i64 v) (.int .i64 x)=some (h.set r (.map (encB (qhi v x m)))) :=
 qvv qat h r v x m rfl hr
section
variable {L:Lib} (hL:Plain L)
def qp4 (A:AVal) (kid:CTree) (l:List Int) (K:List AVal) (n k:Nat) (o:IM Unit) (b:IM Int) (j:Nat):St :=
 ⟨kt [0,1,2,7,8,36,37,38,46,47,48] [A,.map (some 0),.map (some 1),qay kid,.list (l.map qat) none,.list K none,.int .i64 n,.int .i64 k,.list (l.map qat) none,.int .i64 l.length,.int .i64 j],[.map (encB b),.map (encU o)]⟩
def qrX (A:AVal) (kid:CTree) (l:List Int) (K:List AVal) (n k:Nat) (o:IM Unit) (b:IM Int):St :=
 ⟨kt [0,1,2,7,8,36,37,38] [A,.map (some 0),.map (some 1),qay kid,.list (l.map qat) none,.list K none,.int .i64 n,.int .i64 k],[.map (encB b),.map (encU o)]⟩
theorem qtq (A:AVal) (hA:qap A=true) (kid:CTree) (l:List Int) (hl:l.length<2 ^ 30) (K:List AVal) (hK:qaq K=true) (n k:Nat) (o:IM Unit) (b:IM Int) (c:Int) (hc:0≤c) (hc2:c+2 ^ 30<2 ^ 62) (hb:MB 0 c b) :
  qbd L.pure (call L) 2 [0,1,2,7,8,36,37,38,46,47,48] [0,1,2,7,8,36,37,38] 2 qhB (qp4 A kid l K n k o b 0)=some (.normal,qrX A kid l K n k o (l.foldl (qgq 1) b)):=by
 have hT:=qdd kid
 refine (qdQ l (qgq 1) (qp4 A kid l K n k o) (qrX A kid l K n k o) (fun b j=>MB 0 (c+(j:Nat)) b) b (by simpa using hb) ?_ ?_).2
 ·intro j hj b hb
  obtain⟨h1,h2,h3⟩:=qaV qat l hl j hj
  refine⟨?_,by have:=hb.up l[j];rw[show c+((j+1:Nat):Int)=c+(j:Nat)+1 by omega];exact this⟩
  generalize l[j]=v at *
  have hv:=hb v
  have w:IntKind.i64.wrap (qbH v b+1)=qbH v b+1:=qcz (by omega) (by omega)
  have hlk:=fun (h:Heap) (hr:h[0]? = some (.map (encB b)))=>ql1 h 0 v b hr
  have hup:=fun (h:Heap) (hr:h[0]? = some (.map (encB b)))=>qvk h 0 v (qbH v b+1) b hr
  unfold qhB qp4 qgq
  simp -implicitDefEqProofs only[ev_,aOp,opd,qaa,qau,qaC,qaB,qae,qab,qah,qan,ren,renC,qaN,qa3,↓reduceIte,reduceCtorEq,Nat.reduceEqDiff,Nat.reduceAdd,Nat.reduceLT,Nat.reduceLeDiff,qa7,qac,h1,h2,h3,hlk,hup,w,hA,hT,hK,qcW,qcX,qaT,qaU]
 ·intro b _
  have h0:=qa0 l.length
  unfold qhB qp4 qrX
  simp -implicitDefEqProofs only[ev_,aOp,opd,qaa,qaC,qaB,qab,gcE,qan,ren,renC,qaN,qa3,↓reduceIte,reduceCtorEq,Nat.reduceEqDiff,Nat.reduceAdd,Nat.reduceLT,Nat.reduceLeDiff,qac,h0,hA,hT,hK,qcW,qcX,qaT,qaU]
def qp5 (A:AVal) (l:List Int) (K:List AVal) (n k:Nat) (o:IM Unit) (b:IM Int) (j:Nat):St :=
 ⟨kt [0,1,2,36,37,38,61,62,63] [A,.map (some 0),.map (some 1),.list K none,.int .i64 n,.int .i64 k,.list (l.map qat) none,.int .i64 l.length,.int .i64 j],[.map (encB b),.map (encU o)]⟩
def qkz (A:AVal) (K:List AVal) (n k:Nat) (o:IM Unit) (b:IM Int):St :=
 ⟨kt [0,1,2,36,37,38] [A,.map (some 0),.map (some 1),.list K none,.int .i64 n,.int .i64 k],[.map (encB b),.map (encU o)]⟩
theorem qtr (A:AVal) (hA:qap A=true) (l:List Int) (hl:l.length<2 ^ 30) (K:List AVal) (hK:qaq K=true) (n k:Nat) (o:IM Unit) (b:IM Int) (c:Int) (hc:0≤c) (hc2:c<2 ^ 62) (hb:MB 0 c b) :
  qbd L.pure (call L) 2 [0,1,2,36,37,38,61,62,63] [0,1,2,36,37,38] 4 qhC (qp5 A l K n k o b 0)=some (.normal,qkz A K n k o (l.foldl (qgq (-1)) b)):=by
 refine (qdQ l (qgq (-1)) (qp5 A l K n k o) (qkz A K n k o) (fun b j=>MB (-(j:Nat)) c b) b (by simpa using hb) ?_ ?_).2
 ·intro j hj b hb
  obtain⟨h1,h2,h3⟩:=qaV qat l hl j hj
  refine⟨?_,by have:=hb.down l[j];rw[show -((j+1:Nat):Int) = -(j:Nat)-1 by omega];exact this⟩
  generalize l[j]=v at *
  have hv:=hb v
  have w:IntKind.i64.wrap (qbH v b-1)=qbH v b + -1:=by rw[qcz (by omega) (by omega)];rfl
  have hlk:=fun (h:Heap) (hr:h[0]? = some (.map (encB b)))=>ql1 h 0 v b hr
  have hup:=fun (h:Heap) (hr:h[0]? = some (.map (encB b)))=>qvk h 0 v (qbH v b + -1) b hr
  unfold qhC qp5 qgq
  simp -implicitDefEqProofs only[ev_,aOp,opd,qaa,qau,qaC,qaB,qae,qab,qah,qan,ren,renC,qaN,qa3,↓reduceIte,reduceCtorEq,Nat.reduceEqDiff,Nat.reduceAdd,Nat.reduceLT,Nat.reduceLeDiff,Int.reduceNeg,qa7,qac,h1,h2,h3,hlk,hup,w,hA,hK,qcW,qcX,qaT,qaU]
 ·intro b _
  have h0:=qa0 l.length
  unfold qhC qp5 qkz
  simp -implicitDefEqProofs only[ev_,aOp,opd,qaa,qaC,qaB,qab,gcE,qan,ren,renC,qaN,qa3,↓reduceIte,reduceCtorEq,Nat.reduceEqDiff,Nat.reduceAdd,Nat.reduceLT,Nat.reduceLeDiff,h0,hA,hK,qcW,qcX,qaT,qaU]
def qgk (op:Int) (binds:List Int) (alts:List CAlt) (k:Nat) (s:FS) (kid:CTree):FS :=
 ((qbo op binds alts k).foldl (qgq (-1)) (qdB kid ((qbo op binds alts k).foldl (qgq 1) s.1,s.2)).1,(qdB kid ((qbo op binds alts k).foldl (qgq 1) s.1,s.2)).2)
theorem qip (op:Int) (binds:List Int) (alts:List CAlt):∀ (ks:List CTree) (k:Nat) (s:FS),qbb (fun k s kid=>(.ok (qgk op binds alts k s kid):Except Unit FS)) ks k s=.ok (qdL op binds alts ks k s)
 | [],k,s=>by rw[qdL];rfl
 | kid::ks,k,s=>by rw[qbb,qdL];exact qip op binds alts ks (k+1) _
theorem qkB (op:Int) (binds:List Int) (alts:List CAlt) (k:Nat) (s:FS) (kid:CTree) (v:Int):qbH v (qgk op binds alts k s kid).1=qbH v s.1:=by
 unfold qgk
 dsimp only
 rw[qc5,qiq v kid,qc5]
 omega
include hL
theorem qts (h236:L.fns 236=some fn236) (op n:Int) (binds:List Int) (kids:List CTree) (alts:List CAlt) (hb:(binds++alts.flatMap (·.binds)).length<2 ^ 30) (hk:kids.length<2 ^ 30) (ha:alts.length<2 ^ 30)
  (c:Int) (hc:0≤c) (hc2:c+2 ^ 30<2 ^ 62) (s0:FS) (hs0:MB 0 c s0.1)
  (ih:∀ kid∈kids,∀ (b:IM Int) (o:IM Unit),MB 0 (c+2 ^ 30) b→call L 196 [qay kid,.map (some 0),.map (some 1)] [.map (encB b),.map (encU o)]=some (.val (.tuple []),[.map (encB (qdB kid (b,o)).1),.map (encU (qdB kid (b,o)).2)])) :
  qbd L.pure (call L) 2 [0,1,2,36,37,38] [] 0 qhD (qkz (.vptr [.int .i64 op,.int .i64 n,.list (binds.map qat) none,.list (kids.map qay) none,.list (alts.map qao) none] 0) (kids.map qay) kids.length 0 s0.2 s0.1) =
   some (.normal,⟨kt [] [],[.map (encB (qdL op binds alts kids 0 s0).1),.map (encU (qdL op binds alts kids 0 s0).2)]⟩):=by
 have hp:=hL.pure
 have hA:qap (.vptr [.int .i64 op,.int .i64 n,.list (binds.map qat) none,.list (kids.map qay) none,.list (alts.map qao) none] 0)=true:=by
  simp only[qap,qaq,qac,qaf,qc6,Bool.and_self]
 have hK:=qc6 kids
 refine ((qb2 kids (fun k s kid=>(.ok (qgk op binds alts k s kid):Except Unit FS)) (fun s k=>qkz (.vptr [.int .i64 op,.int .i64 n,.list (binds.map qat) none,.list (kids.map qay) none,.list (alts.map qao) none] 0) (kids.map qay) kids.length k s.2 s.1)
  (fun s=>⟨kt [] [],[.map (encB s.1),.map (encU s.2)]⟩) (fun _ _=>False) (fun s _=>MB 0 c s.1) s0 hs0 ?_ ?_ ?_).1 _ (qip op binds alts kids 0 s0)).2
 ·intro k hk' s s' hs hq
  injection hq with hq
  subst hq
  refine⟨?_,fun v=>by rw[qkB];exact hs v⟩
  obtain⟨h1,h2,h3⟩:=qaV qay kids hk k hk'
  have hbo:=qnJ hL h236 op n binds (.list (kids.map qay) none) alts ha k (by omega)
  have hbl:=qll op binds alts k
  have ihk:=ih kids[k] (List.getElem_mem hk')
  unfold qgk
  generalize kids[k]=kid at *
  have hT:=qdd kid
  generalize qbo op binds alts k=l at *
  have hl0:=qtq (L:=L) _ hA kid l (by omega) (kids.map qay) hK kids.length k s.2 s.1 c hc (by omega) hs
  have hup:=MB.ups l hs
  have hup2:MB 0 (c+2 ^ 30) (l.foldl (qgq 1) s.1):=fun v=>⟨(hup v).1,by have:=(hup v).2;omega⟩
  have ihk:=ihk (l.foldl (qgq 1) s.1) s.2 hup2
  have hl1:=qtr (L:=L) _ hA l (by omega) (kids.map qay) hK kids.length k (qdB kid (l.foldl (qgq 1) s.1,s.2)).2 (qdB kid (l.foldl (qgq 1) s.1,s.2)).1 (c+2 ^ 30) (by omega) (by omega)
   (fun v=>by rw[qiq];exact hup2 v)
  generalize qdB kid (l.foldl (qgq 1) s.1,s.2)=r at *
  unfold qp4 qrX at hl0
  unfold qp5 qkz at hl1
  simp only[Int.natCast_zero] at hl0 hl1
  obtain⟨tc,htc,hdt⟩:=qds kid
  rw[htc] at ihk hl0 h3 hT
  unfold qhD qkz
  simp -implicitDefEqProofs only[ev_,aOp,opd,qaa,qaC,qbu,qaB,qae,qab,qah,qan,ren,renC,qaN,qa3,↓reduceIte,reduceCtorEq,Nat.reduceEqDiff,Nat.reduceAdd,Nat.reduceLT,Nat.reduceLeDiff,Int.reduceNeg,qac,qaf,h1,h2,h3,hbo,hl0,ihk,hl1,hK,hT,hdt,qcW,qcX,qaT,qaU,qar L hp,hp,qkm,List.range_succ,List.range_zero]
 ·intro k hk' s e hs hq
  cases hq
 ·intro s _
  have h0:=qa0 kids.length
  unfold qhD qkz
  simp -implicitDefEqProofs only[ev_,aOp,opd,qaa,qaC,qaB,qab,gcE,qan,ren,renC,qaN,qa3,↓reduceIte,reduceCtorEq,Nat.reduceEqDiff,Nat.reduceAdd,h0,hK,qcW,qcX,qaT,qaU]
theorem qtt (h236:L.fns 236=some fn236) (h196:L.fns 196=some fn196):∀ (t:CTree),TFit t→∀ (c:Int) (b:IM Int) (o:IM Unit),0≤c→c+2 ^ 30*(hgt t:Int)<2 ^ 62→MB 0 c b →
  call L 196 [qay t,.map (some 0),.map (some 1)] [.map (encB b),.map (encU o)]=some (.val (.tuple []),[.map (encB (qdB t (b,o)).1),.map (encU (qdB t (b,o)).2)]):=by
 have hs:L.summ 196=none:=hL.summ 196 (by rw[h196];exact fun hx=>by cases hx)
 intro t
 induction t using CTree.ind with
 | h op n binds kids alts ih =>
   intro hf c b o hc hc2 hb
   cases hf with
   | mk _ _ _ _ _ hbf hkf haf hfk =>
     rw[hgt] at hc2
     have hloop:=qts hL h236 op n binds kids alts hbf hkf haf c hc (by omega) (qdv op n (b,o)) (by unfold qdv;split<;>exact hb) (by
      intro kid hkid b' o' hb'
      have hh:=qgm hkid
      exact ih kid hkid (hfk kid hkid) (c+2 ^ 30) b' o' (by omega) (by omega) hb')
     rw[qdB]
     refine qfL hs h196 ?_
     rw[qba]
     have hK:=qc6 kids
     unfold qkz at hloop
     simp only[Int.natCast_zero] at hloop
     have hlk:=fun (h:Heap) (hr:h[0]? = some (.map (encB b)))=>ql1 h 0 n b hr
     have hup:=fun (h:Heap) (hr:h[1]? = some (.map (encU o)))=>qvv (fun _:Unit=>AVal.agg []) h 1 n () o rfl hr
     unfold qdv at hloop ⊢
     by_cases h0:op=0
     ·subst h0
      by_cases hz:qbH n b=0
      ·rw[if_pos ⟨rfl,hz⟩] at hloop ⊢
       dsimp only at hloop
       unfold fn196
       simp -implicitDefEqProofs only[ev_,aOp,opd,qaa,qau,qaC,qbu,qaB,qab,qag,qah,qak,qcD,qaw,qad,qam,qan,ren,renC,qaN,qa3,↓reduceIte,reduceCtorEq,Nat.reduceEqDiff,Nat.reduceAdd,Nat.reduceLT,Nat.reduceLeDiff,qac,qaf,hlk,hup,hz,hloop,hK,qcW,qcX,qaT,qaU]
      ·have hz':(qbH n b==0)=false:=by simpa using hz
       rw[if_neg (fun h=>hz h.2)] at hloop ⊢
       dsimp only at hloop
       unfold fn196
       simp -implicitDefEqProofs only[ev_,aOp,opd,qaa,qaC,qbu,qaB,qab,qag,qah,qak,qaw,qad,qam,qan,ren,renC,qaN,qa3,↓reduceIte,reduceCtorEq,Nat.reduceEqDiff,Nat.reduceAdd,Nat.reduceLT,Nat.reduceLeDiff,qac,qaf,hlk,hz',hloop,hK,qcW,qcX,qaT,qaU]
     ·have h0':(op==0)=false:=by simpa using h0
      rw[if_neg (fun h=>h0 h.1)] at hloop ⊢
      dsimp only at hloop
      unfold fn196
      simp -implicitDefEqProofs only[ev_,aOp,opd,qaa,qaC,qbu,qaB,qab,qag,qah,qak,qaw,qad,qam,qan,ren,renC,qaN,qa3,↓reduceIte,reduceCtorEq,Nat.reduceEqDiff,Nat.reduceAdd,Nat.reduceLT,Nat.reduceLeDiff,qac,qaf,h0',hloop,hK,qcW,qcX,qaT,qaU]
end
def qtx (n:Int):List Int→List Int
 | []=>[n]
 | m::l=>if n≤m then n::m::l else m::qtx n l
def qa9 (l:List Int):List Int:=l.foldr qtx []
theorem qit (n:Int):∀ l,(qtx n l).Perm (n::l)
 | []=>.refl _
 | m :: l => by
   unfold qtx
   split
   ·exact .refl _
   ·exact ((qit n l).cons m).trans (.swap n m l)
theorem qiu (n:Int):∀ {l:List Int},l.Pairwise (· ≤ ·)→(qtx n l).Pairwise (· ≤ ·)
 | [],_=>by simp[qtx]
 | m :: l,h => by
   rw[List.pairwise_cons] at h
   unfold qtx
   split
   ·rename_i hnm
    rw[List.pairwise_cons]
    refine⟨fun x hx=>?_,List.pairwise_cons.2 h⟩
    rcases List.mem_cons.1 hx with rfl | hx
    ·exact hnm
    ·have:=h.1 x hx;omega
   ·rw[List.pairwise_cons]
    refine⟨fun x hx=>?_,qiu n h.2⟩
    rcases List.mem_cons.1 ((qit n l).mem_iff.1 hx) with rfl | hx
    ·omega
    ·exact h.1 x hx
theorem qcw:∀ l,(qa9 l).Perm l
 | []=>.refl _
 | n::l=>(qit n (qa9 l)).trans ((qcw l).cons n)
theorem qcx:∀ l,(qa9 l).Pairwise (· ≤ ·)
 | []=>.nil
 | n::l=>qiu n (qcx l)
theorem qmy {a b:List Int} (ha:a.Pairwise (· ≤ ·)) (hb:b.Pairwise (· ≤ ·)) (h:a.Perm b):a=b :=
 List.Perm.eq_of_pairwise (le:=fun x y:Int=>x≤y) (fun x y _ _ h1 h2=>by omega) ha hb h
theorem qjm {a b:List Int} (h:a.Perm b):qa9 a=qa9 b :=
 qmy (qcx a) (qcx b) ((qcw a).trans (h.trans (qcw b).symm))
theorem qdx (l:List Int):(qa9 l).length=l.length:=(qcw l).length_eq
theorem qme {α β:Type} (f:α→β):∀ {es:List β} {l:List α},es.Perm (l.map f)→∃ l':List α,l'.Perm l∧es=l'.map f
 | [],l,h => by
   have:=h.symm.eq_nil
   rw[List.map_eq_nil_iff] at this
   exact⟨[],by rw[this],rfl⟩
 | e :: es,l,h => by
   obtain⟨x,hx,rfl⟩:=List.mem_map.1 (h.mem_iff.1 (List.mem_cons_self ..))
   obtain⟨s,t,rfl⟩:=List.append_of_mem hx
   have h1:(f x::es).Perm (f x::(s++t).map f):=by
    refine h.trans ?_
    rw[List.map_append,List.map_cons,List.map_append]
    exact List.perm_middle
   obtain⟨l',h2,rfl⟩:=qme f h1.cons_inv
   exact⟨x::l',(h2.cons x).trans List.perm_middle.symm,rfl⟩
theorem qqR {pure:Nat→Bool} {call:CallT} {k:RangeK} {b c:ACode} {s s1:St} {es:List (AVal × AVal)} {r:AExit × St} (hpre:qbT pure call k.pre s=some (.normal,s1)) (hes:qcc k.str (opd s1.tm k.m) s1.h=some es)
  (hall:∀ es',qb1 k.str es es'→qb7 (qbT pure call) k (qaG pure call b) (qaG pure call c) s s1 es'=some r):qaG pure call (.range k b c) s=some r:=by
 rw[qaG,qdY,hpre]
 dsimp only
 rw[hes]
 exact (qch (qbz _ _)).2 hall
def qdP {β:Type} (m:IM β):List Int:=m.map (·.1)
def qgj (t:CTree):List Int:=qa9 (qdP (qdB t ([],[])).2)
def qrw (acc:List Int):AVal:=if acc=[] then .list [] (some none) else .vec 3 acc.length
def qrv (acc:List Int):Heap:=if acc=[] then [] else [.vec (acc.map qat) 1]
def qru (b:IM Int) (acc:List Int):St:=⟨kt [4,12] [qrw acc,.ptr (some (2,0))],[.gone,.map (encB b),.gone]++qrv acc⟩
theorem qsc (id n:Nat):qeQ (.vec id n)=false:=rfl
theorem quc:qeQ (.list [] (some none))=true:=rfl
theorem qj4 (pure:Nat→Bool) (call:CallT) (sz bytes:Nat) (x y:Opd) (tm:Tmps) (h:Heap):qgB pure call (.append sz bytes x y) tm h =
  if qeQ (opd tm x)=true then (match qcK h sz (opd tm x) (opd tm y) with | some (v,h')=>some (.val v,h') | none=>none) else aOp pure call (.append sz bytes x y) tm h:=rfl
theorem qfB (pure:Nat→Bool) (call:CallT) (sz:Nat) (ps:List Opd) (tm:Tmps) (h:Heap):qgB pure call (.buildSlice sz ps) tm h=aOp pure call (.buildSlice sz ps) tm h:=rfl
section
variable {L:Lib} (hL:Plain L)
theorem qsz (b:IM Int) (acc:List Int) (hl:acc.length<2 ^ 30) (k:Int) :
  (qaX (qbT L.pure (call L)) 2 fn167_k0 (qaG L.pure (call L) qfc) (.int .i64 k,.agg []) (qru b acc)).map (fun r=>(r.1,gc 3 fn167_k0.kr r.2))=some (.normal,qru b (acc++[k])):=by
 unfold qaX fn167_k0 qfc qru
 have hall:=qdq acc
 have hn:acc++[k]≠[]:=by simp
 have e1:qrw (acc++[k])=.vec 3 (acc.length+1):=by unfold qrw;rw[if_neg hn];simp
 have e2:qrv (acc++[k])=[.vec ((acc++[k]).map qat) 1]:=by unfold qrv;rw[if_neg hn]
 rw[e1,e2]
 by_cases hz:acc=[]
 ·subst hz
  have e3:qrw []=.list [] (some none):=rfl
  have e4:qrv []=[]:=rfl
  rw[e3,e4]
  simp -implicitDefEqProofs only[ev_,aOp,opd,qaa,leaf,qan,ren,renC,qaN,qa3,↓reduceIte,Nat.reduceEqDiff,Nat.reduceAdd,Nat.reduceLT,Nat.reduceLeDiff,qa7,qa6,qbt,qod,qcT,qi0,qj4,qfB,quc,qcK,qcW,qcX]
 ·have e3:qrw acc=.vec 3 acc.length:=by unfold qrw;rw[if_neg hz]
  have e4:qrv acc=[.vec (acc.map qat) 1]:=by unfold qrv;rw[if_neg hz]
  have hle:acc.length+1≤1073741824:=by omega
  rw[e3,e4]
  simp -implicitDefEqProofs only[ev_,aOp,opd,qaa,leaf,qan,ren,renC,qaN,qa3,qaZ,↓reduceIte,Nat.reduceEqDiff,Nat.reduceAdd,Nat.reduceLT,Nat.reduceLeDiff,qa7,qa6,qbt,qbB,Nat.mul_one,qod,qcT,qi0,qj4,qfB,qsc,hle,qcW,qcX]
def qvp (b:IM Int) (acc:List Int):St:=⟨upd (upd (qru b acc).tm (some 13) (.tuple [.bool false])) (some 14) (.bool false),(qru b acc).h⟩
theorem quP (b:IM Int) (acc:List Int):qbs (qbT L.pure (call L)) 2 fn167_k0 (qru b acc)=some (.normal,qvp b acc):=by
 unfold qbs fn167_k0 qvp qru
 simp -implicitDefEqProofs only[ev_,aOp,opd,qaa,↓reduceIte,Nat.reduceEqDiff,qod]
theorem qs0 (b:IM Int):∀ (o':IM Unit) (acc:List Int) (s:St),acc.length+o'.length<2 ^ 30→gc 3 fn167_k0.kr s=qru b acc →
  qaY (qbT L.pure (call L)) 2 fn167_k0 (qaG L.pure (call L) qfc) (encU o') s=some (.normal,qvp b (acc++qdP o'))
 | [],acc,s,_,hs => by
   show qbs _ 2 fn167_k0 (gc 3 fn167_k0.kr s)=_
   rw[hs]
   have:acc++qdP ([]:IM Unit)=acc:=by simp[qdP]
   rw[this]
   exact quP b acc
 | e :: o',acc,s,hl,hs => by
   rw[List.length_cons] at hl
   have hr:=qsz (L:=L) b acc (by omega) e.1
   rw[← hs] at hr
   obtain⟨⟨x,s'⟩,h1,h2⟩:=Option.map_eq_some_iff.1 hr
   simp only[Prod.mk.injEq] at h2
   obtain⟨rfl,h2⟩:=h2
   show (match qaX _ 2 fn167_k0 _ (.int .i64 e.1,.agg []) (gc 3 fn167_k0.kr s) with | some (.normal,s')=>qaY _ 2 fn167_k0 _ (encU o') s' | r=>qcT fn167_k0.id r)=_
   rw[h1]
   have:=qs0 b o' (acc++[e.1]) s' (by simp;omega) h2
   rw[List.append_assoc] at this
   exact this
include hL
theorem qqa (hP:CPrims L qa9) (h236:L.fns 236=some fn236) (h196:L.fns 196=some fn196) (h167:L.fns 167=some fn167) (t:CTree) (hf:TFit t) (hh:hgt t<2 ^ 30) (hn:(qdB t ([],[])).2.length<2 ^ 30) (h:Heap) :
  pcall L 167 [qay t] h=some (.val (.list ((qgj t).map qat) none),h):=by
 have hp:=hL.pure
 have hfree:=qtt hL h236 h196 t hf 0 [] [] (by omega) (by omega) (fun v=>by simp[qbH,qbi])
 refine qa5 hL h167 (by rw[qa8];exact qac _) ?_ h
 unfold qgj
 generalize qdB t ([],[])=r at *
 obtain⟨b,o⟩:=r
 dsimp only at hfree hn ⊢
 have hrange:∀ (tm:Tmps),tm 3=.map (some 0)→tm 4=.list [] (some none)→qaG L.pure (call L) (.range fn167_k0 qfc qhA) ⟨tm,[.map (encU o),.map (encB b)]⟩ =
   some (.ret,⟨kt [2] [.list ((qa9 (qdP o)).map qat) (if qa9 (qdP o)=[] then some none else none)],[.map (encU o),.map (encB b)]⟩):=by
  intro tm h3 h4
  refine qqR (s1:=⟨upd tm (some 11) (.map (some 0)),[.map (encU o),.map (encB b)]⟩) (es:=encU o) ?_ ?_ ?_
  ·unfold fn167_k0
   simp -implicitDefEqProofs only[ev_,aOp,opd,h3]
  ·unfold fn167_k0
   simp -implicitDefEqProofs only[ev_,opd,↓reduceIte,qcc,ql4,h3]
  ·intro es' hes
   have hes':es'.Perm (o.map fun p=>((.int .i64 p.1:AVal),AVal.agg [])):=hes
   obtain⟨o',hpm,rfl⟩:=qme _ hes'
   have hrun:=qs0 (L:=L) b o' [] ⟨upd (upd tm (some 11) (.map (some 0))) (some 12) (.ptr (some (2,0))),[.gone,.map (encB b),.gone]⟩ (by rw[List.length_nil,hpm.length_eq];omega) ?_
   ·rw[List.nil_append] at hrun
    have hsort:qa9 (qdP o')=qa9 (qdP o):=qjm (hpm.map _)
    rw[← hsort]
    have hlen:(qdP o').length=o.length:=by unfold qdP;rw[List.length_map,hpm.length_eq]
    generalize qdP o'=ks at *
    unfold qb7
    have hh:qjg (opd (upd tm (some 11) (.map (some 0))) fn167_k0.m) [.map (encU o),.map (encB b)]=[.gone,.map (encB b),.gone]:=rfl
    have h15:fn167_k0.it=12:=rfl
    dsimp only
    rw[hh,h15]
    simp only[List.length_cons,List.length_nil]
    show Option.map _ (match qaY _ 2 _ _ (encU o') _ with | some (.normal,s2)=>_ | some (e,s2)=>_ | none=>_)=_
    rw[hrun]
    dsimp only
    have hm2:opd (upd tm (some 11) (.map (some 0))) fn167_k0.m=.map (some 0):=rfl
    have hk:fn167_k0.keep=[2]:=rfl
    rw[hm2,hk]
    have hs0:=hP.sort0
    unfold qvp qru qhA
    by_cases hz:ks=[]
    ·subst hz
     have e3:qrw []=.list [] (some none):=rfl
     have e4:qrv []=[]:=rfl
     have e5:qa9 []=[]:=rfl
     rw[e3,e4,e5]
     simp -implicitDefEqProofs only[ev_,aOp,opd,gcE,qan,ren,renC,qaN,qa3,↓reduceIte,Nat.reduceEqDiff,Nat.reduceAdd,Nat.reduceLeDiff,qb4,hs0,qcW,qcX,qaT,qaU,qar L hp,hp]
    ·have e3:qrw ks=.vec 3 ks.length:=by unfold qrw;rw[if_neg hz]
     have e4:qrv ks=[.vec (ks.map qat) 1]:=by unfold qrv;rw[if_neg hz]
     have hs1:=hP.sort ks hz (by omega)
     have hzs:¬ qa9 ks=[]:=fun h=>hz (by have:=qdx ks;rw[h] at this;exact List.length_eq_zero_iff.1 this.symm)
     have hsl:=qdx ks
     have hdS:=qac (qa9 ks)
     have hwS:((qa9 ks).map qat).map wipeCell=(qa9 ks).map qat:=by rw[List.map_map];rfl
     have hlS:((qa9 ks).map qat).all leaf=true:=by
      rw[List.all_eq_true]
      intro x hx
      obtain⟨y,_,rfl⟩:=List.mem_map.1 hx
      rfl
     generalize qa9 ks=ss at *
     rw[e3,e4]
     simp -implicitDefEqProofs only[ev_,aOp,opd,gcE,qan,ren,renC,qaN,qa3,↓reduceIte,reduceCtorEq,Nat.reduceEqDiff,Nat.reduceAdd,Nat.reduceLT,Nat.reduceLeDiff,frz,frzC,qhH,qoD,qa6,qbK,qbt,qbL,qbB,Nat.mul_one,qb4,hs1,hsl,hzs,hdS,hwS,hlS,qcW,qcX,qaT,qaU,qar L hp,hp]
   ·unfold qru fn167_k0
    have e3:qrw []=.list [] (some none):=rfl
    have e4:qrv []=[]:=rfl
    rw[e3,e4]
    simp -implicitDefEqProofs only[ev_,qan,ren,renC,qaN,qa3,↓reduceIte,Nat.reduceEqDiff,Nat.reduceAdd,Nat.reduceLT,Nat.reduceLeDiff,h4,qcW,qcX]
 obtain⟨tc,htc,hdt⟩:=qds t
 have hn0:encB []=[]:=rfl
 have hn1:encU []=[]:=rfl
 rw[hn0,hn1] at hfree
 rw[htc] at hfree ⊢
 generalize (if qa9 (qdP o)=[] then some none else none:Option (Option Nat))=ow at *
 unfold fn167
 generalize fn167_k0=kk at *
 generalize qfc=bb at *
 generalize qhA=aa at *
 simp -implicitDefEqProofs only[ev_,aOp,opd,qaw,qad,qai,qam,qan,ren,renC,qaN,qa3,↓reduceIte,reduceCtorEq,Nat.reduceEqDiff,Nat.reduceAdd,Nat.reduceLT,qaj,hfree,hrange,hdt,qcW,qcX,qaT,qaU,qar L hp,hp]
end
end Go.Abs
