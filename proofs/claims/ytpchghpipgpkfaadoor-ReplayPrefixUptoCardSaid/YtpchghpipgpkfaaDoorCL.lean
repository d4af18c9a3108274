/-
  PARTS OF A PROOF, joined: an abstract machine for quiet code, its evaluation, and what the seat's functions answer on it. Conditions: none.
-/
import Derived.Test.YtpchghpipgpkfaaDoorCJ
set_option linter.unusedVariables false
set_option linter.unusedSimpArgs false
set_option maxRecDepth 100000
set_option maxHeartbeats 4000000
namespace Go.Abs
abbrev FS:=IM Int × IM Unit
def qd1 (v:Int) (b:IM Int):Int:=(qbQ v b).getD 0
def qgf (d:Int) (b:IM Int) (n:Int):IM Int:=qoN n (qd1 n b+d) b
def qdR (op n:Int) (s:FS):FS:=if op=0∧qd1 n s.1=0 then (s.1,qoN n () s.2) else s
mutual
def qdY:CTree→FS→FS
 | .mk op n binds kids alts,s=>qd7 op binds alts kids 0 (qdR op n s)
def qd7 (op:Int) (binds:List Int) (alts:List CAlt):List CTree→Nat→FS→FS
 | [],_,s=>s
 | kid :: ks,k,s =>
   qd7 op binds alts ks (k+1)
    ((qcs op binds alts k).foldl (qgf (-1)) (qdY kid ((qcs op binds alts k).foldl (qgf 1) s.1,s.2)).1,(qdY kid ((qcs op binds alts k).foldl (qgf 1) s.1,s.2)).2)
end
mutual
def hgt:CTree→Nat
 | .mk _ _ _ kids _=>qdk kids+1
def qdk:List CTree→Nat
 | []=>0
 | k::ks=>max (hgt k) (qdk ks)
end
theorem qeF {k:CTree} {ks:List CTree} (h:k∈ks):hgt k≤qdk ks:=by
 induction ks with
 | nil=>cases h
 | cons x xs ih =>
   unfold qdk
   rcases List.mem_cons.1 h with rfl | h
   ·omega
   ·have:=ih h;omega
inductive TFit:CTree→Prop
 | mk (op n:Int) (binds:List Int) (kids:List CTree) (alts:List CAlt) (hb:(binds++alts.flatMap (·.binds)).length<2 ^ 30) (hk:kids.length<2 ^ 30) (ha:alts.length<2 ^ 30) (h:∀ k∈kids,TFit k):TFit (.mk op n binds kids alts)
theorem qix (alts:List CAlt) {a:CAlt} (h:a∈alts):a.binds.length≤(alts.flatMap (·.binds)).length:=by
 induction alts with
 | nil=>cases h
 | cons x xs ih =>
   rw[List.flatMap_cons,List.length_append]
   rcases List.mem_cons.1 h with rfl | h
   ·omega
   ·have:=ih h;omega
theorem qrt (op:Int) (binds:List Int) (alts:List CAlt) (k:Nat):(qcs op binds alts k).length≤(binds++alts.flatMap (·.binds)).length:=by
 unfold qcs
 rw[List.length_append]
 split
 ·omega
 ·split
  ·split
   ·rename_i a ha
    have:=qix alts (List.mem_of_getElem? ha)
    omega
   ·simp
  ·simp
theorem qly (v n x:Int) (b:IM Int):qd1 v (qoN n x b)=if v=n then x else qd1 v b:=by
 unfold qd1
 rw[qjl]
 split<;>rfl
def MB (lo hi:Int) (b:IM Int):Prop:=∀ v,lo≤qd1 v b∧qd1 v b≤hi
theorem MB.up {lo hi:Int} {b:IM Int} (h:MB lo hi b) (n:Int):MB lo (hi+1) (qgf 1 b n):=by
 intro v
 unfold qgf
 rw[qly]
 have h1:=h v
 have h2:=h n
 split<;>omega
theorem MB.down {lo hi:Int} {b:IM Int} (h:MB lo hi b) (n:Int):MB (lo-1) hi (qgf (-1) b n):=by
 intro v
 unfold qgf
 rw[qly]
 have h1:=h v
 have h2:=h n
 split<;>omega
theorem MB.ups {lo:Int}:∀ (l:List Int) {hi:Int} {b:IM Int},MB lo hi b→MB lo (hi+l.length) (l.foldl (qgf 1) b)
 | [],hi,b,h=>by simpa using h
 | n :: l,hi,b,h => by
   have:=MB.ups l (h.up n)
   rw[List.foldl_cons,List.length_cons]
   rw[show hi+((l.length+1:Nat):Int)=hi+1+l.length by omega]
   exact this
def qyk (v:Int) (l:List Int):Int:=(l.count v:Int)
theorem qcS (d v:Int):∀ (l:List Int) (b:IM Int),qd1 v (l.foldl (qgf d) b)=qd1 v b+d*qyk v l
 | [],b=>by simp[qyk]
 | n :: l,b => by
   rw[List.foldl_cons,qcS d v l]
   unfold qgf qyk
   rw[qly,List.count_cons]
   by_cases h:v=n
   ·subst h
    simp
    rw[Int.mul_add]
    omega
   ·have:(n==v)=false:=by simpa using fun e=>h e.symm
    simp[h,this]
mutual
theorem qju (v:Int):∀ (t:CTree) (s:FS),qd1 v (qdY t s).1=qd1 v s.1
 | .mk op n binds kids alts,s => by
   rw[qdY,qkO v op binds alts kids]
   unfold qdR
   split<;>rfl
theorem qkO (v op:Int) (binds:List Int) (alts:List CAlt):∀ (ks:List CTree) (k:Nat) (s:FS),qd1 v (qd7 op binds alts ks k s).1=qd1 v s.1
 | [],_,s=>by rw[qd7]
 | kid :: ks,k,s => by
   rw[qd7,qkO v op binds alts ks,qcS,qju v kid,qcS]
   omega
end
abbrev encB:IM Int→List (AVal × AVal):=qkm qau
theorem qbY (b:IM Int):qnZ (.map (encB b))=[]:=qyx _ (fun _=>rfl) b
theorem qbZ (ρ:Nat→Option Nat) (b:IM Int):qeo ρ (.map (encB b))=.map (encB b):=qyK _ (fun _=>rfl) ρ b
theorem qqL (h:Heap) (r:Nat) (v:Int) (m:IM Int) (hr:h[r]? = some (.map (encB m))):qhq h .int (.int .i64 0) false (.map (some r)) (.int .i64 v)=some (.int .i64 (qd1 v m)):=by
 rw[qqM qau h r _ false v m hr]
 unfold qd1
 cases qbQ v m<;>rfl
theorem qy5 (h:Heap) (r:Nat) (v x:Int) (m:IM Int) (hr:h[r]? = some (.map (encB m))):qdt h .int (.map (some r)) (.int .i64 v) (.int .i64 x)=some (h.set r (.map (encB (qoN v x m)))) :=
 qy6 qau h r v x m rfl hr
section
variable {L:Lib} (hL:Plain L)
def qrY (A:AVal) (kid:CTree) (l:List Int) (K:List AVal) (n k:Nat) (o:IM Unit) (b:IM Int) (j:Nat):St :=
 ⟨kt [0,1,2,7,8,36,37,38,46,47,48] [A,.map (some 0),.map (some 1),qap kid,.list (l.map qau) none,.list K none,.int .i64 n,.int .i64 k,.list (l.map qau) none,.int .i64 l.length,.int .i64 j],[.map (encB b),.map (encU o)]⟩
def qud (A:AVal) (kid:CTree) (l:List Int) (K:List AVal) (n k:Nat) (o:IM Unit) (b:IM Int):St :=
 ⟨kt [0,1,2,7,8,36,37,38] [A,.map (some 0),.map (some 1),qap kid,.list (l.map qau) none,.list K none,.int .i64 n,.int .i64 k],[.map (encB b),.map (encU o)]⟩
theorem qwf (A:AVal) (hA:qaA A=true) (kid:CTree) (l:List Int) (hl:l.length<2 ^ 30) (K:List AVal) (hK:qay K=true) (n k:Nat) (o:IM Unit) (b:IM Int) (c:Int) (hc:0≤c) (hc2:c+2 ^ 30<2 ^ 62) (hb:MB 0 c b) :
  qa5 L.pure (call L) 2 [0,1,2,7,8,36,37,38,46,47,48] [0,1,2,7,8,36,37,38] 2 qiA (qrY A kid l K n k o b 0)=some (.normal,qud A kid l K n k o (l.foldl (qgf 1) b)):=by
 have hT:=qca kid
 refine (qec l (qgf 1) (qrY A kid l K n k o) (qud A kid l K n k o) (fun b j=>MB 0 (c+(j:Nat)) b) b (by simpa using hb) ?_ ?_).2
 ·intro j hj b hb
  obtain⟨h1,h2,h3⟩:=qaN qau l hl j hj
  refine⟨?_,by have:=hb.up l[j];rw[show c+((j+1:Nat):Int)=c+(j:Nat)+1 by omega];exact this⟩
  generalize l[j]=v at *
  have hv:=hb v
  have w:IntKind.i64.wrap (qd1 v b+1)=qd1 v b+1:=qbW (by omega) (by omega)
  have hlk:=fun (h:Heap) (hr:h[0]? = some (.map (encB b)))=>qqL h 0 v b hr
  have hup:=fun (h:Heap) (hr:h[0]? = some (.map (encB b)))=>qy5 h 0 v (qd1 v b+1) b hr
  unfold qiA qrY qgf
  simp -implicitDefEqProofs only[ev_,aOp,opd,qaa,qas,qax,qaw,qad,qab,qag,qav,ren,renC,qaZ,qa8,↓reduceIte,reduceCtorEq,Nat.reduceEqDiff,Nat.reduceAdd,Nat.reduceLT,Nat.reduceLeDiff,qbe,qah,h1,h2,h3,hlk,hup,w,hA,hT,hK,qbY,qbZ,qba,qbb]
 ·intro b _
  have h0:=qaO l.length
  unfold qiA qrY qud
  simp -implicitDefEqProofs only[ev_,aOp,opd,qaa,qax,qaw,qab,gcE,qav,ren,renC,qaZ,qa8,↓reduceIte,reduceCtorEq,Nat.reduceEqDiff,Nat.reduceAdd,Nat.reduceLT,Nat.reduceLeDiff,qah,h0,hA,hT,hK,qbY,qbZ,qba,qbb]
def qrZ (A:AVal) (l:List Int) (K:List AVal) (n k:Nat) (o:IM Unit) (b:IM Int) (j:Nat):St :=
 ⟨kt [0,1,2,36,37,38,61,62,63] [A,.map (some 0),.map (some 1),.list K none,.int .i64 n,.int .i64 k,.list (l.map qau) none,.int .i64 l.length,.int .i64 j],[.map (encB b),.map (encU o)]⟩
def qlF (A:AVal) (K:List AVal) (n k:Nat) (o:IM Unit) (b:IM Int):St :=
 ⟨kt [0,1,2,36,37,38] [A,.map (some 0),.map (some 1),.list K none,.int .i64 n,.int .i64 k],[.map (encB b),.map (encU o)]⟩
theorem qwg (A:AVal) (hA:qaA A=true) (l:List Int) (hl:l.length<2 ^ 30) (K:List AVal) (hK:qay K=true) (n k:Nat) (o:IM Unit) (b:IM Int) (c:Int) (hc:0≤c) (hc2:c<2 ^ 62) (hb:MB 0 c b) :
  qa5 L.pure (call L) 2 [0,1,2,36,37,38,61,62,63] [0,1,2,36,37,38] 4 qiB (qrZ A l K n k o b 0)=some (.normal,qlF A K n k o (l.foldl (qgf (-1)) b)):=by
 refine (qec l (qgf (-1)) (qrZ A l K n k o) (qlF A K n k o) (fun b j=>MB (-(j:Nat)) c b) b (by simpa using hb) ?_ ?_).2
 ·intro j hj b hb
  obtain⟨h1,h2,h3⟩:=qaN qau l hl j hj
  refine⟨?_,by have:=hb.down l[j];rw[show -((j+1:Nat):Int) = -(j:Nat)-1 by omega];exact this⟩
  generalize l[j]=v at *
  have hv:=hb v
  have w:IntKind.i64.wrap (qd1 v b-1)=qd1 v b + -1:=by rw[qbW (by omega) (by omega)];rfl
  have hlk:=fun (h:Heap) (hr:h[0]? = some (.map (encB b)))=>qqL h 0 v b hr
  have hup:=fun (h:Heap) (hr:h[0]? = some (.map (encB b)))=>qy5 h 0 v (qd1 v b + -1) b hr
  unfold qiB qrZ qgf
  simp -implicitDefEqProofs only[ev_,aOp,opd,qaa,qas,qax,qaw,qad,qab,qag,qav,ren,renC,qaZ,qa8,↓reduceIte,reduceCtorEq,Nat.reduceEqDiff,Nat.reduceAdd,Nat.reduceLT,Nat.reduceLeDiff,Int.reduceNeg,qbe,qah,h1,h2,h3,hlk,hup,w,hA,hK,qbY,qbZ,qba,qbb]
 ·intro b _
  have h0:=qaO l.length
  unfold qiB qrZ qlF
  simp -implicitDefEqProofs only[ev_,aOp,opd,qaa,qax,qaw,qab,gcE,qav,ren,renC,qaZ,qa8,↓reduceIte,reduceCtorEq,Nat.reduceEqDiff,Nat.reduceAdd,Nat.reduceLT,Nat.reduceLeDiff,h0,hA,hK,qbY,qbZ,qba,qbb]
def qg3 (op:Int) (binds:List Int) (alts:List CAlt) (k:Nat) (s:FS) (kid:CTree):FS :=
 ((qcs op binds alts k).foldl (qgf (-1)) (qdY kid ((qcs op binds alts k).foldl (qgf 1) s.1,s.2)).1,(qdY kid ((qcs op binds alts k).foldl (qgf 1) s.1,s.2)).2)
theorem qjt (op:Int) (binds:List Int) (alts:List CAlt):∀ (ks:List CTree) (k:Nat) (s:FS),qbv (fun k s kid=>(.ok (qg3 op binds alts k s kid):Except Unit FS)) ks k s=.ok (qd7 op binds alts ks k s)
 | [],k,s=>by rw[qd7];rfl
 | kid::ks,k,s=>by rw[qbv,qd7];exact qjt op binds alts ks (k+1) _
theorem qlJ (op:Int) (binds:List Int) (alts:List CAlt) (k:Nat) (s:FS) (kid:CTree) (v:Int):qd1 v (qg3 op binds alts k s kid).1=qd1 v s.1:=by
 unfold qg3
 dsimp only
 rw[qcS,qju v kid,qcS]
 omega
include hL
theorem qwh (h236:L.fns 236=some fn236) (op n:Int) (binds:List Int) (kids:List CTree) (alts:List CAlt) (hb:(binds++alts.flatMap (·.binds)).length<2 ^ 30) (hk:kids.length<2 ^ 30) (ha:alts.length<2 ^ 30)
  (c:Int) (hc:0≤c) (hc2:c+2 ^ 30<2 ^ 62) (s0:FS) (hs0:MB 0 c s0.1)
  (ih:∀ kid∈kids,∀ (b:IM Int) (o:IM Unit),MB 0 (c+2 ^ 30) b→call L 196 [qap kid,.map (some 0),.map (some 1)] [.map (encB b),.map (encU o)]=some (.val (.tuple []),[.map (encB (qdY kid (b,o)).1),.map (encU (qdY kid (b,o)).2)])) :
  qa5 L.pure (call L) 2 [0,1,2,36,37,38] [] 0 qiC (qlF (.vptr [.int .i64 op,.int .i64 n,.list (binds.map qau) none,.list (kids.map qap) none,.list (alts.map qar) none] 0) (kids.map qap) kids.length 0 s0.2 s0.1) =
   some (.normal,⟨kt [] [],[.map (encB (qd7 op binds alts kids 0 s0).1),.map (encU (qd7 op binds alts kids 0 s0).2)]⟩):=by
 have hp:=hL.pure
 have hA:qaA (.vptr [.int .i64 op,.int .i64 n,.list (binds.map qau) none,.list (kids.map qap) none,.list (alts.map qar) none] 0)=true:=by
  simp only[qaA,qay,qah,qao,qbj,Bool.and_self]
 have hK:=qbj kids
 refine ((qcc kids (fun k s kid=>(.ok (qg3 op binds alts k s kid):Except Unit FS)) (fun s k=>qlF (.vptr [.int .i64 op,.int .i64 n,.list (binds.map qau) none,.list (kids.map qap) none,.list (alts.map qar) none] 0) (kids.map qap) kids.length k s.2 s.1)
  (fun s=>⟨kt [] [],[.map (encB s.1),.map (encU s.2)]⟩) (fun _ _=>False) (fun s _=>MB 0 c s.1) s0 hs0 ?_ ?_ ?_).1 _ (qjt op binds alts kids 0 s0)).2
 ·intro k hk' s s' hs hq
  injection hq with hq
  subst hq
  refine⟨?_,fun v=>by rw[qlJ];exact hs v⟩
  obtain⟨h1,h2,h3⟩:=qaN qap kids hk k hk'
  have hbo:=qtS hL h236 op n binds (.list (kids.map qap) none) alts ha k (by omega)
  have hbl:=qrt op binds alts k
  have ihk:=ih kids[k] (List.getElem_mem hk')
  unfold qg3
  generalize kids[k]=kid at *
  have hT:=qca kid
  generalize qcs op binds alts k=l at *
  have hl0:=qwf (L:=L) _ hA kid l (by omega) (kids.map qap) hK kids.length k s.2 s.1 c hc (by omega) hs
  have hup:=MB.ups l hs
  have hup2:MB 0 (c+2 ^ 30) (l.foldl (qgf 1) s.1):=fun v=>⟨(hup v).1,by have:=(hup v).2;omega⟩
  have ihk:=ihk (l.foldl (qgf 1) s.1) s.2 hup2
  have hl1:=qwg (L:=L) _ hA l (by omega) (kids.map qap) hK kids.length k (qdY kid (l.foldl (qgf 1) s.1,s.2)).2 (qdY kid (l.foldl (qgf 1) s.1,s.2)).1 (c+2 ^ 30) (by omega) (by omega)
   (fun v=>by rw[qju];exact hup2 v)
  generalize qdY kid (l.foldl (qgf 1) s.1,s.2)=r at *
  unfold qrY qud at hl0
  unfold qrZ qlF at hl1
  simp only[Int.natCast_zero] at hl0 hl1
  obtain⟨tc,htc,hdt⟩:=qbt kid
  rw[htc] at ihk hl0 h3 hT
  unfold qiC qlF
  simp -implicitDefEqProofs only[ev_,aOp,opd,qaa,qax,qa7,qaw,qad,qab,qag,qav,ren,renC,qaZ,qa8,↓reduceIte,reduceCtorEq,Nat.reduceEqDiff,Nat.reduceAdd,Nat.reduceLT,Nat.reduceLeDiff,Int.reduceNeg,qah,qao,h1,h2,h3,hbo,hl0,ihk,hl1,hK,hT,hdt,qbY,qbZ,qba,qbb,qal L hp,hp,qdy,List.range_succ,List.range_zero]
 ·intro k hk' s e hs hq
  cases hq
 ·intro s _
  have h0:=qaO kids.length
  unfold qiC qlF
  simp -implicitDefEqProofs only[ev_,aOp,opd,qaa,qax,qaw,qab,gcE,qav,ren,renC,qaZ,qa8,↓reduceIte,reduceCtorEq,Nat.reduceEqDiff,Nat.reduceAdd,h0,hK,qbY,qbZ,qba,qbb]
theorem qwi (h236:L.fns 236=some fn236) (h196:L.fns 196=some fn196):∀ (t:CTree),TFit t→∀ (c:Int) (b:IM Int) (o:IM Unit),0≤c→c+2 ^ 30*(hgt t:Int)<2 ^ 62→MB 0 c b →
  call L 196 [qap t,.map (some 0),.map (some 1)] [.map (encB b),.map (encU o)]=some (.val (.tuple []),[.map (encB (qdY t (b,o)).1),.map (encU (qdY t (b,o)).2)]):=by
 have hs:L.summ 196=none:=hL.summ 196 (by rw[h196];exact fun hx=>by cases hx)
 intro t
 induction t using CTree.ind with
 | h op n binds kids alts ih =>
   intro hf c b o hc hc2 hb
   cases hf with
   | mk _ _ _ _ _ hbf hkf haf hfk =>
     rw[hgt] at hc2
     have hloop:=qwh hL h236 op n binds kids alts hbf hkf haf c hc (by omega) (qdR op n (b,o)) (by unfold qdR;split<;>exact hb) (by
      intro kid hkid b' o' hb'
      have hh:=qeF hkid
      exact ih kid hkid (hfk kid hkid) (c+2 ^ 30) b' o' (by omega) (by omega) hb')
     rw[qdY]
     refine qaB hs h196 ?_
     rw[qbr]
     have hK:=qbj kids
     unfold qlF at hloop
     simp only[Int.natCast_zero] at hloop
     have hlk:=fun (h:Heap) (hr:h[0]? = some (.map (encB b)))=>qqL h 0 n b hr
     have hup:=fun (h:Heap) (hr:h[1]? = some (.map (encU o)))=>qy6 (fun _:Unit=>AVal.agg []) h 1 n () o rfl hr
     unfold qdR at hloop ⊢
     by_cases h0:op=0
     ·subst h0
      by_cases hz:qd1 n b=0
      ·rw[if_pos ⟨rfl,hz⟩] at hloop ⊢
       dsimp only at hloop
       unfold fn196
       simp -implicitDefEqProofs only[ev_,aOp,opd,qaa,qas,qax,qa7,qaw,qab,qaf,qag,qai,qbR,qan,qac,qaj,qav,ren,renC,qaZ,qa8,↓reduceIte,reduceCtorEq,Nat.reduceEqDiff,Nat.reduceAdd,Nat.reduceLT,Nat.reduceLeDiff,qah,qao,hlk,hup,hz,hloop,hK,qbY,qbZ,qba,qbb]
      ·have hz':(qd1 n b==0)=false:=by simpa using hz
       rw[if_neg (fun h=>hz h.2)] at hloop ⊢
       dsimp only at hloop
       unfold fn196
       simp -implicitDefEqProofs only[ev_,aOp,opd,qaa,qax,qa7,qaw,qab,qaf,qag,qai,qan,qac,qaj,qav,ren,renC,qaZ,qa8,↓reduceIte,reduceCtorEq,Nat.reduceEqDiff,Nat.reduceAdd,Nat.reduceLT,Nat.reduceLeDiff,qah,qao,hlk,hz',hloop,hK,qbY,qbZ,qba,qbb]
     ·have h0':(op==0)=false:=by simpa using h0
      rw[if_neg (fun h=>h0 h.1)] at hloop ⊢
      dsimp only at hloop
      unfold fn196
      simp -implicitDefEqProofs only[ev_,aOp,opd,qaa,qax,qa7,qaw,qab,qaf,qag,qai,qan,qac,qaj,qav,ren,renC,qaZ,qa8,↓reduceIte,reduceCtorEq,Nat.reduceEqDiff,Nat.reduceAdd,Nat.reduceLT,Nat.reduceLeDiff,qah,qao,h0',hloop,hK,qbY,qbZ,qba,qbb]
end
def qwn (n:Int):List Int→List Int
 | []=>[n]
 | m::l=>if n≤m then n::m::l else m::qwn n l
def qa2 (l:List Int):List Int:=l.foldr qwn []
theorem qjx (n:Int):∀ l,(qwn n l).Perm (n::l)
 | []=>.refl _
 | m :: l => by
   unfold qwn
   split
   ·exact .refl _
   ·exact ((qjx n l).cons m).trans (.swap n m l)
theorem qjy (n:Int):∀ {l:List Int},l.Pairwise (· ≤ ·)→(qwn n l).Pairwise (· ≤ ·)
 | [],_=>by simp[qwn]
 | m :: l,h => by
   rw[List.pairwise_cons] at h
   unfold qwn
   split
   ·rename_i hnm
    rw[List.pairwise_cons]
    refine⟨fun x hx=>?_,List.pairwise_cons.2 h⟩
    rcases List.mem_cons.1 hx with rfl | hx
    ·exact hnm
    ·have:=h.1 x hx;omega
   ·rw[List.pairwise_cons]
    refine⟨fun x hx=>?_,qjy n h.2⟩
    rcases List.mem_cons.1 ((qjx n l).mem_iff.1 hx) with rfl | hx
    ·omega
    ·exact h.1 x hx
theorem qcK:∀ l,(qa2 l).Perm l
 | []=>.refl _
 | n::l=>(qjx n (qa2 l)).trans ((qcK l).cons n)
theorem qcL:∀ l,(qa2 l).Pairwise (· ≤ ·)
 | []=>.nil
 | n::l=>qjy n (qcL l)
theorem qnD {a b:List Int} (ha:a.Pairwise (· ≤ ·)) (hb:b.Pairwise (· ≤ ·)) (h:a.Perm b):a=b :=
 List.Perm.eq_of_pairwise (le:=fun x y:Int=>x≤y) (fun x y _ _ h1 h2=>by omega) ha hb h
theorem qkx {a b:List Int} (h:a.Perm b):qa2 a=qa2 b :=
 qnD (qcL a) (qcL b) ((qcK a).trans (h.trans (qcK b).symm))
theorem qdU (l:List Int):(qa2 l).length=l.length:=(qcK l).length_eq
theorem qnk {α β:Type} (f:α→β):∀ {es:List β} {l:List α},es.Perm (l.map f)→∃ l':List α,l'.Perm l∧es=l'.map f
 | [],l,h => by
   have:=h.symm.eq_nil
   rw[List.map_eq_nil_iff] at this
   exact⟨[],by rw[this],rfl⟩
 | e :: es,l,h => by
   obtain⟨x,hx,rfl⟩:=List.mem_map.1 (h.mem_iff.1 (List.mem_cons_self ..))
   obtain⟨s,t,rfl⟩:=List.append_of_mem hx
   have h1:(f x::es).Perm (f x::(s++t).map f):=by
    refine h.trans ?_
    rw[List.map_append,List.map_cons,List.map_append]
    exact List.perm_middle
   obtain⟨l',h2,rfl⟩:=qnk f h1.cons_inv
   exact⟨x::l',(h2.cons x).trans List.perm_middle.symm,rfl⟩
theorem qsV {pure:Nat→Bool} {call:CallT} {k:RangeK} {b c:ACode} {s s1:St} {es:List (AVal × AVal)} {r:AExit × St} (hpre:qb1 pure call k.pre s=some (.normal,s1)) (hes:qcm k.str (opd s1.tm k.m) s1.h=some es)
  (hall:∀ es',qcb k.str es es'→qck (qb1 pure call) k (qaR pure call b) (qaR pure call c) s s1 es'=some r):qaR pure call (.range k b c) s=some r:=by
 rw[qaR,qej,hpre]
 dsimp only
 rw[hes]
 exact (qcq (qbI _ _)).2 hall
def qeb {β:Type} (m:IM β):List Int:=m.map (·.1)
def qgd (t:CTree):List Int:=qa2 (qeb (qdY t ([],[])).2)
def qtJ (acc:List Int):AVal:=if acc=[] then .list [] (some none) else .vec 3 acc.length
def qtI (acc:List Int):Heap:=if acc=[] then [] else [.vec (acc.map qau) 1]
def qtH (b:IM Int) (acc:List Int):St:=⟨kt [4,12] [qtJ acc,.ptr (some (2,0))],[.gone,.map (encB b),.gone]++qtI acc⟩
theorem quH (id n:Nat):qfe (.vec id n)=false:=rfl
theorem qxx:qfe (.list [] (some none))=true:=rfl
theorem qk5 (pure:Nat→Bool) (call:CallT) (sz bytes:Nat) (x y:Opd) (tm:Tmps) (h:Heap):qis pure call (.append sz bytes x y) tm h =
  if qfe (opd tm x)=true then (match qep h sz (opd tm x) (opd tm y) with | some (v,h')=>some (.val v,h') | none=>none) else aOp pure call (.append sz bytes x y) tm h:=rfl
theorem qgh (pure:Nat→Bool) (call:CallT) (sz:Nat) (ps:List Opd) (tm:Tmps) (h:Heap):qis pure call (.buildSlice sz ps) tm h=aOp pure call (.buildSlice sz ps) tm h:=rfl
section
variable {L:Lib} (hL:Plain L)
theorem qve (b:IM Int) (acc:List Int) (hl:acc.length<2 ^ 30) (k:Int) :
  (qbc (qb1 L.pure (call L)) 2 fn167_k0 (qaR L.pure (call L) qfL) (.int .i64 k,.agg []) (qtH b acc)).map (fun r=>(r.1,gc 3 fn167_k0.kr r.2))=some (.normal,qtH b (acc++[k])):=by
 unfold qbc fn167_k0 qfL qtH
 have hall:=qeq acc
 have hn:acc++[k]≠[]:=by simp
 have e1:qtJ (acc++[k])=.vec 3 (acc.length+1):=by unfold qtJ;rw[if_neg hn];simp
 have e2:qtI (acc++[k])=[.vec ((acc++[k]).map qau) 1]:=by unfold qtI;rw[if_neg hn]
 rw[e1,e2]
 by_cases hz:acc=[]
 ·subst hz
  have e3:qtJ []=.list [] (some none):=rfl
  have e4:qtI []=[]:=rfl
  rw[e3,e4]
  simp -implicitDefEqProofs only[ev_,aOp,opd,qaa,leaf,qav,ren,renC,qaZ,qa8,↓reduceIte,Nat.reduceEqDiff,Nat.reduceAdd,Nat.reduceLT,Nat.reduceLeDiff,qbe,qbp,qbK,qpD,qdf,qj4,qk5,qgh,qxx,qep,qbY,qbZ]
 ·have e3:qtJ acc=.vec 3 acc.length:=by unfold qtJ;rw[if_neg hz]
  have e4:qtI acc=[.vec (acc.map qau) 1]:=by unfold qtI;rw[if_neg hz]
  have hle:acc.length+1≤1073741824:=by omega
  rw[e3,e4]
  simp -implicitDefEqProofs only[ev_,aOp,opd,qaa,leaf,qav,ren,renC,qaZ,qa8,qbs,↓reduceIte,Nat.reduceEqDiff,Nat.reduceAdd,Nat.reduceLT,Nat.reduceLeDiff,qbe,qbp,qbK,qbO,Nat.mul_one,qpD,qdf,qj4,qk5,qgh,quH,hle,qbY,qbZ]
def qy0 (b:IM Int) (acc:List Int):St:=⟨upd (upd (qtH b acc).tm (some 13) (.tuple [.bool false])) (some 14) (.bool false),(qtH b acc).h⟩
theorem qym (b:IM Int) (acc:List Int):qbE (qb1 L.pure (call L)) 2 fn167_k0 (qtH b acc)=some (.normal,qy0 b acc):=by
 unfold qbE fn167_k0 qy0 qtH
 simp -implicitDefEqProofs only[ev_,aOp,opd,qaa,↓reduceIte,Nat.reduceEqDiff,qpD]
theorem qvL (b:IM Int):∀ (o':IM Unit) (acc:List Int) (s:St),acc.length+o'.length<2 ^ 30→gc 3 fn167_k0.kr s=qtH b acc →
  qbd (qb1 L.pure (call L)) 2 fn167_k0 (qaR L.pure (call L) qfL) (encU o') s=some (.normal,qy0 b (acc++qeb o'))
 | [],acc,s,_,hs => by
   show qbE _ 2 fn167_k0 (gc 3 fn167_k0.kr s)=_
   rw[hs]
   have:acc++qeb ([]:IM Unit)=acc:=by simp[qeb]
   rw[this]
   exact qym b acc
 | e :: o',acc,s,hl,hs => by
   rw[List.length_cons] at hl
   have hr:=qve (L:=L) b acc (by omega) e.1
   rw[← hs] at hr
   obtain⟨⟨x,s'⟩,h1,h2⟩:=Option.map_eq_some_iff.1 hr
   simp only[Prod.mk.injEq] at h2
   obtain⟨rfl,h2⟩:=h2
   show (match qbc _ 2 fn167_k0 _ (.int .i64 e.1,.agg []) (gc 3 fn167_k0.kr s) with | some (.normal,s')=>qbd _ 2 fn167_k0 _ (encU o') s' | r=>qdf fn167_k0.id r)=_
   rw[h1]
   have:=qvL b o' (acc++[e.1]) s' (by simp;omega) h2
   rw[List.append_assoc] at this
   exact this
include hL
theorem qr6 (hP:CPrims L qa2) (h236:L.fns 236=some fn236) (h196:L.fns 196=some fn196) (h167:L.fns 167=some fn167) (t:CTree) (hf:TFit t) (hh:hgt t<2 ^ 30) (hn:(qdY t ([],[])).2.length<2 ^ 30) (h:Heap) :
  pcall L 167 [qap t] h=some (.val (.list ((qgd t).map qau) none),h):=by
 have hp:=hL.pure
 have hfree:=qwi hL h236 h196 t hf 0 [] [] (by omega) (by omega) (fun v=>by simp[qd1,qbQ])
 refine qaW hL h167 (by rw[qaT];exact qah _) ?_ h
 unfold qgd
 generalize qdY t ([],[])=r at *
 obtain⟨b,o⟩:=r
 dsimp only at hfree hn ⊢
 have hrange:∀ (tm:Tmps),tm 3=.map (some 0)→tm 4=.list [] (some none)→qaR L.pure (call L) (.range fn167_k0 qfL qiy) ⟨tm,[.map (encU o),.map (encB b)]⟩ =
   some (.ret,⟨kt [2] [.list ((qa2 (qeb o)).map qau) (if qa2 (qeb o)=[] then some none else none)],[.map (encU o),.map (encB b)]⟩):=by
  intro tm h3 h4
  refine qsV (s1:=⟨upd tm (some 11) (.map (some 0)),[.map (encU o),.map (encB b)]⟩) (es:=encU o) ?_ ?_ ?_
  ·unfold fn167_k0
   simp -implicitDefEqProofs only[ev_,aOp,opd,h3]
  ·unfold fn167_k0
   simp -implicitDefEqProofs only[ev_,opd,↓reduceIte,qcm,qna,h3]
  ·intro es' hes
   have hes':es'.Perm (o.map fun p=>((.int .i64 p.1:AVal),AVal.agg [])):=hes
   obtain⟨o',hpm,rfl⟩:=qnk _ hes'
   have hrun:=qvL (L:=L) b o' [] ⟨upd (upd tm (some 11) (.map (some 0))) (some 12) (.ptr (some (2,0))),[.gone,.map (encB b),.gone]⟩ (by rw[List.length_nil,hpm.length_eq];omega) ?_
   ·rw[List.nil_append] at hrun
    have hsort:qa2 (qeb o')=qa2 (qeb o):=qkx (hpm.map _)
    rw[← hsort]
    have hlen:(qeb o').length=o.length:=by unfold qeb;rw[List.length_map,hpm.length_eq]
    generalize qeb o'=ks at *
    unfold qck
    have hh:qkp (opd (upd tm (some 11) (.map (some 0))) fn167_k0.m) [.map (encU o),.map (encB b)]=[.gone,.map (encB b),.gone]:=rfl
    have h15:fn167_k0.it=12:=rfl
    dsimp only
    rw[hh,h15]
    simp only[List.length_cons,List.length_nil]
    show Option.map _ (match qbd _ 2 _ _ (encU o') _ with | some (.normal,s2)=>_ | some (e,s2)=>_ | none=>_)=_
    rw[hrun]
    dsimp only
    have hm2:opd (upd tm (some 11) (.map (some 0))) fn167_k0.m=.map (some 0):=rfl
    have hk:fn167_k0.keep=[2]:=rfl
    rw[hm2,hk]
    have hs0:=hP.sort0
    unfold qy0 qtH qiy
    by_cases hz:ks=[]
    ·subst hz
     have e3:qtJ []=.list [] (some none):=rfl
     have e4:qtI []=[]:=rfl
     have e5:qa2 []=[]:=rfl
     rw[e3,e4,e5]
     simp -implicitDefEqProofs only[ev_,aOp,opd,gcE,qav,ren,renC,qaZ,qa8,↓reduceIte,Nat.reduceEqDiff,Nat.reduceAdd,Nat.reduceLeDiff,qcd,hs0,qbY,qbZ,qba,qbb,qal L hp,hp]
    ·have e3:qtJ ks=.vec 3 ks.length:=by unfold qtJ;rw[if_neg hz]
     have e4:qtI ks=[.vec (ks.map qau) 1]:=by unfold qtI;rw[if_neg hz]
     have hs1:=hP.sort ks hz (by omega)
     have hzs:¬ qa2 ks=[]:=fun h=>hz (by have:=qdU ks;rw[h] at this;exact List.length_eq_zero_iff.1 this.symm)
     have hsl:=qdU ks
     have hdS:=qah (qa2 ks)
     have hwS:((qa2 ks).map qau).map wipeCell=(qa2 ks).map qau:=by rw[List.map_map];rfl
     have hlS:((qa2 ks).map qau).all leaf=true:=by
      rw[List.all_eq_true]
      intro x hx
      obtain⟨y,_,rfl⟩:=List.mem_map.1 hx
      rfl
     generalize qa2 ks=ss at *
     rw[e3,e4]
     simp -implicitDefEqProofs only[ev_,aOp,opd,gcE,qav,ren,renC,qaZ,qa8,↓reduceIte,reduceCtorEq,Nat.reduceEqDiff,Nat.reduceAdd,Nat.reduceLT,Nat.reduceLeDiff,frz,frzC,qkg,qvv,qbp,qb3,qbK,qb4,qbO,Nat.mul_one,qcd,hs1,hsl,hzs,hdS,hwS,hlS,qbY,qbZ,qba,qbb,qal L hp,hp]
   ·unfold qtH fn167_k0
    have e3:qtJ []=.list [] (some none):=rfl
    have e4:qtI []=[]:=rfl
    rw[e3,e4]
    simp -implicitDefEqProofs only[ev_,qav,ren,renC,qaZ,qa8,↓reduceIte,Nat.reduceEqDiff,Nat.reduceAdd,Nat.reduceLT,Nat.reduceLeDiff,h4,qbY,qbZ]
 obtain⟨tc,htc,hdt⟩:=qbt t
 have hn0:encB []=[]:=rfl
 have hn1:encU []=[]:=rfl
 rw[hn0,hn1] at hfree
 rw[htc] at hfree ⊢
 generalize (if qa2 (qeb o)=[] then some none else none:Option (Option Nat))=ow at *
 unfold fn167
 generalize fn167_k0=kk at *
 generalize qfL=bb at *
 generalize qiy=aa at *
 simp -implicitDefEqProofs only[ev_,aOp,opd,qan,qac,qae,qaj,qav,ren,renC,qaZ,qa8,↓reduceIte,reduceCtorEq,Nat.reduceEqDiff,Nat.reduceAdd,Nat.reduceLT,qak,hfree,hrange,hdt,qbY,qbZ,qba,qbb,qal L hp,hp]
end
end Go.Abs
