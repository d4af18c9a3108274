/-
  PARTS OF A PROOF, joined: an abstract machine for quiet code, its evaluation, and what the seat's functions answer on it. Conditions: none.
-/
import Derived.Test.YtjbgooldkkbdmaaDoorCJ
set_option linter.unusedVariables false
set_option linter.unusedSimpArgs false
set_option maxRecDepth 100000
set_option maxHeartbeats 4000000
namespace Go.Abs
abbrev FS:=IM Int × IM Unit
def qbZ (v:Int) (b:IM Int):Int:=(qaI v b).getD 0
def qgc (d:Int) (b:IM Int) (n:Int):IM Int:=qgw n (qbZ n b+d) b
def qc0 (op n:Int) (s:FS):FS:=if op=0∧qbZ n s.1=0 then (s.1,qgw n () s.2) else s
mutual
def qdz:CTree→FS→FS
 | .mk op n binds kids alts,s=>qdr op binds alts kids 0 (qc0 op n s)
def qdr (op:Int) (binds:List Int) (alts:List CAlt):List CTree→Nat→FS→FS
 | [],_,s=>s
 | kid :: ks,k,s =>
   qdr op binds alts ks (k+1)
    ((qaQ op binds alts k).foldl (qgc (-1)) (qdz kid ((qaQ op binds alts k).foldl (qgc 1) s.1,s.2)).1,(qdz kid ((qaQ op binds alts k).foldl (qgc 1) s.1,s.2)).2)
end
mutual
def hgt:CTree→Nat
 | .mk _ _ _ kids _=>qqw kids+1
def qqw:List CTree→Nat
 | []=>0
 | k::ks=>max (hgt k) (qqw ks)
end
theorem qgZ {k:CTree} {ks:List CTree} (h:k∈ks):hgt k≤qqw ks:=by
 induction ks with
 | nil=>cases h
 | cons x xs ih =>
   unfold qqw
   rcases List.mem_cons.1 h with rfl | h
   ·omega
   ·have:=ih h;omega
inductive TFit:CTree→Prop
 | mk (op n:Int) (binds:List Int) (kids:List CTree) (alts:List CAlt) (hb:(binds++alts.flatMap (·.binds)).length<2 ^ 30) (hk:kids.length<2 ^ 30) (ha:alts.length<2 ^ 30) (h:∀ k∈kids,TFit k):TFit (.mk op n binds kids alts)
theorem qim (alts:List CAlt) {a:CAlt} (h:a∈alts):a.binds.length≤(alts.flatMap (·.binds)).length:=by
 induction alts with
 | nil=>cases h
 | cons x xs ih =>
   rw[List.flatMap_cons,List.length_append]
   rcases List.mem_cons.1 h with rfl | h
   ·omega
   ·have:=ih h;omega
theorem ql2 (op:Int) (binds:List Int) (alts:List CAlt) (k:Nat):(qaQ op binds alts k).length≤(binds++alts.flatMap (·.binds)).length:=by
 unfold qaQ
 rw[List.length_append]
 split
 ·omega
 ·split
  ·split
   ·rename_i a ha
    have:=qim alts (List.mem_of_getElem? ha)
    omega
   ·simp
  ·simp
theorem qbH (v n x:Int) (b:IM Int):qbZ v (qgw n x b)=if v=n then x else qbZ v b:=by
 unfold qbZ
 rw[qbU]
 split<;>rfl
def MB (lo hi:Int) (b:IM Int):Prop:=∀ v,lo≤qbZ v b∧qbZ v b≤hi
theorem MB.up {lo hi:Int} {b:IM Int} (h:MB lo hi b) (n:Int):MB lo (hi+1) (qgc 1 b n):=by
 intro v
 unfold qgc
 rw[qbH]
 have h1:=h v
 have h2:=h n
 split<;>omega
theorem MB.down {lo hi:Int} {b:IM Int} (h:MB lo hi b) (n:Int):MB (lo-1) hi (qgc (-1) b n):=by
 intro v
 unfold qgc
 rw[qbH]
 have h1:=h v
 have h2:=h n
 split<;>omega
theorem MB.ups {lo:Int}:∀ (l:List Int) {hi:Int} {b:IM Int},MB lo hi b→MB lo (hi+l.length) (l.foldl (qgc 1) b)
 | [],hi,b,h=>by simpa using h
 | n :: l,hi,b,h => by
   have:=MB.ups l (h.up n)
   rw[List.foldl_cons,List.length_cons]
   rw[show hi+((l.length+1:Nat):Int)=hi+1+l.length by omega]
   exact this
def qw2 (v:Int) (l:List Int):Int:=(l.count v:Int)
theorem qcu (d v:Int):∀ (l:List Int) (b:IM Int),qbZ v (l.foldl (qgc d) b)=qbZ v b+d*qw2 v l
 | [],b=>by simp[qw2]
 | n :: l,b => by
   rw[List.foldl_cons,qcu d v l]
   unfold qgc qw2
   rw[qbH,List.count_cons]
   by_cases h:v=n
   ·subst h
    simp
    rw[Int.mul_add]
    omega
   ·have:(n==v)=false:=by simpa using fun e=>h e.symm
    simp[h,this]
mutual
theorem qgX (v:Int):∀ (t:CTree) (s:FS),qbZ v (qdz t s).1=qbZ v s.1
 | .mk op n binds kids alts,s => by
   rw[qdz,qkr v op binds alts kids]
   unfold qc0
   split<;>rfl
theorem qkr (v op:Int) (binds:List Int) (alts:List CAlt):∀ (ks:List CTree) (k:Nat) (s:FS),qbZ v (qdr op binds alts ks k s).1=qbZ v s.1
 | [],_,s=>by rw[qdr]
 | kid :: ks,k,s => by
   rw[qdr,qkr v op binds alts ks,qcu,qgX v kid,qcu]
   omega
end
abbrev encB:IM Int→List (AVal × AVal):=qj2 qau
theorem qds (b:IM Int):qjW (.map (encB b))=[]:=qxl _ (fun _=>rfl) b
theorem qdt (ρ:Nat→Option Nat) (b:IM Int):qeb ρ (.map (encB b))=.map (encB b):=qxy _ (fun _=>rfl) ρ b
theorem qmF (h:Heap) (r:Nat) (v:Int) (m:IM Int) (hr:h[r]? = some (.map (encB m))):qhe h .int (.int .i64 0) false (.map (some r)) (.int .i64 v)=some (.int .i64 (qbZ v m)):=by
 rw[qp3 qau h r _ false v m hr]
 unfold qbZ
 cases qaI v m<;>rfl
theorem qwV (h:Heap) (r:Nat) (v x:Int) (m:IM Int) (hr:h[r]? = some (.map (encB m))):qdE h .int (.map (some r)) (.int .i64 v) (.int .i64 x)=some (h.set r (.map (encB (qgw v x m)))) :=
 qxV qau h r v x m rfl hr
section
variable {L:Lib} (hL:Plain L)
def qrj (A:AVal) (kid:CTree) (l:List Int) (K:List AVal) (n k:Nat) (o:IM Unit) (b:IM Int) (j:Nat):St :=
 ⟨kt [0,1,2,7,8,36,37,38,46,47,48] [A,.map (some 0),.map (some 1),qaB kid,.list (l.map qau) none,.list K none,.int .i64 n,.int .i64 k,.list (l.map qau) none,.int .i64 l.length,.int .i64 j],[.map (encB b),.map (encU o)]⟩
def qtx (A:AVal) (kid:CTree) (l:List Int) (K:List AVal) (n k:Nat) (o:IM Unit) (b:IM Int):St :=
 ⟨kt [0,1,2,7,8,36,37,38] [A,.map (some 0),.map (some 1),qaB kid,.list (l.map qau) none,.list K none,.int .i64 n,.int .i64 k],[.map (encB b),.map (encU o)]⟩
theorem qvy (A:AVal) (hA:qar A=true) (kid:CTree) (l:List Int) (hl:l.length<2 ^ 30) (K:List AVal) (hK:qao K=true) (n k:Nat) (o:IM Unit) (b:IM Int) (c:Int) (hc:0≤c) (hc2:c+2 ^ 30<2 ^ 62) (hb:MB 0 c b) :
  qbl L.pure (call L) 2 [0,1,2,7,8,36,37,38,46,47,48] [0,1,2,7,8,36,37,38] 2 qio (qrj A kid l K n k o b 0)=some (.normal,qtx A kid l K n k o (l.foldl (qgc 1) b)):=by
 have hT:=qei kid
 refine (qeq l (qgc 1) (qrj A kid l K n k o) (qtx A kid l K n k o) (fun b j=>MB 0 (c+(j:Nat)) b) b (by simpa using hb) ?_ ?_).2
 ·intro j hj b hb
  obtain⟨h1,h2,h3⟩:=qaT qau l hl j hj
  refine⟨?_,by have:=hb.up l[j];rw[show c+((j+1:Nat):Int)=c+(j:Nat)+1 by omega];exact this⟩
  generalize l[j]=v at *
  have hv:=hb v
  have w:IntKind.i64.wrap (qbZ v b+1)=qbZ v b+1:=qcT (by omega) (by omega)
  have hlk:=fun (h:Heap) (hr:h[0]? = some (.map (encB b)))=>qmF h 0 v b hr
  have hup:=fun (h:Heap) (hr:h[0]? = some (.map (encB b)))=>qwV h 0 v (qbZ v b+1) b hr
  unfold qio qrj qgc
  simp -implicitDefEqProofs only[ev_,aOp,opd,qaa,qat,qaD,qaC,qae,qab,qag,qas,ren,renC,qa0,qbh,↓reduceIte,reduceCtorEq,Nat.reduceEqDiff,Nat.reduceAdd,Nat.reduceLT,Nat.reduceLeDiff,qba,qac,h1,h2,h3,hlk,hup,w,hA,hT,hK,qds,qdt,qa6,qa7]
 ·intro b _
  have h0:=qaU l.length
  unfold qio qrj qtx
  simp -implicitDefEqProofs only[ev_,aOp,opd,qaa,qaD,qaC,qab,gcE,qas,ren,renC,qa0,qbh,↓reduceIte,reduceCtorEq,Nat.reduceEqDiff,Nat.reduceAdd,Nat.reduceLT,Nat.reduceLeDiff,qac,h0,hA,hT,hK,qds,qdt,qa6,qa7]
def qrk (A:AVal) (l:List Int) (K:List AVal) (n k:Nat) (o:IM Unit) (b:IM Int) (j:Nat):St :=
 ⟨kt [0,1,2,36,37,38,61,62,63] [A,.map (some 0),.map (some 1),.list K none,.int .i64 n,.int .i64 k,.list (l.map qau) none,.int .i64 l.length,.int .i64 j],[.map (encB b),.map (encU o)]⟩
def qlf (A:AVal) (K:List AVal) (n k:Nat) (o:IM Unit) (b:IM Int):St :=
 ⟨kt [0,1,2,36,37,38] [A,.map (some 0),.map (some 1),.list K none,.int .i64 n,.int .i64 k],[.map (encB b),.map (encU o)]⟩
theorem qvz (A:AVal) (hA:qar A=true) (l:List Int) (hl:l.length<2 ^ 30) (K:List AVal) (hK:qao K=true) (n k:Nat) (o:IM Unit) (b:IM Int) (c:Int) (hc:0≤c) (hc2:c<2 ^ 62) (hb:MB 0 c b) :
  qbl L.pure (call L) 2 [0,1,2,36,37,38,61,62,63] [0,1,2,36,37,38] 4 qip (qrk A l K n k o b 0)=some (.normal,qlf A K n k o (l.foldl (qgc (-1)) b)):=by
 refine (qeq l (qgc (-1)) (qrk A l K n k o) (qlf A K n k o) (fun b j=>MB (-(j:Nat)) c b) b (by simpa using hb) ?_ ?_).2
 ·intro j hj b hb
  obtain⟨h1,h2,h3⟩:=qaT qau l hl j hj
  refine⟨?_,by have:=hb.down l[j];rw[show -((j+1:Nat):Int) = -(j:Nat)-1 by omega];exact this⟩
  generalize l[j]=v at *
  have hv:=hb v
  have w:IntKind.i64.wrap (qbZ v b-1)=qbZ v b + -1:=by rw[qcT (by omega) (by omega)];rfl
  have hlk:=fun (h:Heap) (hr:h[0]? = some (.map (encB b)))=>qmF h 0 v b hr
  have hup:=fun (h:Heap) (hr:h[0]? = some (.map (encB b)))=>qwV h 0 v (qbZ v b + -1) b hr
  unfold qip qrk qgc
  simp -implicitDefEqProofs only[ev_,aOp,opd,qaa,qat,qaD,qaC,qae,qab,qag,qas,ren,renC,qa0,qbh,↓reduceIte,reduceCtorEq,Nat.reduceEqDiff,Nat.reduceAdd,Nat.reduceLT,Nat.reduceLeDiff,Int.reduceNeg,qba,qac,h1,h2,h3,hlk,hup,w,hA,hK,qds,qdt,qa6,qa7]
 ·intro b _
  have h0:=qaU l.length
  unfold qip qrk qlf
  simp -implicitDefEqProofs only[ev_,aOp,opd,qaa,qaD,qaC,qab,gcE,qas,ren,renC,qa0,qbh,↓reduceIte,reduceCtorEq,Nat.reduceEqDiff,Nat.reduceAdd,Nat.reduceLT,Nat.reduceLeDiff,h0,hA,hK,qds,qdt,qa6,qa7]
def qgW (op:Int) (binds:List Int) (alts:List CAlt) (k:Nat) (s:FS) (kid:CTree):FS :=
 ((qaQ op binds alts k).foldl (qgc (-1)) (qdz kid ((qaQ op binds alts k).foldl (qgc 1) s.1,s.2)).1,(qdz kid ((qaQ op binds alts k).foldl (qgc 1) s.1,s.2)).2)
theorem qjc (op:Int) (binds:List Int) (alts:List CAlt):∀ (ks:List CTree) (k:Nat) (s:FS),qbq (fun k s kid=>(.ok (qgW op binds alts k s kid):Except Unit FS)) ks k s=.ok (qdr op binds alts ks k s)
 | [],k,s=>by rw[qdr];rfl
 | kid::ks,k,s=>by rw[qbq,qdr];exact qjc op binds alts ks (k+1) _
theorem qll (op:Int) (binds:List Int) (alts:List CAlt) (k:Nat) (s:FS) (kid:CTree) (v:Int):qbZ v (qgW op binds alts k s kid).1=qbZ v s.1:=by
 unfold qgW
 dsimp only
 rw[qcu,qgX v kid,qcu]
 omega
include hL
theorem qvA (h236:L.fns 236=some fn236) (op n:Int) (binds:List Int) (kids:List CTree) (alts:List CAlt) (hb:(binds++alts.flatMap (·.binds)).length<2 ^ 30) (hk:kids.length<2 ^ 30) (ha:alts.length<2 ^ 30)
  (c:Int) (hc:0≤c) (hc2:c+2 ^ 30<2 ^ 62) (s0:FS) (hs0:MB 0 c s0.1)
  (ih:∀ kid∈kids,∀ (b:IM Int) (o:IM Unit),MB 0 (c+2 ^ 30) b→call L 196 [qaB kid,.map (some 0),.map (some 1)] [.map (encB b),.map (encU o)]=some (.val (.tuple []),[.map (encB (qdz kid (b,o)).1),.map (encU (qdz kid (b,o)).2)])) :
  qbl L.pure (call L) 2 [0,1,2,36,37,38] [] 0 qiq (qlf (.vptr [.int .i64 op,.int .i64 n,.list (binds.map qau) none,.list (kids.map qaB) none,.list (alts.map qan) none] 0) (kids.map qaB) kids.length 0 s0.2 s0.1) =
   some (.normal,⟨kt [] [],[.map (encB (qdr op binds alts kids 0 s0).1),.map (encU (qdr op binds alts kids 0 s0).2)]⟩):=by
 have hp:=hL.pure
 have hA:qar (.vptr [.int .i64 op,.int .i64 n,.list (binds.map qau) none,.list (kids.map qaB) none,.list (alts.map qan) none] 0)=true:=by
  simp only[qar,qao,qac,qah,qej,Bool.and_self]
 have hK:=qej kids
 refine ((qcq kids (fun k s kid=>(.ok (qgW op binds alts k s kid):Except Unit FS)) (fun s k=>qlf (.vptr [.int .i64 op,.int .i64 n,.list (binds.map qau) none,.list (kids.map qaB) none,.list (alts.map qan) none] 0) (kids.map qaB) kids.length k s.2 s.1)
  (fun s=>⟨kt [] [],[.map (encB s.1),.map (encU s.2)]⟩) (fun _ _=>False) (fun s _=>MB 0 c s.1) s0 hs0 ?_ ?_ ?_).1 _ (qjc op binds alts kids 0 s0)).2
 ·intro k hk' s s' hs hq
  injection hq with hq
  subst hq
  refine⟨?_,fun v=>by rw[qll];exact hs v⟩
  obtain⟨h1,h2,h3⟩:=qaT qaB kids hk k hk'
  have hbo:=qoA hL h236 op n binds (.list (kids.map qaB) none) alts ha k (by omega)
  have hbl:=ql2 op binds alts k
  have ihk:=ih kids[k] (List.getElem_mem hk')
  unfold qgW
  generalize kids[k]=kid at *
  have hT:=qei kid
  generalize qaQ op binds alts k=l at *
  have hl0:=qvy (L:=L) _ hA kid l (by omega) (kids.map qaB) hK kids.length k s.2 s.1 c hc (by omega) hs
  have hup:=MB.ups l hs
  have hup2:MB 0 (c+2 ^ 30) (l.foldl (qgc 1) s.1):=fun v=>⟨(hup v).1,by have:=(hup v).2;omega⟩
  have ihk:=ihk (l.foldl (qgc 1) s.1) s.2 hup2
  have hl1:=qvz (L:=L) _ hA l (by omega) (kids.map qaB) hK kids.length k (qdz kid (l.foldl (qgc 1) s.1,s.2)).2 (qdz kid (l.foldl (qgc 1) s.1,s.2)).1 (c+2 ^ 30) (by omega) (by omega)
   (fun v=>by rw[qgX];exact hup2 v)
  generalize qdz kid (l.foldl (qgc 1) s.1,s.2)=r at *
  unfold qrj qtx at hl0
  unfold qrk qlf at hl1
  simp only[Int.natCast_zero] at hl0 hl1
  obtain⟨tc,htc,hdt⟩:=qdv kid
  rw[htc] at ihk hl0 h3 hT
  unfold qiq qlf
  simp -implicitDefEqProofs only[ev_,aOp,opd,qaa,qaD,qbC,qaC,qae,qab,qag,qas,ren,renC,qa0,qbh,↓reduceIte,reduceCtorEq,Nat.reduceEqDiff,Nat.reduceAdd,Nat.reduceLT,Nat.reduceLeDiff,Int.reduceNeg,qac,qah,h1,h2,h3,hbo,hl0,ihk,hl1,hK,hT,hdt,qds,qdt,qa6,qa7,qap L hp,hp,qk1,List.range_succ,List.range_zero]
 ·intro k hk' s e hs hq
  cases hq
 ·intro s _
  have h0:=qaU kids.length
  unfold qiq qlf
  simp -implicitDefEqProofs only[ev_,aOp,opd,qaa,qaD,qaC,qab,gcE,qas,ren,renC,qa0,qbh,↓reduceIte,reduceCtorEq,Nat.reduceEqDiff,Nat.reduceAdd,h0,hK,qds,qdt,qa6,qa7]
theorem qvB (h236:L.fns 236=some fn236) (h196:L.fns 196=some fn196):∀ (t:CTree),TFit t→∀ (c:Int) (b:IM Int) (o:IM Unit),0≤c→c+2 ^ 30*(hgt t:Int)<2 ^ 62→MB 0 c b →
  call L 196 [qaB t,.map (some 0),.map (some 1)] [.map (encB b),.map (encU o)]=some (.val (.tuple []),[.map (encB (qdz t (b,o)).1),.map (encU (qdz t (b,o)).2)]):=by
 have hs:L.summ 196=none:=hL.summ 196 (by rw[h196];exact fun hx=>by cases hx)
 intro t
 induction t using CTree.ind with
 | h op n binds kids alts ih =>
   intro hf c b o hc hc2 hb
   cases hf with
   | mk _ _ _ _ _ hbf hkf haf hfk =>
     rw[hgt] at hc2
     have hloop:=qvA hL h236 op n binds kids alts hbf hkf haf c hc (by omega) (qc0 op n (b,o)) (by unfold qc0;split<;>exact hb) (by
      intro kid hkid b' o' hb'
      have hh:=qgZ hkid
      exact ih kid hkid (hfk kid hkid) (c+2 ^ 30) b' o' (by omega) (by omega) hb')
     rw[qdz]
     refine qcW hs h196 ?_
     rw[qbG]
     have hK:=qej kids
     unfold qlf at hloop
     simp only[Int.natCast_zero] at hloop
     have hlk:=fun (h:Heap) (hr:h[0]? = some (.map (encB b)))=>qmF h 0 n b hr
     have hup:=fun (h:Heap) (hr:h[1]? = some (.map (encU o)))=>qxV (fun _:Unit=>AVal.agg []) h 1 n () o rfl hr
     unfold qc0 at hloop ⊢
     by_cases h0:op=0
     ·subst h0
      by_cases hz:qbZ n b=0
      ·rw[if_pos ⟨rfl,hz⟩] at hloop ⊢
       dsimp only at hloop
       unfold fn196
       simp -implicitDefEqProofs only[ev_,aOp,opd,qaa,qat,qaD,qbC,qaC,qab,qaf,qag,qak,qcZ,qav,qad,qam,qas,ren,renC,qa0,qbh,↓reduceIte,reduceCtorEq,Nat.reduceEqDiff,Nat.reduceAdd,Nat.reduceLT,Nat.reduceLeDiff,qac,qah,hlk,hup,hz,hloop,hK,qds,qdt,qa6,qa7]
      ·have hz':(qbZ n b==0)=false:=by simpa using hz
       rw[if_neg (fun h=>hz h.2)] at hloop ⊢
       dsimp only at hloop
       unfold fn196
       simp -implicitDefEqProofs only[ev_,aOp,opd,qaa,qaD,qbC,qaC,qab,qaf,qag,qak,qav,qad,qam,qas,ren,renC,qa0,qbh,↓reduceIte,reduceCtorEq,Nat.reduceEqDiff,Nat.reduceAdd,Nat.reduceLT,Nat.reduceLeDiff,qac,qah,hlk,hz',hloop,hK,qds,qdt,qa6,qa7]
     ·have h0':(op==0)=false:=by simpa using h0
      rw[if_neg (fun h=>h0 h.1)] at hloop ⊢
      dsimp only at hloop
      unfold fn196
      simp -implicitDefEqProofs only[ev_,aOp,opd,qaa,qaD,qbC,qaC,qab,qaf,qag,qak,qav,qad,qam,qas,ren,renC,qa0,qbh,↓reduceIte,reduceCtorEq,Nat.reduceEqDiff,Nat.reduceAdd,Nat.reduceLT,Nat.reduceLeDiff,qac,qah,h0',hloop,hK,qds,qdt,qa6,qa7]
end
def qvG (n:Int):List Int→List Int
 | []=>[n]
 | m::l=>if n≤m then n::m::l else m::qvG n l
def qa1 (l:List Int):List Int:=l.foldr qvG []
theorem qjf (n:Int):∀ l,(qvG n l).Perm (n::l)
 | []=>.refl _
 | m :: l => by
   unfold qvG
   split
   ·exact .refl _
   ·exact ((qjf n l).cons m).trans (.swap n m l)
theorem qjg (n:Int):∀ {l:List Int},l.Pairwise (· ≤ ·)→(qvG n l).Pairwise (· ≤ ·)
 | [],_=>by simp[qvG]
 | m :: l,h => by
   rw[List.pairwise_cons] at h
   unfold qvG
   split
   ·rename_i hnm
    rw[List.pairwise_cons]
    refine⟨fun x hx=>?_,List.pairwise_cons.2 h⟩
    rcases List.mem_cons.1 hx with rfl | hx
    ·exact hnm
    ·have:=h.1 x hx;omega
   ·rw[List.pairwise_cons]
    refine⟨fun x hx=>?_,qjg n h.2⟩
    rcases List.mem_cons.1 ((qjf n l).mem_iff.1 hx) with rfl | hx
    ·omega
    ·exact h.1 x hx
theorem qb6:∀ l,(qa1 l).Perm l
 | []=>.refl _
 | n::l=>(qjf n (qa1 l)).trans ((qb6 l).cons n)
theorem qcs:∀ l,(qa1 l).Pairwise (· ≤ ·)
 | []=>.nil
 | n::l=>qjg n (qcs l)
theorem qjH {a b:List Int} (ha:a.Pairwise (· ≤ ·)) (hb:b.Pairwise (· ≤ ·)) (h:a.Perm b):a=b :=
 List.Perm.eq_of_pairwise (le:=fun x y:Int=>x≤y) (fun x y _ _ h1 h2=>by omega) ha hb h
theorem qkb {a b:List Int} (h:a.Perm b):qa1 a=qa1 b :=
 qjH (qcs a) (qcs b) ((qb6 a).trans (h.trans (qb6 b).symm))
theorem qd5 (l:List Int):(qa1 l).length=l.length:=(qb6 l).length_eq
theorem qmQ {α β:Type} (f:α→β):∀ {es:List β} {l:List α},es.Perm (l.map f)→∃ l':List α,l'.Perm l∧es=l'.map f
 | [],l,h => by
   have:=h.symm.eq_nil
   rw[List.map_eq_nil_iff] at this
   exact⟨[],by rw[this],rfl⟩
 | e :: es,l,h => by
   obtain⟨x,hx,rfl⟩:=List.mem_map.1 (h.mem_iff.1 (List.mem_cons_self ..))
   obtain⟨s,t,rfl⟩:=List.append_of_mem hx
   have h1:(f x::es).Perm (f x::(s++t).map f):=by
    refine h.trans ?_
    rw[List.map_append,List.map_cons,List.map_append]
    exact List.perm_middle
   obtain⟨l',h2,rfl⟩:=qmQ f h1.cons_inv
   exact⟨x::l',(h2.cons x).trans List.perm_middle.symm,rfl⟩
theorem qsa {pure:Nat→Bool} {call:CallT} {k:RangeK} {b c:ACode} {s s1:St} {es:List (AVal × AVal)} {r:AExit × St} (hpre:qcd pure call k.pre s=some (.normal,s1)) (hes:qcF k.str (opd s1.tm k.m) s1.h=some es)
  (hall:∀ es',qco k.str es es'→qcz (qcd pure call) k (qaM pure call b) (qaM pure call c) s s1 es'=some r):qaM pure call (.range k b c) s=some r:=by
 rw[qaM,qew,hpre]
 dsimp only
 rw[hes]
 exact (qcL (qbK _ _)).2 hall
def qch {β:Type} (m:IM β):List Int:=m.map (·.1)
def qdP (t:CTree):List Int:=qa1 (qch (qdz t ([],[])).2)
def qs3 (acc:List Int):AVal:=if acc=[] then .list [] (some none) else .vec 3 acc.length
def qs2 (acc:List Int):Heap:=if acc=[] then [] else [.vec (acc.map qau) 1]
def qs1 (b:IM Int) (acc:List Int):St:=⟨kt [4,12] [qs3 acc,.ptr (some (2,0))],[.gone,.map (encB b),.gone]++qs2 acc⟩
theorem qtY (id n:Nat):qfp (.vec id n)=false:=rfl
theorem qwo:qfp (.list [] (some none))=true:=rfl
theorem qkG (pure:Nat→Bool) (call:CallT) (sz bytes:Nat) (x y:Opd) (tm:Tmps) (h:Heap):qih pure call (.append sz bytes x y) tm h =
  if qfp (opd tm x)=true then (match qdf h sz (opd tm x) (opd tm y) with | some (v,h')=>some (.val v,h') | none=>none) else aOp pure call (.append sz bytes x y) tm h:=rfl
theorem qgd (pure:Nat→Bool) (call:CallT) (sz:Nat) (ps:List Opd) (tm:Tmps) (h:Heap):qih pure call (.buildSlice sz ps) tm h=aOp pure call (.buildSlice sz ps) tm h:=rfl
section
variable {L:Lib} (hL:Plain L)
theorem quy (b:IM Int) (acc:List Int) (hl:acc.length<2 ^ 30) (k:Int) :
  (qa8 (qcd L.pure (call L)) 2 fn167_k0 (qaM L.pure (call L) qfO) (.int .i64 k,.agg []) (qs1 b acc)).map (fun r=>(r.1,gc 3 fn167_k0.kr r.2))=some (.normal,qs1 b (acc++[k])):=by
 unfold qa8 fn167_k0 qfO qs1
 have hall:=qdZ acc
 have hn:acc++[k]≠[]:=by simp
 have e1:qs3 (acc++[k])=.vec 3 (acc.length+1):=by unfold qs3;rw[if_neg hn];simp
 have e2:qs2 (acc++[k])=[.vec ((acc++[k]).map qau) 1]:=by unfold qs2;rw[if_neg hn]
 rw[e1,e2]
 by_cases hz:acc=[]
 ·subst hz
  have e3:qs3 []=.list [] (some none):=rfl
  have e4:qs2 []=[]:=rfl
  rw[e3,e4]
  simp -implicitDefEqProofs only[ev_,aOp,opd,qaa,leaf,qas,ren,renC,qa0,qbh,↓reduceIte,Nat.reduceEqDiff,Nat.reduceAdd,Nat.reduceLT,Nat.reduceLeDiff,qba,qbm,qbM,qo0,qdo,qjL,qkG,qgd,qwo,qdf,qds,qdt]
 ·have e3:qs3 acc=.vec 3 acc.length:=by unfold qs3;rw[if_neg hz]
  have e4:qs2 acc=[.vec (acc.map qau) 1]:=by unfold qs2;rw[if_neg hz]
  have hle:acc.length+1≤1073741824:=by omega
  rw[e3,e4]
  simp -implicitDefEqProofs only[ev_,aOp,opd,qaa,leaf,qas,ren,renC,qa0,qbh,qa4,↓reduceIte,Nat.reduceEqDiff,Nat.reduceAdd,Nat.reduceLT,Nat.reduceLeDiff,qba,qbm,qbM,qbT,Nat.mul_one,qo0,qdo,qjL,qkG,qgd,qtY,hle,qds,qdt]
def qxQ (b:IM Int) (acc:List Int):St:=⟨upd (upd (qs1 b acc).tm (some 13) (.tuple [.bool false])) (some 14) (.bool false),(qs1 b acc).h⟩
theorem qw4 (b:IM Int) (acc:List Int):qbF (qcd L.pure (call L)) 2 fn167_k0 (qs1 b acc)=some (.normal,qxQ b acc):=by
 unfold qbF fn167_k0 qxQ qs1
 simp -implicitDefEqProofs only[ev_,aOp,opd,qaa,↓reduceIte,Nat.reduceEqDiff,qo0]
theorem qu5 (b:IM Int):∀ (o':IM Unit) (acc:List Int) (s:St),acc.length+o'.length<2 ^ 30→gc 3 fn167_k0.kr s=qs1 b acc →
  qa9 (qcd L.pure (call L)) 2 fn167_k0 (qaM L.pure (call L) qfO) (encU o') s=some (.normal,qxQ b (acc++qch o'))
 | [],acc,s,_,hs => by
   show qbF _ 2 fn167_k0 (gc 3 fn167_k0.kr s)=_
   rw[hs]
   have:acc++qch ([]:IM Unit)=acc:=by simp[qch]
   rw[this]
   exact qw4 b acc
 | e :: o',acc,s,hl,hs => by
   rw[List.length_cons] at hl
   have hr:=quy (L:=L) b acc (by omega) e.1
   rw[← hs] at hr
   obtain⟨⟨x,s'⟩,h1,h2⟩:=Option.map_eq_some_iff.1 hr
   simp only[Prod.mk.injEq] at h2
   obtain⟨rfl,h2⟩:=h2
   show (match qa8 _ 2 fn167_k0 _ (.int .i64 e.1,.agg []) (gc 3 fn167_k0.kr s) with | some (.normal,s')=>qa9 _ 2 fn167_k0 _ (encU o') s' | r=>qdo fn167_k0.id r)=_
   rw[h1]
   have:=qu5 b o' (acc++[e.1]) s' (by simp;omega) h2
   rw[List.append_assoc] at this
   exact this
include hL
theorem qrp (hP:CPrims L qa1) (h236:L.fns 236=some fn236) (h196:L.fns 196=some fn196) (h167:L.fns 167=some fn167) (t:CTree) (hf:TFit t) (hh:hgt t<2 ^ 30) (hn:(qdz t ([],[])).2.length<2 ^ 30) (h:Heap) :
  pcall L 167 [qaB t] h=some (.val (.list ((qdP t).map qau) none),h):=by
 have hp:=hL.pure
 have hfree:=qvB hL h236 h196 t hf 0 [] [] (by omega) (by omega) (fun v=>by simp[qbZ,qaI])
 refine qbo hL h167 (by rw[qbc];exact qac _) ?_ h
 unfold qdP
 generalize qdz t ([],[])=r at *
 obtain⟨b,o⟩:=r
 dsimp only at hfree hn ⊢
 have hrange:∀ (tm:Tmps),tm 3=.map (some 0)→tm 4=.list [] (some none)→qaM L.pure (call L) (.range fn167_k0 qfO qin) ⟨tm,[.map (encU o),.map (encB b)]⟩ =
   some (.ret,⟨kt [2] [.list ((qa1 (qch o)).map qau) (if qa1 (qch o)=[] then some none else none)],[.map (encU o),.map (encB b)]⟩):=by
  intro tm h3 h4
  refine qsa (s1:=⟨upd tm (some 11) (.map (some 0)),[.map (encU o),.map (encB b)]⟩) (es:=encU o) ?_ ?_ ?_
  ·unfold fn167_k0
   simp -implicitDefEqProofs only[ev_,aOp,opd,h3]
  ·unfold fn167_k0
   simp -implicitDefEqProofs only[ev_,opd,↓reduceIte,qcF,qmI,h3]
  ·intro es' hes
   have hes':es'.Perm (o.map fun p=>((.int .i64 p.1:AVal),AVal.agg [])):=hes
   obtain⟨o',hpm,rfl⟩:=qmQ _ hes'
   have hrun:=qu5 (L:=L) b o' [] ⟨upd (upd tm (some 11) (.map (some 0))) (some 12) (.ptr (some (2,0))),[.gone,.map (encB b),.gone]⟩ (by rw[List.length_nil,hpm.length_eq];omega) ?_
   ·rw[List.nil_append] at hrun
    have hsort:qa1 (qch o')=qa1 (qch o):=qkb (hpm.map _)
    rw[← hsort]
    have hlen:(qch o').length=o.length:=by unfold qch;rw[List.length_map,hpm.length_eq]
    generalize qch o'=ks at *
    unfold qcz
    have hh:qj5 (opd (upd tm (some 11) (.map (some 0))) fn167_k0.m) [.map (encU o),.map (encB b)]=[.gone,.map (encB b),.gone]:=rfl
    have h15:fn167_k0.it=12:=rfl
    dsimp only
    rw[hh,h15]
    simp only[List.length_cons,List.length_nil]
    show Option.map _ (match qa9 _ 2 _ _ (encU o') _ with | some (.normal,s2)=>_ | some (e,s2)=>_ | none=>_)=_
    rw[hrun]
    dsimp only
    have hm2:opd (upd tm (some 11) (.map (some 0))) fn167_k0.m=.map (some 0):=rfl
    have hk:fn167_k0.keep=[2]:=rfl
    rw[hm2,hk]
    have hs0:=hP.sort0
    unfold qxQ qs1 qin
    by_cases hz:ks=[]
    ·subst hz
     have e3:qs3 []=.list [] (some none):=rfl
     have e4:qs2 []=[]:=rfl
     have e5:qa1 []=[]:=rfl
     rw[e3,e4,e5]
     simp -implicitDefEqProofs only[ev_,aOp,opd,gcE,qas,ren,renC,qa0,qbh,↓reduceIte,Nat.reduceEqDiff,Nat.reduceAdd,Nat.reduceLeDiff,qct,hs0,qds,qdt,qa6,qa7,qap L hp,hp]
    ·have e3:qs3 ks=.vec 3 ks.length:=by unfold qs3;rw[if_neg hz]
     have e4:qs2 ks=[.vec (ks.map qau) 1]:=by unfold qs2;rw[if_neg hz]
     have hs1:=hP.sort ks hz (by omega)
     have hzs:¬ qa1 ks=[]:=fun h=>hz (by have:=qd5 ks;rw[h] at this;exact List.length_eq_zero_iff.1 this.symm)
     have hsl:=qd5 ks
     have hdS:=qac (qa1 ks)
     have hwS:((qa1 ks).map qau).map wipeCell=(qa1 ks).map qau:=by rw[List.map_map];rfl
     have hlS:((qa1 ks).map qau).all leaf=true:=by
      rw[List.all_eq_true]
      intro x hx
      obtain⟨y,_,rfl⟩:=List.mem_map.1 hx
      rfl
     generalize qa1 ks=ss at *
     rw[e3,e4]
     simp -implicitDefEqProofs only[ev_,aOp,opd,gcE,qas,ren,renC,qa0,qbh,↓reduceIte,reduceCtorEq,Nat.reduceEqDiff,Nat.reduceAdd,Nat.reduceLT,Nat.reduceLeDiff,frz,frzC,qjV,quR,qbm,qcf,qbM,qcg,qbT,Nat.mul_one,qct,hs1,hsl,hzs,hdS,hwS,hlS,qds,qdt,qa6,qa7,qap L hp,hp]
   ·unfold qs1 fn167_k0
    have e3:qs3 []=.list [] (some none):=rfl
    have e4:qs2 []=[]:=rfl
    rw[e3,e4]
    simp -implicitDefEqProofs only[ev_,qas,ren,renC,qa0,qbh,↓reduceIte,Nat.reduceEqDiff,Nat.reduceAdd,Nat.reduceLT,Nat.reduceLeDiff,h4,qds,qdt]
 obtain⟨tc,htc,hdt⟩:=qdv t
 have hn0:encB []=[]:=rfl
 have hn1:encU []=[]:=rfl
 rw[hn0,hn1] at hfree
 rw[htc] at hfree ⊢
 generalize (if qa1 (qch o)=[] then some none else none:Option (Option Nat))=ow at *
 unfold fn167
 generalize fn167_k0=kk at *
 generalize qfO=bb at *
 generalize qin=aa at *
 simp -implicitDefEqProofs only[ev_,aOp,opd,qav,qad,qai,qam,qas,ren,renC,qa0,qbh,↓reduceIte,reduceCtorEq,Nat.reduceEqDiff,Nat.reduceAdd,Nat.reduceLT,qaj,hfree,hrange,hdt,qds,qdt,qa6,qa7,qap L hp,hp]
end
end Go.Abs
