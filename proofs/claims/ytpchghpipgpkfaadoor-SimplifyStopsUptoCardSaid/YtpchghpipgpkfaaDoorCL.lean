/-
  PARTS OF A PROOF, joined: an abstract machine for quiet code, its evaluation, and what the seat's functions answer on it. Conditions: none.
-/
import Derived.Test.YtpchghpipgpkfaaDoorCJ
set_option linter.unusedVariables false
set_option linter.unusedSimpArgs false
set_option maxRecDepth 100000
set_option maxHeartbeats 4000000
namespace Go.Abs
abbrev FS:=IM Int × IM Unit
def qdg (v:Int) (b:IM Int):Int:=(qbK v b).getD 0
def qfd (d:Int) (b:IM Int) (n:Int):IM Int:=qoA n (qdg n b+d) b
def qcJ (op n:Int) (s:FS):FS:=if op=0∧qdg n s.1=0 then (s.1,qoA n () s.2) else s
mutual
def qdn:CTree→FS→FS
 | .mk op n binds kids alts,s=>qdh op binds alts kids 0 (qcJ op n s)
def qdh (op:Int) (binds:List Int) (alts:List CAlt):List CTree→Nat→FS→FS
 | [],_,s=>s
 | kid :: ks,k,s =>
   qdh op binds alts ks (k+1)
    ((qbu op binds alts k).foldl (qfd (-1)) (qdn kid ((qbu op binds alts k).foldl (qfd 1) s.1,s.2)).1,(qdn kid ((qbu op binds alts k).foldl (qfd 1) s.1,s.2)).2)
end
mutual
def hgt:CTree→Nat
 | .mk _ _ _ kids _=>qdi kids+1
def qdi:List CTree→Nat
 | []=>0
 | k::ks=>max (hgt k) (qdi ks)
end
theorem qeD {k:CTree} {ks:List CTree} (h:k∈ks):hgt k≤qdi ks:=by
 induction ks with
 | nil=>cases h
 | cons x xs ih =>
   unfold qdi
   rcases List.mem_cons.1 h with rfl | h
   ·omega
   ·have:=ih h;omega
inductive TFit:CTree→Prop
 | mk (op n:Int) (binds:List Int) (kids:List CTree) (alts:List CAlt) (hb:(binds++alts.flatMap (·.binds)).length<2 ^ 30) (hk:kids.length<2 ^ 30) (ha:alts.length<2 ^ 30) (h:∀ k∈kids,TFit k):TFit (.mk op n binds kids alts)
theorem qiy (alts:List CAlt) {a:CAlt} (h:a∈alts):a.binds.length≤(alts.flatMap (·.binds)).length:=by
 induction alts with
 | nil=>cases h
 | cons x xs ih =>
   rw[List.flatMap_cons,List.length_append]
   rcases List.mem_cons.1 h with rfl | h
   ·omega
   ·have:=ih h;omega
theorem qrd (op:Int) (binds:List Int) (alts:List CAlt) (k:Nat):(qbu op binds alts k).length≤(binds++alts.flatMap (·.binds)).length:=by
 unfold qbu
 rw[List.length_append]
 split
 ·omega
 ·split
  ·split
   ·rename_i a ha
    have:=qiy alts (List.mem_of_getElem? ha)
    omega
   ·simp
  ·simp
theorem qlq (v n x:Int) (b:IM Int):qdg v (qoA n x b)=if v=n then x else qdg v b:=by
 unfold qdg
 rw[qgQ]
 split<;>rfl
def MB (lo hi:Int) (b:IM Int):Prop:=∀ v,lo≤qdg v b∧qdg v b≤hi
theorem MB.up {lo hi:Int} {b:IM Int} (h:MB lo hi b) (n:Int):MB lo (hi+1) (qfd 1 b n):=by
 intro v
 unfold qfd
 rw[qlq]
 have h1:=h v
 have h2:=h n
 split<;>omega
theorem MB.down {lo hi:Int} {b:IM Int} (h:MB lo hi b) (n:Int):MB (lo-1) hi (qfd (-1) b n):=by
 intro v
 unfold qfd
 rw[qlq]
 have h1:=h v
 have h2:=h n
 split<;>omega
theorem MB.ups {lo:Int}:∀ (l:List Int) {hi:Int} {b:IM Int},MB lo hi b→MB lo (hi+l.length) (l.foldl (qfd 1) b)
 | [],hi,b,h=>by simpa using h
 | n :: l,hi,b,h => by
   have:=MB.ups l (h.up n)
   rw[List.foldl_cons,List.length_cons]
   rw[show hi+((l.length+1:Nat):Int)=hi+1+l.length by omega]
   exact this
def qx4 (v:Int) (l:List Int):Int:=(l.count v:Int)
theorem qbW (d v:Int):∀ (l:List Int) (b:IM Int),qdg v (l.foldl (qfd d) b)=qdg v b+d*qx4 v l
 | [],b=>by simp[qx4]
 | n :: l,b => by
   rw[List.foldl_cons,qbW d v l]
   unfold qfd qx4
   rw[qlq,List.count_cons]
   by_cases h:v=n
   ·subst h
    simp
    rw[Int.mul_add]
    omega
   ·have:(n==v)=false:=by simpa using fun e=>h e.symm
    simp[h,this]
mutual
theorem qg2 (v:Int):∀ (t:CTree) (s:FS),qdg v (qdn t s).1=qdg v s.1
 | .mk op n binds kids alts,s => by
   rw[qdn,qkL v op binds alts kids]
   unfold qcJ
   split<;>rfl
theorem qkL (v op:Int) (binds:List Int) (alts:List CAlt):∀ (ks:List CTree) (k:Nat) (s:FS),qdg v (qdh op binds alts ks k s).1=qdg v s.1
 | [],_,s=>by rw[qdh]
 | kid :: ks,k,s => by
   rw[qdh,qkL v op binds alts ks,qbW,qg2 v kid,qbW]
   omega
end
abbrev encB:IM Int→List (AVal × AVal):=qkh qav
theorem qgh (b:IM Int):qnR (.map (encB b))=[]:=qyq _ (fun _=>rfl) b
theorem qgi (ρ:Nat→Option Nat) (b:IM Int):qeo ρ (.map (encB b))=.map (encB b):=qyD _ (fun _=>rfl) ρ b
theorem qqu (h:Heap) (r:Nat) (v:Int) (m:IM Int) (hr:h[r]? = some (.map (encB m))):qhm h .int (.int .i64 0) false (.map (some r)) (.int .i64 v)=some (.int .i64 (qdg v m)):=by
 rw[qsh qav h r _ false v m hr]
 unfold qdg
 cases qbK v m<;>rfl
theorem qzn (h:Heap) (r:Nat) (v x:Int) (m:IM Int) (hr:h[r]? = some (.map (encB m))):qdu h .int (.map (some r)) (.int .i64 v) (.int .i64 x)=some (h.set r (.map (encB (qoA v x m)))) :=
 qyW qav h r v x m rfl hr
section
variable {L:Lib} (hL:Plain L)
def qrI (A:AVal) (kid:CTree) (l:List Int) (K:List AVal) (n k:Nat) (o:IM Unit) (b:IM Int) (j:Nat):St :=
 ⟨kt [0,1,2,7,8,36,37,38,46,47,48] [A,.map (some 0),.map (some 1),qaC kid,.list (l.map qav) none,.list K none,.int .i64 n,.int .i64 k,.list (l.map qav) none,.int .i64 l.length,.int .i64 j],[.map (encB b),.map (encU o)]⟩
def qtY (A:AVal) (kid:CTree) (l:List Int) (K:List AVal) (n k:Nat) (o:IM Unit) (b:IM Int):St :=
 ⟨kt [0,1,2,7,8,36,37,38] [A,.map (some 0),.map (some 1),qaC kid,.list (l.map qav) none,.list K none,.int .i64 n,.int .i64 k],[.map (encB b),.map (encU o)]⟩
theorem qwd (A:AVal) (hA:qay A=true) (kid:CTree) (l:List Int) (hl:l.length<2 ^ 30) (K:List AVal) (hK:qas K=true) (n k:Nat) (o:IM Unit) (b:IM Int) (c:Int) (hc:0≤c) (hc2:c+2 ^ 30<2 ^ 62) (hb:MB 0 c b) :
  qa4 L.pure (call L) 2 [0,1,2,7,8,36,37,38,46,47,48] [0,1,2,7,8,36,37,38] 2 qiA (qrI A kid l K n k o b 0)=some (.normal,qtY A kid l K n k o (l.foldl (qfd 1) b)):=by
 have hT:=qb9 kid
 refine (qfX l (qfd 1) (qrI A kid l K n k o) (qtY A kid l K n k o) (fun b j=>MB 0 (c+(j:Nat)) b) b (by simpa using hb) ?_ ?_).2
 ·intro j hj b hb
  obtain⟨h1,h2,h3⟩:=qaO qav l hl j hj
  refine⟨?_,by have:=hb.up l[j];rw[show c+((j+1:Nat):Int)=c+(j:Nat)+1 by omega];exact this⟩
  generalize l[j]=v at *
  have hv:=hb v
  have w:IntKind.i64.wrap (qdg v b+1)=qdg v b+1:=qb6 (by omega) (by omega)
  have hlk:=fun (h:Heap) (hr:h[0]? = some (.map (encB b)))=>qqu h 0 v b hr
  have hup:=fun (h:Heap) (hr:h[0]? = some (.map (encB b)))=>qzn h 0 v (qdg v b+1) b hr
  unfold qiA qrI qfd
  simp -implicitDefEqProofs only[ev_,aOp,opd,qaa,qaq,qaw,qat,qad,qab,qag,qax,ren,renC,qa8,qbj,↓reduceIte,reduceCtorEq,Nat.reduceEqDiff,Nat.reduceAdd,Nat.reduceLT,Nat.reduceLeDiff,qbh,qaj,h1,h2,h3,hlk,hup,w,hA,hT,hK,qgh,qgi,qa6,qa7]
 ·intro b _
  have h0:=qaQ l.length
  unfold qiA qrI qtY
  simp -implicitDefEqProofs only[ev_,aOp,opd,qaa,qaw,qat,qab,gcE,qax,ren,renC,qa8,qbj,↓reduceIte,reduceCtorEq,Nat.reduceEqDiff,Nat.reduceAdd,Nat.reduceLT,Nat.reduceLeDiff,qaj,h0,hA,hT,hK,qgh,qgi,qa6,qa7]
def qrJ (A:AVal) (l:List Int) (K:List AVal) (n k:Nat) (o:IM Unit) (b:IM Int) (j:Nat):St :=
 ⟨kt [0,1,2,36,37,38,61,62,63] [A,.map (some 0),.map (some 1),.list K none,.int .i64 n,.int .i64 k,.list (l.map qav) none,.int .i64 l.length,.int .i64 j],[.map (encB b),.map (encU o)]⟩
def qly (A:AVal) (K:List AVal) (n k:Nat) (o:IM Unit) (b:IM Int):St :=
 ⟨kt [0,1,2,36,37,38] [A,.map (some 0),.map (some 1),.list K none,.int .i64 n,.int .i64 k],[.map (encB b),.map (encU o)]⟩
theorem qwe (A:AVal) (hA:qay A=true) (l:List Int) (hl:l.length<2 ^ 30) (K:List AVal) (hK:qas K=true) (n k:Nat) (o:IM Unit) (b:IM Int) (c:Int) (hc:0≤c) (hc2:c<2 ^ 62) (hb:MB 0 c b) :
  qa4 L.pure (call L) 2 [0,1,2,36,37,38,61,62,63] [0,1,2,36,37,38] 4 qiB (qrJ A l K n k o b 0)=some (.normal,qly A K n k o (l.foldl (qfd (-1)) b)):=by
 refine (qfX l (qfd (-1)) (qrJ A l K n k o) (qly A K n k o) (fun b j=>MB (-(j:Nat)) c b) b (by simpa using hb) ?_ ?_).2
 ·intro j hj b hb
  obtain⟨h1,h2,h3⟩:=qaO qav l hl j hj
  refine⟨?_,by have:=hb.down l[j];rw[show -((j+1:Nat):Int) = -(j:Nat)-1 by omega];exact this⟩
  generalize l[j]=v at *
  have hv:=hb v
  have w:IntKind.i64.wrap (qdg v b-1)=qdg v b + -1:=by rw[qb6 (by omega) (by omega)];rfl
  have hlk:=fun (h:Heap) (hr:h[0]? = some (.map (encB b)))=>qqu h 0 v b hr
  have hup:=fun (h:Heap) (hr:h[0]? = some (.map (encB b)))=>qzn h 0 v (qdg v b + -1) b hr
  unfold qiB qrJ qfd
  simp -implicitDefEqProofs only[ev_,aOp,opd,qaa,qaq,qaw,qat,qad,qab,qag,qax,ren,renC,qa8,qbj,↓reduceIte,reduceCtorEq,Nat.reduceEqDiff,Nat.reduceAdd,Nat.reduceLT,Nat.reduceLeDiff,Int.reduceNeg,qbh,qaj,h1,h2,h3,hlk,hup,w,hA,hK,qgh,qgi,qa6,qa7]
 ·intro b _
  have h0:=qaQ l.length
  unfold qiB qrJ qly
  simp -implicitDefEqProofs only[ev_,aOp,opd,qaa,qaw,qat,qab,gcE,qax,ren,renC,qa8,qbj,↓reduceIte,reduceCtorEq,Nat.reduceEqDiff,Nat.reduceAdd,Nat.reduceLT,Nat.reduceLeDiff,h0,hA,hK,qgh,qgi,qa6,qa7]
def qg1 (op:Int) (binds:List Int) (alts:List CAlt) (k:Nat) (s:FS) (kid:CTree):FS :=
 ((qbu op binds alts k).foldl (qfd (-1)) (qdn kid ((qbu op binds alts k).foldl (qfd 1) s.1,s.2)).1,(qdn kid ((qbu op binds alts k).foldl (qfd 1) s.1,s.2)).2)
theorem qjs (op:Int) (binds:List Int) (alts:List CAlt):∀ (ks:List CTree) (k:Nat) (s:FS),qbq (fun k s kid=>(.ok (qg1 op binds alts k s kid):Except Unit FS)) ks k s=.ok (qdh op binds alts ks k s)
 | [],k,s=>by rw[qdh];rfl
 | kid::ks,k,s=>by rw[qbq,qdh];exact qjs op binds alts ks (k+1) _
theorem qlC (op:Int) (binds:List Int) (alts:List CAlt) (k:Nat) (s:FS) (kid:CTree) (v:Int):qdg v (qg1 op binds alts k s kid).1=qdg v s.1:=by
 unfold qg1
 dsimp only
 rw[qbW,qg2 v kid,qbW]
 omega
include hL
theorem qwf (h236:L.fns 236=some fn236) (op n:Int) (binds:List Int) (kids:List CTree) (alts:List CAlt) (hb:(binds++alts.flatMap (·.binds)).length<2 ^ 30) (hk:kids.length<2 ^ 30) (ha:alts.length<2 ^ 30)
  (c:Int) (hc:0≤c) (hc2:c+2 ^ 30<2 ^ 62) (s0:FS) (hs0:MB 0 c s0.1)
  (ih:∀ kid∈kids,∀ (b:IM Int) (o:IM Unit),MB 0 (c+2 ^ 30) b→call L 196 [qaC kid,.map (some 0),.map (some 1)] [.map (encB b),.map (encU o)]=some (.val (.tuple []),[.map (encB (qdn kid (b,o)).1),.map (encU (qdn kid (b,o)).2)])) :
  qa4 L.pure (call L) 2 [0,1,2,36,37,38] [] 0 qiC (qly (.vptr [.int .i64 op,.int .i64 n,.list (binds.map qav) none,.list (kids.map qaC) none,.list (alts.map qau) none] 0) (kids.map qaC) kids.length 0 s0.2 s0.1) =
   some (.normal,⟨kt [] [],[.map (encB (qdh op binds alts kids 0 s0).1),.map (encU (qdh op binds alts kids 0 s0).2)]⟩):=by
 have hp:=hL.pure
 have hA:qay (.vptr [.int .i64 op,.int .i64 n,.list (binds.map qav) none,.list (kids.map qaC) none,.list (alts.map qau) none] 0)=true:=by
  simp only[qay,qas,qaj,qao,qbX,Bool.and_self]
 have hK:=qbX kids
 refine ((qcv kids (fun k s kid=>(.ok (qg1 op binds alts k s kid):Except Unit FS)) (fun s k=>qly (.vptr [.int .i64 op,.int .i64 n,.list (binds.map qav) none,.list (kids.map qaC) none,.list (alts.map qau) none] 0) (kids.map qaC) kids.length k s.2 s.1)
  (fun s=>⟨kt [] [],[.map (encB s.1),.map (encU s.2)]⟩) (fun _ _=>False) (fun s _=>MB 0 c s.1) s0 hs0 ?_ ?_ ?_).1 _ (qjs op binds alts kids 0 s0)).2
 ·intro k hk' s s' hs hq
  injection hq with hq
  subst hq
  refine⟨?_,fun v=>by rw[qlC];exact hs v⟩
  obtain⟨h1,h2,h3⟩:=qaO qaC kids hk k hk'
  have hbo:=qtE hL h236 op n binds (.list (kids.map qaC) none) alts ha k (by omega)
  have hbl:=qrd op binds alts k
  have ihk:=ih kids[k] (List.getElem_mem hk')
  unfold qg1
  generalize kids[k]=kid at *
  have hT:=qb9 kid
  generalize qbu op binds alts k=l at *
  have hl0:=qwd (L:=L) _ hA kid l (by omega) (kids.map qaC) hK kids.length k s.2 s.1 c hc (by omega) hs
  have hup:=MB.ups l hs
  have hup2:MB 0 (c+2 ^ 30) (l.foldl (qfd 1) s.1):=fun v=>⟨(hup v).1,by have:=(hup v).2;omega⟩
  have ihk:=ihk (l.foldl (qfd 1) s.1) s.2 hup2
  have hl1:=qwe (L:=L) _ hA l (by omega) (kids.map qaC) hK kids.length k (qdn kid (l.foldl (qfd 1) s.1,s.2)).2 (qdn kid (l.foldl (qfd 1) s.1,s.2)).1 (c+2 ^ 30) (by omega) (by omega)
   (fun v=>by rw[qg2];exact hup2 v)
  generalize qdn kid (l.foldl (qfd 1) s.1,s.2)=r at *
  unfold qrI qtY at hl0
  unfold qrJ qly at hl1
  simp only[Int.natCast_zero] at hl0 hl1
  obtain⟨tc,htc,hdt⟩:=qce kid
  rw[htc] at ihk hl0 h3 hT
  unfold qiC qly
  simp -implicitDefEqProofs only[ev_,aOp,opd,qaa,qaw,qbe,qat,qad,qab,qag,qax,ren,renC,qa8,qbj,↓reduceIte,reduceCtorEq,Nat.reduceEqDiff,Nat.reduceAdd,Nat.reduceLT,Nat.reduceLeDiff,Int.reduceNeg,qaj,qao,h1,h2,h3,hbo,hl0,ihk,hl1,hK,hT,hdt,qgh,qgi,qa6,qa7,qal L hp,hp,qf2,List.range_succ,List.range_zero]
 ·intro k hk' s e hs hq
  cases hq
 ·intro s _
  have h0:=qaQ kids.length
  unfold qiC qly
  simp -implicitDefEqProofs only[ev_,aOp,opd,qaa,qaw,qat,qab,gcE,qax,ren,renC,qa8,qbj,↓reduceIte,reduceCtorEq,Nat.reduceEqDiff,Nat.reduceAdd,h0,hK,qgh,qgi,qa6,qa7]
theorem qwg (h236:L.fns 236=some fn236) (h196:L.fns 196=some fn196):∀ (t:CTree),TFit t→∀ (c:Int) (b:IM Int) (o:IM Unit),0≤c→c+2 ^ 30*(hgt t:Int)<2 ^ 62→MB 0 c b →
  call L 196 [qaC t,.map (some 0),.map (some 1)] [.map (encB b),.map (encU o)]=some (.val (.tuple []),[.map (encB (qdn t (b,o)).1),.map (encU (qdn t (b,o)).2)]):=by
 have hs:L.summ 196=none:=hL.summ 196 (by rw[h196];exact fun hx=>by cases hx)
 intro t
 induction t using CTree.ind with
 | h op n binds kids alts ih =>
   intro hf c b o hc hc2 hb
   cases hf with
   | mk _ _ _ _ _ hbf hkf haf hfk =>
     rw[hgt] at hc2
     have hloop:=qwf hL h236 op n binds kids alts hbf hkf haf c hc (by omega) (qcJ op n (b,o)) (by unfold qcJ;split<;>exact hb) (by
      intro kid hkid b' o' hb'
      have hh:=qeD hkid
      exact ih kid hkid (hfk kid hkid) (c+2 ^ 30) b' o' (by omega) (by omega) hb')
     rw[qdn]
     refine qaA hs h196 ?_
     rw[qbs]
     have hK:=qbX kids
     unfold qly at hloop
     simp only[Int.natCast_zero] at hloop
     have hlk:=fun (h:Heap) (hr:h[0]? = some (.map (encB b)))=>qqu h 0 n b hr
     have hup:=fun (h:Heap) (hr:h[1]? = some (.map (encU o)))=>qyW (fun _:Unit=>AVal.agg []) h 1 n () o rfl hr
     unfold qcJ at hloop ⊢
     by_cases h0:op=0
     ·subst h0
      by_cases hz:qdg n b=0
      ·rw[if_pos ⟨rfl,hz⟩] at hloop ⊢
       dsimp only at hloop
       unfold fn196
       simp -implicitDefEqProofs only[ev_,aOp,opd,qaa,qaq,qaw,qbe,qat,qab,qaf,qag,qah,qbP,qan,qac,qai,qax,ren,renC,qa8,qbj,↓reduceIte,reduceCtorEq,Nat.reduceEqDiff,Nat.reduceAdd,Nat.reduceLT,Nat.reduceLeDiff,qaj,qao,hlk,hup,hz,hloop,hK,qgh,qgi,qa6,qa7]
      ·have hz':(qdg n b==0)=false:=by simpa using hz
       rw[if_neg (fun h=>hz h.2)] at hloop ⊢
       dsimp only at hloop
       unfold fn196
       simp -implicitDefEqProofs only[ev_,aOp,opd,qaa,qaw,qbe,qat,qab,qaf,qag,qah,qan,qac,qai,qax,ren,renC,qa8,qbj,↓reduceIte,reduceCtorEq,Nat.reduceEqDiff,Nat.reduceAdd,Nat.reduceLT,Nat.reduceLeDiff,qaj,qao,hlk,hz',hloop,hK,qgh,qgi,qa6,qa7]
     ·have h0':(op==0)=false:=by simpa using h0
      rw[if_neg (fun h=>h0 h.1)] at hloop ⊢
      dsimp only at hloop
      unfold fn196
      simp -implicitDefEqProofs only[ev_,aOp,opd,qaa,qaw,qbe,qat,qab,qaf,qag,qah,qan,qac,qai,qax,ren,renC,qa8,qbj,↓reduceIte,reduceCtorEq,Nat.reduceEqDiff,Nat.reduceAdd,Nat.reduceLT,Nat.reduceLeDiff,qaj,qao,h0',hloop,hK,qgh,qgi,qa6,qa7]
end
def qwl (n:Int):List Int→List Int
 | []=>[n]
 | m::l=>if n≤m then n::m::l else m::qwl n l
def qaX (l:List Int):List Int:=l.foldr qwl []
theorem qjv (n:Int):∀ l,(qwl n l).Perm (n::l)
 | []=>.refl _
 | m :: l => by
   unfold qwl
   split
   ·exact .refl _
   ·exact ((qjv n l).cons m).trans (.swap n m l)
theorem qjw (n:Int):∀ {l:List Int},l.Pairwise (· ≤ ·)→(qwl n l).Pairwise (· ≤ ·)
 | [],_=>by simp[qwl]
 | m :: l,h => by
   rw[List.pairwise_cons] at h
   unfold qwl
   split
   ·rename_i hnm
    rw[List.pairwise_cons]
    refine⟨fun x hx=>?_,List.pairwise_cons.2 h⟩
    rcases List.mem_cons.1 hx with rfl | hx
    ·exact hnm
    ·have:=h.1 x hx;omega
   ·rw[List.pairwise_cons]
    refine⟨fun x hx=>?_,qjw n h.2⟩
    rcases List.mem_cons.1 ((qjv n l).mem_iff.1 hx) with rfl | hx
    ·omega
    ·exact h.1 x hx
theorem qck:∀ l,(qaX l).Perm l
 | []=>.refl _
 | n::l=>(qjv n (qaX l)).trans ((qck l).cons n)
theorem qcN:∀ l,(qaX l).Pairwise (· ≤ ·)
 | []=>.nil
 | n::l=>qjw n (qcN l)
theorem qnw {a b:List Int} (ha:a.Pairwise (· ≤ ·)) (hb:b.Pairwise (· ≤ ·)) (h:a.Perm b):a=b :=
 List.Perm.eq_of_pairwise (le:=fun x y:Int=>x≤y) (fun x y _ _ h1 h2=>by omega) ha hb h
theorem qks {a b:List Int} (h:a.Perm b):qaX a=qaX b :=
 qnw (qcN a) (qcN b) ((qck a).trans (h.trans (qck b).symm))
theorem qdW (l:List Int):(qaX l).length=l.length:=(qck l).length_eq
theorem qne {α β:Type} (f:α→β):∀ {es:List β} {l:List α},es.Perm (l.map f)→∃ l':List α,l'.Perm l∧es=l'.map f
 | [],l,h => by
   have:=h.symm.eq_nil
   rw[List.map_eq_nil_iff] at this
   exact⟨[],by rw[this],rfl⟩
 | e :: es,l,h => by
   obtain⟨x,hx,rfl⟩:=List.mem_map.1 (h.mem_iff.1 (List.mem_cons_self ..))
   obtain⟨s,t,rfl⟩:=List.append_of_mem hx
   have h1:(f x::es).Perm (f x::(s++t).map f):=by
    refine h.trans ?_
    rw[List.map_append,List.map_cons,List.map_append]
    exact List.perm_middle
   obtain⟨l',h2,rfl⟩:=qne f h1.cons_inv
   exact⟨x::l',(h2.cons x).trans List.perm_middle.symm,rfl⟩
theorem qsI {pure:Nat→Bool} {call:CallT} {k:RangeK} {b c:ACode} {s s1:St} {es:List (AVal × AVal)} {r:AExit × St} (hpre:qb0 pure call k.pre s=some (.normal,s1)) (hes:qcm k.str (opd s1.tm k.m) s1.h=some es)
  (hall:∀ es',qcb k.str es es'→qci (qb0 pure call) k (qaP pure call b) (qaP pure call c) s s1 es'=some r):qaP pure call (.range k b c) s=some r:=by
 rw[qaP,qeh,hpre]
 dsimp only
 rw[hes]
 exact (qcq (qbG _ _)).2 hall
def qb4 {β:Type} (m:IM β):List Int:=m.map (·.1)
def qeR (t:CTree):List Int:=qaX (qb4 (qdn t ([],[])).2)
def qtw (acc:List Int):AVal:=if acc=[] then .list [] (some none) else .vec 3 acc.length
def qtv (acc:List Int):Heap:=if acc=[] then [] else [.vec (acc.map qav) 1]
def qtu (b:IM Int) (acc:List Int):St:=⟨kt [4,12] [qtw acc,.ptr (some (2,0))],[.gone,.map (encB b),.gone]++qtv acc⟩
theorem quw (id n:Nat):qfe (.vec id n)=false:=rfl
theorem qxs:qfe (.list [] (some none))=true:=rfl
theorem qk4 (pure:Nat→Bool) (call:CallT) (sz bytes:Nat) (x y:Opd) (tm:Tmps) (h:Heap):qir pure call (.append sz bytes x y) tm h =
  if qfe (opd tm x)=true then (match qep h sz (opd tm x) (opd tm y) with | some (v,h')=>some (.val v,h') | none=>none) else aOp pure call (.append sz bytes x y) tm h:=rfl
theorem qgc (pure:Nat→Bool) (call:CallT) (sz:Nat) (ps:List Opd) (tm:Tmps) (h:Heap):qir pure call (.buildSlice sz ps) tm h=aOp pure call (.buildSlice sz ps) tm h:=rfl
section
variable {L:Lib} (hL:Plain L)
theorem qu4 (b:IM Int) (acc:List Int) (hl:acc.length<2 ^ 30) (k:Int) :
  (qa9 (qb0 L.pure (call L)) 2 fn167_k0 (qaP L.pure (call L) qfI) (.int .i64 k,.agg []) (qtu b acc)).map (fun r=>(r.1,gc 3 fn167_k0.kr r.2))=some (.normal,qtu b (acc++[k])):=by
 unfold qa9 fn167_k0 qfI qtu
 have hall:=qeq acc
 have hn:acc++[k]≠[]:=by simp
 have e1:qtw (acc++[k])=.vec 3 (acc.length+1):=by unfold qtw;rw[if_neg hn];simp
 have e2:qtv (acc++[k])=[.vec ((acc++[k]).map qav) 1]:=by unfold qtv;rw[if_neg hn]
 rw[e1,e2]
 by_cases hz:acc=[]
 ·subst hz
  have e3:qtw []=.list [] (some none):=rfl
  have e4:qtv []=[]:=rfl
  rw[e3,e4]
  simp -implicitDefEqProofs only[ev_,aOp,opd,qaa,leaf,qax,ren,renC,qa8,qbj,↓reduceIte,Nat.reduceEqDiff,Nat.reduceAdd,Nat.reduceLT,Nat.reduceLeDiff,qbh,qbm,qbI,qpp,qdc,qjZ,qk4,qgc,qxs,qep,qgh,qgi]
 ·have e3:qtw acc=.vec 3 acc.length:=by unfold qtw;rw[if_neg hz]
  have e4:qtv acc=[.vec (acc.map qav) 1]:=by unfold qtv;rw[if_neg hz]
  have hle:acc.length+1≤1073741824:=by omega
  rw[e3,e4]
  simp -implicitDefEqProofs only[ev_,aOp,opd,qaa,leaf,qax,ren,renC,qa8,qbj,qbn,↓reduceIte,Nat.reduceEqDiff,Nat.reduceAdd,Nat.reduceLT,Nat.reduceLeDiff,qbh,qbm,qbI,qbM,Nat.mul_one,qpp,qdc,qjZ,qk4,qgc,quw,hle,qgh,qgi]
def qyR (b:IM Int) (acc:List Int):St:=⟨upd (upd (qtu b acc).tm (some 13) (.tuple [.bool false])) (some 14) (.bool false),(qtu b acc).h⟩
theorem qyf (b:IM Int) (acc:List Int):qbB (qb0 L.pure (call L)) 2 fn167_k0 (qtu b acc)=some (.normal,qyR b acc):=by
 unfold qbB fn167_k0 qyR qtu
 simp -implicitDefEqProofs only[ev_,aOp,opd,qaa,↓reduceIte,Nat.reduceEqDiff,qpp]
theorem qvE (b:IM Int):∀ (o':IM Unit) (acc:List Int) (s:St),acc.length+o'.length<2 ^ 30→gc 3 fn167_k0.kr s=qtu b acc →
  qba (qb0 L.pure (call L)) 2 fn167_k0 (qaP L.pure (call L) qfI) (encU o') s=some (.normal,qyR b (acc++qb4 o'))
 | [],acc,s,_,hs => by
   show qbB _ 2 fn167_k0 (gc 3 fn167_k0.kr s)=_
   rw[hs]
   have:acc++qb4 ([]:IM Unit)=acc:=by simp[qb4]
   rw[this]
   exact qyf b acc
 | e :: o',acc,s,hl,hs => by
   rw[List.length_cons] at hl
   have hr:=qu4 (L:=L) b acc (by omega) e.1
   rw[← hs] at hr
   obtain⟨⟨x,s'⟩,h1,h2⟩:=Option.map_eq_some_iff.1 hr
   simp only[Prod.mk.injEq] at h2
   obtain⟨rfl,h2⟩:=h2
   show (match qa9 _ 2 fn167_k0 _ (.int .i64 e.1,.agg []) (gc 3 fn167_k0.kr s) with | some (.normal,s')=>qba _ 2 fn167_k0 _ (encU o') s' | r=>qdc fn167_k0.id r)=_
   rw[h1]
   have:=qvE b o' (acc++[e.1]) s' (by simp;omega) h2
   rw[List.append_assoc] at this
   exact this
include hL
theorem qrQ (hP:CPrims L qaX) (h236:L.fns 236=some fn236) (h196:L.fns 196=some fn196) (h167:L.fns 167=some fn167) (t:CTree) (hf:TFit t) (hh:hgt t<2 ^ 30) (hn:(qdn t ([],[])).2.length<2 ^ 30) (h:Heap) :
  pcall L 167 [qaC t] h=some (.val (.list ((qeR t).map qav) none),h):=by
 have hp:=hL.pure
 have hfree:=qwg hL h236 h196 t hf 0 [] [] (by omega) (by omega) (fun v=>by simp[qdg,qbK])
 refine qa5 hL h167 (by rw[qa0];exact qaj _) ?_ h
 unfold qeR
 generalize qdn t ([],[])=r at *
 obtain⟨b,o⟩:=r
 dsimp only at hfree hn ⊢
 have hrange:∀ (tm:Tmps),tm 3=.map (some 0)→tm 4=.list [] (some none)→qaP L.pure (call L) (.range fn167_k0 qfI qiz) ⟨tm,[.map (encU o),.map (encB b)]⟩ =
   some (.ret,⟨kt [2] [.list ((qaX (qb4 o)).map qav) (if qaX (qb4 o)=[] then some none else none)],[.map (encU o),.map (encB b)]⟩):=by
  intro tm h3 h4
  refine qsI (s1:=⟨upd tm (some 11) (.map (some 0)),[.map (encU o),.map (encB b)]⟩) (es:=encU o) ?_ ?_ ?_
  ·unfold fn167_k0
   simp -implicitDefEqProofs only[ev_,aOp,opd,h3]
  ·unfold fn167_k0
   simp -implicitDefEqProofs only[ev_,opd,↓reduceIte,qcm,qm2,h3]
  ·intro es' hes
   have hes':es'.Perm (o.map fun p=>((.int .i64 p.1:AVal),AVal.agg [])):=hes
   obtain⟨o',hpm,rfl⟩:=qne _ hes'
   have hrun:=qvE (L:=L) b o' [] ⟨upd (upd tm (some 11) (.map (some 0))) (some 12) (.ptr (some (2,0))),[.gone,.map (encB b),.gone]⟩ (by rw[List.length_nil,hpm.length_eq];omega) ?_
   ·rw[List.nil_append] at hrun
    have hsort:qaX (qb4 o')=qaX (qb4 o):=qks (hpm.map _)
    rw[← hsort]
    have hlen:(qb4 o').length=o.length:=by unfold qb4;rw[List.length_map,hpm.length_eq]
    generalize qb4 o'=ks at *
    unfold qci
    have hh:qkk (opd (upd tm (some 11) (.map (some 0))) fn167_k0.m) [.map (encU o),.map (encB b)]=[.gone,.map (encB b),.gone]:=rfl
    have h15:fn167_k0.it=12:=rfl
    dsimp only
    rw[hh,h15]
    simp only[List.length_cons,List.length_nil]
    show Option.map _ (match qba _ 2 _ _ (encU o') _ with | some (.normal,s2)=>_ | some (e,s2)=>_ | none=>_)=_
    rw[hrun]
    dsimp only
    have hm2:opd (upd tm (some 11) (.map (some 0))) fn167_k0.m=.map (some 0):=rfl
    have hk:fn167_k0.keep=[2]:=rfl
    rw[hm2,hk]
    have hs0:=hP.sort0
    unfold qyR qtu qiz
    by_cases hz:ks=[]
    ·subst hz
     have e3:qtw []=.list [] (some none):=rfl
     have e4:qtv []=[]:=rfl
     have e5:qaX []=[]:=rfl
     rw[e3,e4,e5]
     simp -implicitDefEqProofs only[ev_,aOp,opd,gcE,qax,ren,renC,qa8,qbj,↓reduceIte,Nat.reduceEqDiff,Nat.reduceAdd,Nat.reduceLeDiff,qcc,hs0,qgh,qgi,qa6,qa7,qal L hp,hp]
    ·have e3:qtw ks=.vec 3 ks.length:=by unfold qtw;rw[if_neg hz]
     have e4:qtv ks=[.vec (ks.map qav) 1]:=by unfold qtv;rw[if_neg hz]
     have hs1:=hP.sort ks hz (by omega)
     have hzs:¬ qaX ks=[]:=fun h=>hz (by have:=qdW ks;rw[h] at this;exact List.length_eq_zero_iff.1 this.symm)
     have hsl:=qdW ks
     have hdS:=qaj (qaX ks)
     have hwS:((qaX ks).map qav).map wipeCell=(qaX ks).map qav:=by rw[List.map_map];rfl
     have hlS:((qaX ks).map qav).all leaf=true:=by
      rw[List.all_eq_true]
      intro x hx
      obtain⟨y,_,rfl⟩:=List.mem_map.1 hx
      rfl
     generalize qaX ks=ss at *
     rw[e3,e4]
     simp -implicitDefEqProofs only[ev_,aOp,opd,gcE,qax,ren,renC,qa8,qbj,↓reduceIte,reduceCtorEq,Nat.reduceEqDiff,Nat.reduceAdd,Nat.reduceLT,Nat.reduceLeDiff,frz,frzC,qkb,qvm,qbm,qb2,qbI,qb3,qbM,Nat.mul_one,qcc,hs1,hsl,hzs,hdS,hwS,hlS,qgh,qgi,qa6,qa7,qal L hp,hp]
   ·unfold qtu fn167_k0
    have e3:qtw []=.list [] (some none):=rfl
    have e4:qtv []=[]:=rfl
    rw[e3,e4]
    simp -implicitDefEqProofs only[ev_,qax,ren,renC,qa8,qbj,↓reduceIte,Nat.reduceEqDiff,Nat.reduceAdd,Nat.reduceLT,Nat.reduceLeDiff,h4,qgh,qgi]
 obtain⟨tc,htc,hdt⟩:=qce t
 have hn0:encB []=[]:=rfl
 have hn1:encU []=[]:=rfl
 rw[hn0,hn1] at hfree
 rw[htc] at hfree ⊢
 generalize (if qaX (qb4 o)=[] then some none else none:Option (Option Nat))=ow at *
 unfold fn167
 generalize fn167_k0=kk at *
 generalize qfI=bb at *
 generalize qiz=aa at *
 simp -implicitDefEqProofs only[ev_,aOp,opd,qan,qac,qae,qai,qax,ren,renC,qa8,qbj,↓reduceIte,reduceCtorEq,Nat.reduceEqDiff,Nat.reduceAdd,Nat.reduceLT,qak,hfree,hrange,hdt,qgh,qgi,qa6,qa7,qal L hp,hp]
end
end Go.Abs
