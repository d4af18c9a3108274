/-
  PARTS OF A PROOF, joined: an abstract machine for quiet code, its evaluation, and what the seat's functions answer on it. Conditions: none.
-/
import Derived.Test.YtpchghpipgpkfaaDoorCJ
set_option linter.unusedVariables false
set_option linter.unusedSimpArgs false
set_option maxRecDepth 100000
set_option maxHeartbeats 4000000
namespace Go.Abs
abbrev FS:=IM Int × IM Unit
def qgf (v:Int) (b:IM Int):Int:=(qaW v b).getD 0
def qhp (d:Int) (b:IM Int) (n:Int):IM Int:=qlv n (qgf n b+d) b
def qdk (op n:Int) (s:FS):FS:=if op=0∧qgf n s.1=0 then (s.1,qlv n () s.2) else s
mutual
def qd9:CTree→FS→FS
 | .mk op n binds kids alts,s=>qd0 op binds alts kids 0 (qdk op n s)
def qd0 (op:Int) (binds:List Int) (alts:List CAlt):List CTree→Nat→FS→FS
 | [],_,s=>s
 | kid :: ks,k,s =>
   qd0 op binds alts ks (k+1)
    ((qbz op binds alts k).foldl (qhp (-1)) (qd9 kid ((qbz op binds alts k).foldl (qhp 1) s.1,s.2)).1,(qd9 kid ((qbz op binds alts k).foldl (qhp 1) s.1,s.2)).2)
end
mutual
def hgt:CTree→Nat
 | .mk _ _ _ kids _=>qcS kids+1
def qcS:List CTree→Nat
 | []=>0
 | k::ks=>max (hgt k) (qcS ks)
end
theorem qdK {k:CTree} {ks:List CTree} (h:k∈ks):hgt k≤qcS ks:=by
 induction ks with
 | nil=>cases h
 | cons x xs ih =>
   unfold qcS
   rcases List.mem_cons.1 h with rfl | h
   ·omega
   ·have:=ih h;omega
inductive TFit:CTree→Prop
 | mk (op n:Int) (binds:List Int) (kids:List CTree) (alts:List CAlt) (hb:(binds++alts.flatMap (·.binds)).length<2 ^ 30) (hk:kids.length<2 ^ 30) (ha:alts.length<2 ^ 30) (h:∀ k∈kids,TFit k):TFit (.mk op n binds kids alts)
theorem qib (alts:List CAlt) {a:CAlt} (h:a∈alts):a.binds.length≤(alts.flatMap (·.binds)).length:=by
 induction alts with
 | nil=>cases h
 | cons x xs ih =>
   rw[List.flatMap_cons,List.length_append]
   rcases List.mem_cons.1 h with rfl | h
   ·omega
   ·have:=ih h;omega
theorem qtX (op:Int) (binds:List Int) (alts:List CAlt) (k:Nat):(qbz op binds alts k).length≤(binds++alts.flatMap (·.binds)).length:=by
 unfold qbz
 rw[List.length_append]
 split
 ·omega
 ·split
  ·split
   ·rename_i a ha
    have:=qib alts (List.mem_of_getElem? ha)
    omega
   ·simp
  ·simp
theorem qnp (v n x:Int) (b:IM Int):qgf v (qlv n x b)=if v=n then x else qgf v b:=by
 unfold qgf
 rw[qcd]
 split<;>rfl
def MB (lo hi:Int) (b:IM Int):Prop:=∀ v,lo≤qgf v b∧qgf v b≤hi
theorem MB.up {lo hi:Int} {b:IM Int} (h:MB lo hi b) (n:Int):MB lo (hi+1) (qhp 1 b n):=by
 intro v
 unfold qhp
 rw[qnp]
 have h1:=h v
 have h2:=h n
 split<;>omega
theorem MB.down {lo hi:Int} {b:IM Int} (h:MB lo hi b) (n:Int):MB (lo-1) hi (qhp (-1) b n):=by
 intro v
 unfold qhp
 rw[qnp]
 have h1:=h v
 have h2:=h n
 split<;>omega
theorem MB.ups {lo:Int}:∀ (l:List Int) {hi:Int} {b:IM Int},MB lo hi b→MB lo (hi+l.length) (l.foldl (qhp 1) b)
 | [],hi,b,h=>by simpa using h
 | n :: l,hi,b,h => by
   have:=MB.ups l (h.up n)
   rw[List.foldl_cons,List.length_cons]
   rw[show hi+((l.length+1:Nat):Int)=hi+1+l.length by omega]
   exact this
def qBm (v:Int) (l:List Int):Int:=(l.count v:Int)
theorem qcH (d v:Int):∀ (l:List Int) (b:IM Int),qgf v (l.foldl (qhp d) b)=qgf v b+d*qBm v l
 | [],b=>by simp[qBm]
 | n :: l,b => by
   rw[List.foldl_cons,qcH d v l]
   unfold qhp qBm
   rw[qnp,List.count_cons]
   by_cases h:v=n
   ·subst h
    simp
    rw[Int.mul_add]
    omega
   ·have:(n==v)=false:=by simpa using fun e=>h e.symm
    simp[h,this]
mutual
theorem qiq (v:Int):∀ (t:CTree) (s:FS),qgf v (qd9 t s).1=qgf v s.1
 | .mk op n binds kids alts,s => by
   rw[qd9,qmB v op binds alts kids]
   unfold qdk
   split<;>rfl
theorem qmB (v op:Int) (binds:List Int) (alts:List CAlt):∀ (ks:List CTree) (k:Nat) (s:FS),qgf v (qd0 op binds alts ks k s).1=qgf v s.1
 | [],_,s=>by rw[qd0]
 | kid :: ks,k,s => by
   rw[qd0,qmB v op binds alts ks,qcH,qiq v kid,qcH]
   omega
end
abbrev encB:IM Int→List (AVal × AVal):=ql6 qav
theorem qco (b:IM Int):qp9 (.map (encB b))=[]:=qBB _ (fun _=>rfl) b
theorem qcp (ρ:Nat→Option Nat) (b:IM Int):qfp ρ (.map (encB b))=.map (encB b):=qBO _ (fun _=>rfl) ρ b
theorem qAE (h:Heap) (r:Nat) (v:Int) (m:IM Int) (hr:h[r]? = some (.map (encB m))):qiP h .int (.int .i64 0) false (.map (some r)) (.int .i64 v)=some (.int .i64 (qgf v m)):=by
 rw[qqM qav h r _ false v m hr]
 unfold qgf
 cases qaW v m<;>rfl
theorem qCc (h:Heap) (r:Nat) (v x:Int) (m:IM Int) (hr:h[r]? = some (.map (encB m))):qeh h .int (.map (some r)) (.int .i64 v) (.int .i64 x)=some (h.set r (.map (encB (qlv v x m)))) :=
 qCd qav h r v x m rfl hr
section
variable {L:Lib} (hL:Plain L)
def qux (A:AVal) (kid:CTree) (l:List Int) (K:List AVal) (n k:Nat) (o:IM Unit) (b:IM Int) (j:Nat):St :=
 ⟨kt [0,1,2,7,8,36,37,38,46,47,48] [A,.map (some 0),.map (some 1),qao kid,.list (l.map qav) none,.list K none,.int .i64 n,.int .i64 k,.list (l.map qav) none,.int .i64 l.length,.int .i64 j],[.map (encB b),.map (encU o)]⟩
def qxb (A:AVal) (kid:CTree) (l:List Int) (K:List AVal) (n k:Nat) (o:IM Unit) (b:IM Int):St :=
 ⟨kt [0,1,2,7,8,36,37,38] [A,.map (some 0),.map (some 1),qao kid,.list (l.map qav) none,.list K none,.int .i64 n,.int .i64 k],[.map (encB b),.map (encU o)]⟩
theorem qzh (A:AVal) (hA:qaH A=true) (kid:CTree) (l:List Int) (hl:l.length<2 ^ 30) (K:List AVal) (hK:qax K=true) (n k:Nat) (o:IM Unit) (b:IM Int) (c:Int) (hc:0≤c) (hc2:c+2 ^ 30<2 ^ 62) (hb:MB 0 c b) :
  qba L.pure (call L) 2 [0,1,2,7,8,36,37,38,46,47,48] [0,1,2,7,8,36,37,38] 2 qj5 (qux A kid l K n k o b 0)=some (.normal,qxb A kid l K n k o (l.foldl (qhp 1) b)):=by
 have hT:=qbY kid
 refine (qek l (qhp 1) (qux A kid l K n k o) (qxb A kid l K n k o) (fun b j=>MB 0 (c+(j:Nat)) b) b (by simpa using hb) ?_ ?_).2
 ·intro j hj b hb
  obtain⟨h1,h2,h3⟩:=qaN qav l hl j hj
  refine⟨?_,by have:=hb.up l[j];rw[show c+((j+1:Nat):Int)=c+(j:Nat)+1 by omega];exact this⟩
  generalize l[j]=v at *
  have hv:=hb v
  have w:IntKind.i64.wrap (qgf v b+1)=qgf v b+1:=qcy (by omega) (by omega)
  have hlk:=fun (h:Heap) (hr:h[0]? = some (.map (encB b)))=>qAE h 0 v b hr
  have hup:=fun (h:Heap) (hr:h[0]? = some (.map (encB b)))=>qCc h 0 v (qgf v b+1) b hr
  unfold qj5 qux qhp
  simp -implicitDefEqProofs only[ev_,aOp,opd,qaa,qay,qaB,qaA,qad,qab,qag,qaC,ren,renC,qa9,qbq,↓reduceIte,reduceCtorEq,Nat.reduceEqDiff,Nat.reduceAdd,Nat.reduceLT,Nat.reduceLeDiff,qa1,qah,h1,h2,h3,hlk,hup,w,hA,hT,hK,qco,qcp,qbo,qbp]
 ·intro b _
  have h0:=qaQ l.length
  unfold qj5 qux qxb
  simp -implicitDefEqProofs only[ev_,aOp,opd,qaa,qaB,qaA,qab,gcE,qaC,ren,renC,qa9,qbq,↓reduceIte,reduceCtorEq,Nat.reduceEqDiff,Nat.reduceAdd,Nat.reduceLT,Nat.reduceLeDiff,qah,h0,hA,hT,hK,qco,qcp,qbo,qbp]
def quy (A:AVal) (l:List Int) (K:List AVal) (n k:Nat) (o:IM Unit) (b:IM Int) (j:Nat):St :=
 ⟨kt [0,1,2,36,37,38,61,62,63] [A,.map (some 0),.map (some 1),.list K none,.int .i64 n,.int .i64 k,.list (l.map qav) none,.int .i64 l.length,.int .i64 j],[.map (encB b),.map (encU o)]⟩
def qny (A:AVal) (K:List AVal) (n k:Nat) (o:IM Unit) (b:IM Int):St :=
 ⟨kt [0,1,2,36,37,38] [A,.map (some 0),.map (some 1),.list K none,.int .i64 n,.int .i64 k],[.map (encB b),.map (encU o)]⟩
theorem qzi (A:AVal) (hA:qaH A=true) (l:List Int) (hl:l.length<2 ^ 30) (K:List AVal) (hK:qax K=true) (n k:Nat) (o:IM Unit) (b:IM Int) (c:Int) (hc:0≤c) (hc2:c<2 ^ 62) (hb:MB 0 c b) :
  qba L.pure (call L) 2 [0,1,2,36,37,38,61,62,63] [0,1,2,36,37,38] 4 qj6 (quy A l K n k o b 0)=some (.normal,qny A K n k o (l.foldl (qhp (-1)) b)):=by
 refine (qek l (qhp (-1)) (quy A l K n k o) (qny A K n k o) (fun b j=>MB (-(j:Nat)) c b) b (by simpa using hb) ?_ ?_).2
 ·intro j hj b hb
  obtain⟨h1,h2,h3⟩:=qaN qav l hl j hj
  refine⟨?_,by have:=hb.down l[j];rw[show -((j+1:Nat):Int) = -(j:Nat)-1 by omega];exact this⟩
  generalize l[j]=v at *
  have hv:=hb v
  have w:IntKind.i64.wrap (qgf v b-1)=qgf v b + -1:=by rw[qcy (by omega) (by omega)];rfl
  have hlk:=fun (h:Heap) (hr:h[0]? = some (.map (encB b)))=>qAE h 0 v b hr
  have hup:=fun (h:Heap) (hr:h[0]? = some (.map (encB b)))=>qCc h 0 v (qgf v b + -1) b hr
  unfold qj6 quy qhp
  simp -implicitDefEqProofs only[ev_,aOp,opd,qaa,qay,qaB,qaA,qad,qab,qag,qaC,ren,renC,qa9,qbq,↓reduceIte,reduceCtorEq,Nat.reduceEqDiff,Nat.reduceAdd,Nat.reduceLT,Nat.reduceLeDiff,Int.reduceNeg,qa1,qah,h1,h2,h3,hlk,hup,w,hA,hK,qco,qcp,qbo,qbp]
 ·intro b _
  have h0:=qaQ l.length
  unfold qj6 quy qny
  simp -implicitDefEqProofs only[ev_,aOp,opd,qaa,qaB,qaA,qab,gcE,qaC,ren,renC,qa9,qbq,↓reduceIte,reduceCtorEq,Nat.reduceEqDiff,Nat.reduceAdd,Nat.reduceLT,Nat.reduceLeDiff,h0,hA,hK,qco,qcp,qbo,qbp]
def qip (op:Int) (binds:List Int) (alts:List CAlt) (k:Nat) (s:FS) (kid:CTree):FS :=
 ((qbz op binds alts k).foldl (qhp (-1)) (qd9 kid ((qbz op binds alts k).foldl (qhp 1) s.1,s.2)).1,(qd9 kid ((qbz op binds alts k).foldl (qhp 1) s.1,s.2)).2)
theorem qk2 (op:Int) (binds:List Int) (alts:List CAlt):∀ (ks:List CTree) (k:Nat) (s:FS),qbJ (fun k s kid=>(.ok (qip op binds alts k s kid):Except Unit FS)) ks k s=.ok (qd0 op binds alts ks k s)
 | [],k,s=>by rw[qd0];rfl
 | kid::ks,k,s=>by rw[qbJ,qd0];exact qk2 op binds alts ks (k+1) _
theorem qnD (op:Int) (binds:List Int) (alts:List CAlt) (k:Nat) (s:FS) (kid:CTree) (v:Int):qgf v (qip op binds alts k s kid).1=qgf v s.1:=by
 unfold qip
 dsimp only
 rw[qcH,qiq v kid,qcH]
 omega
include hL
theorem qzj (h236:L.fns 236=some fn236) (op n:Int) (binds:List Int) (kids:List CTree) (alts:List CAlt) (hb:(binds++alts.flatMap (·.binds)).length<2 ^ 30) (hk:kids.length<2 ^ 30) (ha:alts.length<2 ^ 30)
  (c:Int) (hc:0≤c) (hc2:c+2 ^ 30<2 ^ 62) (s0:FS) (hs0:MB 0 c s0.1)
  (ih:∀ kid∈kids,∀ (b:IM Int) (o:IM Unit),MB 0 (c+2 ^ 30) b→call L 196 [qao kid,.map (some 0),.map (some 1)] [.map (encB b),.map (encU o)]=some (.val (.tuple []),[.map (encB (qd9 kid (b,o)).1),.map (encU (qd9 kid (b,o)).2)])) :
  qba L.pure (call L) 2 [0,1,2,36,37,38] [] 0 qj7 (qny (.vptr [.int .i64 op,.int .i64 n,.list (binds.map qav) none,.list (kids.map qao) none,.list (alts.map qas) none] 0) (kids.map qao) kids.length 0 s0.2 s0.1) =
   some (.normal,⟨kt [] [],[.map (encB (qd0 op binds alts kids 0 s0).1),.map (encU (qd0 op binds alts kids 0 s0).2)]⟩):=by
 have hp:=hL.pure
 have hA:qaH (.vptr [.int .i64 op,.int .i64 n,.list (binds.map qav) none,.list (kids.map qao) none,.list (alts.map qas) none] 0)=true:=by
  simp only[qaH,qax,qah,qap,qbi,Bool.and_self]
 have hK:=qbi kids
 refine ((qcD kids (fun k s kid=>(.ok (qip op binds alts k s kid):Except Unit FS)) (fun s k=>qny (.vptr [.int .i64 op,.int .i64 n,.list (binds.map qav) none,.list (kids.map qao) none,.list (alts.map qas) none] 0) (kids.map qao) kids.length k s.2 s.1)
  (fun s=>⟨kt [] [],[.map (encB s.1),.map (encU s.2)]⟩) (fun _ _=>False) (fun s _=>MB 0 c s.1) s0 hs0 ?_ ?_ ?_).1 _ (qk2 op binds alts kids 0 s0)).2
 ·intro k hk' s s' hs hq
  injection hq with hq
  subst hq
  refine⟨?_,fun v=>by rw[qnD];exact hs v⟩
  obtain⟨h1,h2,h3⟩:=qaN qao kids hk k hk'
  have hbo:=qwQ hL h236 op n binds (.list (kids.map qao) none) alts ha k (by omega)
  have hbl:=qtX op binds alts k
  have ihk:=ih kids[k] (List.getElem_mem hk')
  unfold qip
  generalize kids[k]=kid at *
  have hT:=qbY kid
  generalize qbz op binds alts k=l at *
  have hl0:=qzh (L:=L) _ hA kid l (by omega) (kids.map qao) hK kids.length k s.2 s.1 c hc (by omega) hs
  have hup:=MB.ups l hs
  have hup2:MB 0 (c+2 ^ 30) (l.foldl (qhp 1) s.1):=fun v=>⟨(hup v).1,by have:=(hup v).2;omega⟩
  have ihk:=ihk (l.foldl (qhp 1) s.1) s.2 hup2
  have hl1:=qzi (L:=L) _ hA l (by omega) (kids.map qao) hK kids.length k (qd9 kid (l.foldl (qhp 1) s.1,s.2)).2 (qd9 kid (l.foldl (qhp 1) s.1,s.2)).1 (c+2 ^ 30) (by omega) (by omega)
   (fun v=>by rw[qiq];exact hup2 v)
  generalize qd9 kid (l.foldl (qhp 1) s.1,s.2)=r at *
  unfold qux qxb at hl0
  unfold quy qny at hl1
  simp only[Int.natCast_zero] at hl0 hl1
  obtain⟨tc,htc,hdt⟩:=qbC kid
  rw[htc] at ihk hl0 h3 hT
  unfold qj7 qny
  simp -implicitDefEqProofs only[ev_,aOp,opd,qaa,qaB,qbd,qaA,qad,qab,qag,qaC,ren,renC,qa9,qbq,↓reduceIte,reduceCtorEq,Nat.reduceEqDiff,Nat.reduceAdd,Nat.reduceLT,Nat.reduceLeDiff,Int.reduceNeg,qah,qap,h1,h2,h3,hbo,hl0,ihk,hl1,hK,hT,hdt,qco,qcp,qbo,qbp,qal L hp,hp,qng,List.range_succ,List.range_zero]
 ·intro k hk' s e hs hq
  cases hq
 ·intro s _
  have h0:=qaQ kids.length
  unfold qj7 qny
  simp -implicitDefEqProofs only[ev_,aOp,opd,qaa,qaB,qaA,qab,gcE,qaC,ren,renC,qa9,qbq,↓reduceIte,reduceCtorEq,Nat.reduceEqDiff,Nat.reduceAdd,h0,hK,qco,qcp,qbo,qbp]
theorem qzk (h236:L.fns 236=some fn236) (h196:L.fns 196=some fn196):∀ (t:CTree),TFit t→∀ (c:Int) (b:IM Int) (o:IM Unit),0≤c→c+2 ^ 30*(hgt t:Int)<2 ^ 62→MB 0 c b →
  call L 196 [qao t,.map (some 0),.map (some 1)] [.map (encB b),.map (encU o)]=some (.val (.tuple []),[.map (encB (qd9 t (b,o)).1),.map (encU (qd9 t (b,o)).2)]):=by
 have hs:L.summ 196=none:=hL.summ 196 (by rw[h196];exact fun hx=>by cases hx)
 intro t
 induction t using CTree.ind with
 | h op n binds kids alts ih =>
   intro hf c b o hc hc2 hb
   cases hf with
   | mk _ _ _ _ _ hbf hkf haf hfk =>
     rw[hgt] at hc2
     have hloop:=qzj hL h236 op n binds kids alts hbf hkf haf c hc (by omega) (qdk op n (b,o)) (by unfold qdk;split<;>exact hb) (by
      intro kid hkid b' o' hb'
      have hh:=qdK hkid
      exact ih kid hkid (hfk kid hkid) (c+2 ^ 30) b' o' (by omega) (by omega) hb')
     rw[qd9]
     refine qaL hs h196 ?_
     rw[qbj]
     have hK:=qbi kids
     unfold qny at hloop
     simp only[Int.natCast_zero] at hloop
     have hlk:=fun (h:Heap) (hr:h[0]? = some (.map (encB b)))=>qAE h 0 n b hr
     have hup:=fun (h:Heap) (hr:h[1]? = some (.map (encU o)))=>qCd (fun _:Unit=>AVal.agg []) h 1 n () o rfl hr
     unfold qdk at hloop ⊢
     by_cases h0:op=0
     ·subst h0
      by_cases hz:qgf n b=0
      ·rw[if_pos ⟨rfl,hz⟩] at hloop ⊢
       dsimp only at hloop
       unfold fn196
       simp -implicitDefEqProofs only[ev_,aOp,opd,qaa,qay,qaB,qbd,qaA,qab,qaf,qag,qai,qcj,qan,qac,qaj,qaC,ren,renC,qa9,qbq,↓reduceIte,reduceCtorEq,Nat.reduceEqDiff,Nat.reduceAdd,Nat.reduceLT,Nat.reduceLeDiff,qah,qap,hlk,hup,hz,hloop,hK,qco,qcp,qbo,qbp]
      ·have hz':(qgf n b==0)=false:=by simpa using hz
       rw[if_neg (fun h=>hz h.2)] at hloop ⊢
       dsimp only at hloop
       unfold fn196
       simp -implicitDefEqProofs only[ev_,aOp,opd,qaa,qaB,qbd,qaA,qab,qaf,qag,qai,qan,qac,qaj,qaC,ren,renC,qa9,qbq,↓reduceIte,reduceCtorEq,Nat.reduceEqDiff,Nat.reduceAdd,Nat.reduceLT,Nat.reduceLeDiff,qah,qap,hlk,hz',hloop,hK,qco,qcp,qbo,qbp]
     ·have h0':(op==0)=false:=by simpa using h0
      rw[if_neg (fun h=>h0 h.1)] at hloop ⊢
      dsimp only at hloop
      unfold fn196
      simp -implicitDefEqProofs only[ev_,aOp,opd,qaa,qaB,qbd,qaA,qab,qaf,qag,qai,qan,qac,qaj,qaC,ren,renC,qa9,qbq,↓reduceIte,reduceCtorEq,Nat.reduceEqDiff,Nat.reduceAdd,Nat.reduceLT,Nat.reduceLeDiff,qah,qap,h0',hloop,hK,qco,qcp,qbo,qbp]
end
def qzr (n:Int):List Int→List Int
 | []=>[n]
 | m::l=>if n≤m then n::m::l else m::qzr n l
def qa6 (l:List Int):List Int:=l.foldr qzr []
theorem qk7 (n:Int):∀ l,(qzr n l).Perm (n::l)
 | []=>.refl _
 | m :: l => by
   unfold qzr
   split
   ·exact .refl _
   ·exact ((qk7 n l).cons m).trans (.swap n m l)
theorem qk8 (n:Int):∀ {l:List Int},l.Pairwise (· ≤ ·)→(qzr n l).Pairwise (· ≤ ·)
 | [],_=>by simp[qzr]
 | m :: l,h => by
   rw[List.pairwise_cons] at h
   unfold qzr
   split
   ·rename_i hnm
    rw[List.pairwise_cons]
    refine⟨fun x hx=>?_,List.pairwise_cons.2 h⟩
    rcases List.mem_cons.1 hx with rfl | hx
    ·exact hnm
    ·have:=h.1 x hx;omega
   ·rw[List.pairwise_cons]
    refine⟨fun x hx=>?_,qk8 n h.2⟩
    rcases List.mem_cons.1 ((qk7 n l).mem_iff.1 hx) with rfl | hx
    ·omega
    ·exact h.1 x hx
theorem qci:∀ l,(qa6 l).Perm l
 | []=>.refl _
 | n::l=>(qk7 n (qa6 l)).trans ((qci l).cons n)
theorem qcF:∀ l,(qa6 l).Pairwise (· ≤ ·)
 | []=>.nil
 | n::l=>qk8 n (qcF l)
theorem qlK {a b:List Int} (ha:a.Pairwise (· ≤ ·)) (hb:b.Pairwise (· ≤ ·)) (h:a.Perm b):a=b :=
 List.Perm.eq_of_pairwise (le:=fun x y:Int=>x≤y) (fun x y _ _ h1 h2=>by omega) ha hb h
theorem qmg {a b:List Int} (h:a.Perm b):qa6 a=qa6 b :=
 qlK (qcF a) (qcF b) ((qci a).trans (h.trans (qci b).symm))
theorem qeO (l:List Int):(qa6 l).length=l.length:=(qci l).length_eq
theorem qpr {α β:Type} (f:α→β):∀ {es:List β} {l:List α},es.Perm (l.map f)→∃ l':List α,l'.Perm l∧es=l'.map f
 | [],l,h => by
   have:=h.symm.eq_nil
   rw[List.map_eq_nil_iff] at this
   exact⟨[],by rw[this],rfl⟩
 | e :: es,l,h => by
   obtain⟨x,hx,rfl⟩:=List.mem_map.1 (h.mem_iff.1 (List.mem_cons_self ..))
   obtain⟨s,t,rfl⟩:=List.append_of_mem hx
   have h1:(f x::es).Perm (f x::(s++t).map f):=by
    refine h.trans ?_
    rw[List.map_append,List.map_cons,List.map_append]
    exact List.perm_middle
   obtain⟨l',h2,rfl⟩:=qpr f h1.cons_inv
   exact⟨x::l',(h2.cons x).trans List.perm_middle.symm,rfl⟩
theorem qvA {pure:Nat→Bool} {call:CallT} {k:RangeK} {b c:ACode} {s s1:St} {es:List (AVal × AVal)} {r:AExit × St} (hpre:qcq pure call k.pre s=some (.normal,s1)) (hes:qcR k.str (opd s1.tm k.m) s1.h=some es)
  (hall:∀ es',qcC k.str es es'→qcN (qcq pure call) k (qa0 pure call b) (qa0 pure call c) s s1 es'=some r):qa0 pure call (.range k b c) s=some r:=by
 rw[qa0,qfi,hpre]
 dsimp only
 rw[hes]
 exact (qcZ (qb7 _ _)).2 hall
def qcu {β:Type} (m:IM β):List Int:=m.map (·.1)
def qda (t:CTree):List Int:=qa6 (qcu (qd9 t ([],[])).2)
def qwD (acc:List Int):AVal:=if acc=[] then .list [] (some none) else .vec 3 acc.length
def qwC (acc:List Int):Heap:=if acc=[] then [] else [.vec (acc.map qav) 1]
def qwB (b:IM Int) (acc:List Int):St:=⟨kt [4,12] [qwD acc,.ptr (some (2,0))],[.gone,.map (encB b),.gone]++qwC acc⟩
theorem qxw (id n:Nat):qgs (.vec id n)=false:=rfl
theorem qAu:qgs (.list [] (some none))=true:=rfl
theorem qmY (pure:Nat→Bool) (call:CallT) (sz bytes:Nat) (x y:Opd) (tm:Tmps) (h:Heap):qjV pure call (.append sz bytes x y) tm h =
  if qgs (opd tm x)=true then (match qd2 h sz (opd tm x) (opd tm y) with | some (v,h')=>some (.val v,h') | none=>none) else aOp pure call (.append sz bytes x y) tm h:=rfl
theorem qht (pure:Nat→Bool) (call:CallT) (sz:Nat) (ps:List Opd) (tm:Tmps) (h:Heap):qjV pure call (.buildSlice sz ps) tm h=aOp pure call (.buildSlice sz ps) tm h:=rfl
section
variable {L:Lib} (hL:Plain L)
theorem qx9 (b:IM Int) (acc:List Int) (hl:acc.length<2 ^ 30) (k:Int) :
  (qbr (qcq L.pure (call L)) 2 fn167_k0 (qa0 L.pure (call L) qgX) (.int .i64 k,.agg []) (qwB b acc)).map (fun r=>(r.1,gc 3 fn167_k0.kr r.2))=some (.normal,qwB b (acc++[k])):=by
 unfold qbr fn167_k0 qgX qwB
 have hall:=qfq acc
 have hn:acc++[k]≠[]:=by simp
 have e1:qwD (acc++[k])=.vec 3 (acc.length+1):=by unfold qwD;rw[if_neg hn];simp
 have e2:qwC (acc++[k])=[.vec ((acc++[k]).map qav) 1]:=by unfold qwC;rw[if_neg hn]
 rw[e1,e2]
 by_cases hz:acc=[]
 ·subst hz
  have e3:qwD []=.list [] (some none):=rfl
  have e4:qwC []=[]:=rfl
  rw[e3,e4]
  simp -implicitDefEqProofs only[ev_,aOp,opd,qaa,leaf,qaC,ren,renC,qa9,qbq,↓reduceIte,Nat.reduceEqDiff,Nat.reduceAdd,Nat.reduceLT,Nat.reduceLeDiff,qa1,qbA,qb9,qrN,qdU,qlN,qmY,qht,qAu,qd2,qco,qcp]
 ·have e3:qwD acc=.vec 3 acc.length:=by unfold qwD;rw[if_neg hz]
  have e4:qwC acc=[.vec (acc.map qav) 1]:=by unfold qwC;rw[if_neg hz]
  have hle:acc.length+1≤1073741824:=by omega
  rw[e3,e4]
  simp -implicitDefEqProofs only[ev_,aOp,opd,qaa,leaf,qaC,ren,renC,qa9,qbq,qbO,↓reduceIte,Nat.reduceEqDiff,Nat.reduceAdd,Nat.reduceLT,Nat.reduceLeDiff,qa1,qbA,qb9,qcc,Nat.mul_one,qrN,qdU,qlN,qmY,qht,qxw,hle,qco,qcp]
def qB5 (b:IM Int) (acc:List Int):St:=⟨upd (upd (qwB b acc).tm (some 13) (.tuple [.bool false])) (some 14) (.bool false),(qwB b acc).h⟩
theorem qBq (b:IM Int) (acc:List Int):qb2 (qcq L.pure (call L)) 2 fn167_k0 (qwB b acc)=some (.normal,qB5 b acc):=by
 unfold qb2 fn167_k0 qB5 qwB
 simp -implicitDefEqProofs only[ev_,aOp,opd,qaa,↓reduceIte,Nat.reduceEqDiff,qrN]
theorem qyM (b:IM Int):∀ (o':IM Unit) (acc:List Int) (s:St),acc.length+o'.length<2 ^ 30→gc 3 fn167_k0.kr s=qwB b acc →
  qbs (qcq L.pure (call L)) 2 fn167_k0 (qa0 L.pure (call L) qgX) (encU o') s=some (.normal,qB5 b (acc++qcu o'))
 | [],acc,s,_,hs => by
   show qb2 _ 2 fn167_k0 (gc 3 fn167_k0.kr s)=_
   rw[hs]
   have:acc++qcu ([]:IM Unit)=acc:=by simp[qcu]
   rw[this]
   exact qBq b acc
 | e :: o',acc,s,hl,hs => by
   rw[List.length_cons] at hl
   have hr:=qx9 (L:=L) b acc (by omega) e.1
   rw[← hs] at hr
   obtain⟨⟨x,s'⟩,h1,h2⟩:=Option.map_eq_some_iff.1 hr
   simp only[Prod.mk.injEq] at h2
   obtain⟨rfl,h2⟩:=h2
   show (match qbr _ 2 fn167_k0 _ (.int .i64 e.1,.agg []) (gc 3 fn167_k0.kr s) with | some (.normal,s')=>qbs _ 2 fn167_k0 _ (encU o') s' | r=>qdU fn167_k0.id r)=_
   rw[h1]
   have:=qyM b o' (acc++[e.1]) s' (by simp;omega) h2
   rw[List.append_assoc] at this
   exact this
include hL
theorem quH (hP:CPrims L qa6) (h236:L.fns 236=some fn236) (h196:L.fns 196=some fn196) (h167:L.fns 167=some fn167) (t:CTree) (hf:TFit t) (hh:hgt t<2 ^ 30) (hn:(qd9 t ([],[])).2.length<2 ^ 30) (h:Heap) :
  pcall L 167 [qao t] h=some (.val (.list ((qda t).map qav) none),h):=by
 have hp:=hL.pure
 have hfree:=qzk hL h236 h196 t hf 0 [] [] (by omega) (by omega) (fun v=>by simp[qgf,qaW])
 refine qaX hL h167 (by rw[qa3];exact qah _) ?_ h
 unfold qda
 generalize qd9 t ([],[])=r at *
 obtain⟨b,o⟩:=r
 dsimp only at hfree hn ⊢
 have hrange:∀ (tm:Tmps),tm 3=.map (some 0)→tm 4=.list [] (some none)→qa0 L.pure (call L) (.range fn167_k0 qgX qj3) ⟨tm,[.map (encU o),.map (encB b)]⟩ =
   some (.ret,⟨kt [2] [.list ((qa6 (qcu o)).map qav) (if qa6 (qcu o)=[] then some none else none)],[.map (encU o),.map (encB b)]⟩):=by
  intro tm h3 h4
  refine qvA (s1:=⟨upd tm (some 11) (.map (some 0)),[.map (encU o),.map (encB b)]⟩) (es:=encU o) ?_ ?_ ?_
  ·unfold fn167_k0
   simp -implicitDefEqProofs only[ev_,aOp,opd,h3]
  ·unfold fn167_k0
   simp -implicitDefEqProofs only[ev_,opd,↓reduceIte,qcR,qpe,h3]
  ·intro es' hes
   have hes':es'.Perm (o.map fun p=>((.int .i64 p.1:AVal),AVal.agg [])):=hes
   obtain⟨o',hpm,rfl⟩:=qpr _ hes'
   have hrun:=qyM (L:=L) b o' [] ⟨upd (upd tm (some 11) (.map (some 0))) (some 12) (.ptr (some (2,0))),[.gone,.map (encB b),.gone]⟩ (by rw[List.length_nil,hpm.length_eq];omega) ?_
   ·rw[List.nil_append] at hrun
    have hsort:qa6 (qcu o')=qa6 (qcu o):=qmg (hpm.map _)
    rw[← hsort]
    have hlen:(qcu o').length=o.length:=by unfold qcu;rw[List.length_map,hpm.length_eq]
    generalize qcu o'=ks at *
    unfold qcN
    have hh:ql9 (opd (upd tm (some 11) (.map (some 0))) fn167_k0.m) [.map (encU o),.map (encB b)]=[.gone,.map (encB b),.gone]:=rfl
    have h15:fn167_k0.it=12:=rfl
    dsimp only
    rw[hh,h15]
    simp only[List.length_cons,List.length_nil]
    show Option.map _ (match qbs _ 2 _ _ (encU o') _ with | some (.normal,s2)=>_ | some (e,s2)=>_ | none=>_)=_
    rw[hrun]
    dsimp only
    have hm2:opd (upd tm (some 11) (.map (some 0))) fn167_k0.m=.map (some 0):=rfl
    have hk:fn167_k0.keep=[2]:=rfl
    rw[hm2,hk]
    have hs0:=hP.sort0
    unfold qB5 qwB qj3
    by_cases hz:ks=[]
    ·subst hz
     have e3:qwD []=.list [] (some none):=rfl
     have e4:qwC []=[]:=rfl
     have e5:qa6 []=[]:=rfl
     rw[e3,e4,e5]
     simp -implicitDefEqProofs only[ev_,aOp,opd,gcE,qaC,ren,renC,qa9,qbq,↓reduceIte,Nat.reduceEqDiff,Nat.reduceAdd,Nat.reduceLeDiff,qcG,hs0,qco,qcp,qbo,qbp,qal L hp,hp]
    ·have e3:qwD ks=.vec 3 ks.length:=by unfold qwD;rw[if_neg hz]
     have e4:qwC ks=[.vec (ks.map qav) 1]:=by unfold qwC;rw[if_neg hz]
     have hs1:=hP.sort ks hz (by omega)
     have hzs:¬ qa6 ks=[]:=fun h=>hz (by have:=qeO ks;rw[h] at this;exact List.length_eq_zero_iff.1 this.symm)
     have hsl:=qeO ks
     have hdS:=qah (qa6 ks)
     have hwS:((qa6 ks).map qav).map wipeCell=(qa6 ks).map qav:=by rw[List.map_map];rfl
     have hlS:((qa6 ks).map qav).all leaf=true:=by
      rw[List.all_eq_true]
      intro x hx
      obtain⟨y,_,rfl⟩:=List.mem_map.1 hx
      rfl
     generalize qa6 ks=ss at *
     rw[e3,e4]
     simp -implicitDefEqProofs only[ev_,aOp,opd,gcE,qaC,ren,renC,qa9,qbq,↓reduceIte,reduceCtorEq,Nat.reduceEqDiff,Nat.reduceAdd,Nat.reduceLT,Nat.reduceLeDiff,frz,frzC,qlY,qyt,qbA,qcs,qb9,qct,qcc,Nat.mul_one,qcG,hs1,hsl,hzs,hdS,hwS,hlS,qco,qcp,qbo,qbp,qal L hp,hp]
   ·unfold qwB fn167_k0
    have e3:qwD []=.list [] (some none):=rfl
    have e4:qwC []=[]:=rfl
    rw[e3,e4]
    simp -implicitDefEqProofs only[ev_,qaC,ren,renC,qa9,qbq,↓reduceIte,Nat.reduceEqDiff,Nat.reduceAdd,Nat.reduceLT,Nat.reduceLeDiff,h4,qco,qcp]
 obtain⟨tc,htc,hdt⟩:=qbC t
 have hn0:encB []=[]:=rfl
 have hn1:encU []=[]:=rfl
 rw[hn0,hn1] at hfree
 rw[htc] at hfree ⊢
 generalize (if qa6 (qcu o)=[] then some none else none:Option (Option Nat))=ow at *
 unfold fn167
 generalize fn167_k0=kk at *
 generalize qgX=bb at *
 generalize qj3=aa at *
 simp -implicitDefEqProofs only[ev_,aOp,opd,qan,qac,qae,qaj,qaC,ren,renC,qa9,qbq,↓reduceIte,reduceCtorEq,Nat.reduceEqDiff,Nat.reduceAdd,Nat.reduceLT,qak,hfree,hrange,hdt,qco,qcp,qbo,qbp,qal L hp,hp]
end
end Go.Abs
