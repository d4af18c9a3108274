/-
  PARTS OF A PROOF, joined: an abstract machine for quiet code, its evaluation, and what the seat's functions answer on it. Conditions: none.
-/
import Derived.Test.YtpchghpipgpkfaaDoorCJ
set_option linter.unusedVariables false
set_option linter.unusedSimpArgs false
set_option maxRecDepth 100000
set_option maxHeartbeats 4000000
namespace Go.Abs
abbrev FS:=IM Int × IM Unit
def qdf (v:Int) (b:IM Int):Int:=(qbu v b).getD 0
def qhD (d:Int) (b:IM Int) (n:Int):IM Int:=qjf n (qdf n b+d) b
def qd6 (op n:Int) (s:FS):FS:=if op=0∧qdf n s.1=0 then (s.1,qjf n () s.2) else s
mutual
def qee:CTree→FS→FS
 | .mk op n binds kids alts,s=>qep op binds alts kids 0 (qd6 op n s)
def qep (op:Int) (binds:List Int) (alts:List CAlt):List CTree→Nat→FS→FS
 | [],_,s=>s
 | kid :: ks,k,s =>
   qep op binds alts ks (k+1)
    ((qcD op binds alts k).foldl (qhD (-1)) (qee kid ((qcD op binds alts k).foldl (qhD 1) s.1,s.2)).1,(qee kid ((qcD op binds alts k).foldl (qhD 1) s.1,s.2)).2)
end
mutual
def hgt:CTree→Nat
 | .mk _ _ _ kids _=>qdi kids+1
def qdi:List CTree→Nat
 | []=>0
 | k::ks=>max (hgt k) (qdi ks)
end
theorem qd7 {k:CTree} {ks:List CTree} (h:k∈ks):hgt k≤qdi ks:=by
 induction ks with
 | nil=>cases h
 | cons x xs ih =>
   unfold qdi
   rcases List.mem_cons.1 h with rfl | h
   ·omega
   ·have:=ih h;omega
inductive TFit:CTree→Prop
 | mk (op n:Int) (binds:List Int) (kids:List CTree) (alts:List CAlt) (hb:(binds++alts.flatMap (·.binds)).length<2 ^ 30) (hk:kids.length<2 ^ 30) (ha:alts.length<2 ^ 30) (h:∀ k∈kids,TFit k):TFit (.mk op n binds kids alts)
theorem qhl (alts:List CAlt) {a:CAlt} (h:a∈alts):a.binds.length≤(alts.flatMap (·.binds)).length:=by
 induction alts with
 | nil=>cases h
 | cons x xs ih =>
   rw[List.flatMap_cons,List.length_append]
   rcases List.mem_cons.1 h with rfl | h
   ·omega
   ·have:=ih h;omega
theorem qsO (op:Int) (binds:List Int) (alts:List CAlt) (k:Nat):(qcD op binds alts k).length≤(binds++alts.flatMap (·.binds)).length:=by
 unfold qcD
 rw[List.length_append]
 split
 ·omega
 ·split
  ·split
   ·rename_i a ha
    have:=qhl alts (List.mem_of_getElem? ha)
    omega
   ·simp
  ·simp
theorem qcj (v n x:Int) (b:IM Int):qdf v (qjf n x b)=if v=n then x else qdf v b:=by
 unfold qdf
 rw[qcR]
 split<;>rfl
def MB (lo hi:Int) (b:IM Int):Prop:=∀ v,lo≤qdf v b∧qdf v b≤hi
theorem MB.up {lo hi:Int} {b:IM Int} (h:MB lo hi b) (n:Int):MB lo (hi+1) (qhD 1 b n):=by
 intro v
 unfold qhD
 rw[qcj]
 have h1:=h v
 have h2:=h n
 split<;>omega
theorem MB.down {lo hi:Int} {b:IM Int} (h:MB lo hi b) (n:Int):MB (lo-1) hi (qhD (-1) b n):=by
 intro v
 unfold qhD
 rw[qcj]
 have h1:=h v
 have h2:=h n
 split<;>omega
theorem MB.ups {lo:Int}:∀ (l:List Int) {hi:Int} {b:IM Int},MB lo hi b→MB lo (hi+l.length) (l.foldl (qhD 1) b)
 | [],hi,b,h=>by simpa using h
 | n :: l,hi,b,h => by
   have:=MB.ups l (h.up n)
   rw[List.foldl_cons,List.length_cons]
   rw[show hi+((l.length+1:Nat):Int)=hi+1+l.length by omega]
   exact this
def qz5 (v:Int) (l:List Int):Int:=(l.count v:Int)
theorem qdK (d v:Int):∀ (l:List Int) (b:IM Int),qdf v (l.foldl (qhD d) b)=qdf v b+d*qz5 v l
 | [],b=>by simp[qz5]
 | n :: l,b => by
   rw[List.foldl_cons,qdK d v l]
   unfold qhD qz5
   rw[qcj,List.count_cons]
   by_cases h:v=n
   ·subst h
    simp
    rw[Int.mul_add]
    omega
   ·have:(n==v)=false:=by simpa using fun e=>h e.symm
    simp[h,this]
mutual
theorem qj1 (v:Int):∀ (t:CTree) (s:FS),qdf v (qee t s).1=qdf v s.1
 | .mk op n binds kids alts,s => by
   rw[qee,qlC v op binds alts kids]
   unfold qd6
   split<;>rfl
theorem qlC (v op:Int) (binds:List Int) (alts:List CAlt):∀ (ks:List CTree) (k:Nat) (s:FS),qdf v (qep op binds alts ks k s).1=qdf v s.1
 | [],_,s=>by rw[qep]
 | kid :: ks,k,s => by
   rw[qep,qlC v op binds alts ks,qdK,qj1 v kid,qdK]
   omega
end
abbrev encB:IM Int→List (AVal × AVal):=qk0 qat
theorem qb6 (b:IM Int):qpp (.map (encB b))=[]:=qzC _ (fun _=>rfl) b
theorem qb7 (ρ:Nat→Option Nat) (b:IM Int):qeH ρ (.map (encB b))=.map (encB b):=qzN _ (fun _=>rfl) ρ b
theorem qyI (h:Heap) (r:Nat) (v:Int) (m:IM Int) (hr:h[r]? = some (.map (encB m))):qhS h .int (.int .i64 0) false (.map (some r)) (.int .i64 v)=some (.int .i64 (qdf v m)):=by
 rw[qoh qat h r _ false v m hr]
 unfold qdf
 cases qbu v m<;>rfl
theorem qzZ (h:Heap) (r:Nat) (v x:Int) (m:IM Int) (hr:h[r]? = some (.map (encB m))):qdI h .int (.map (some r)) (.int .i64 v) (.int .i64 x)=some (h.set r (.map (encB (qjf v x m)))) :=
 qAa qat h r v x m rfl hr
section
variable {L:Lib} (hL:Plain L)
def qtc (A:AVal) (kid:CTree) (l:List Int) (K:List AVal) (n k:Nat) (o:IM Unit) (b:IM Int) (j:Nat):St :=
 ⟨kt [0,1,2,7,8,36,37,38,46,47,48] [A,.map (some 0),.map (some 1),qao kid,.list (l.map qat) none,.list K none,.int .i64 n,.int .i64 k,.list (l.map qat) none,.int .i64 l.length,.int .i64 j],[.map (encB b),.map (encU o)]⟩
def qvn (A:AVal) (kid:CTree) (l:List Int) (K:List AVal) (n k:Nat) (o:IM Unit) (b:IM Int):St :=
 ⟨kt [0,1,2,7,8,36,37,38] [A,.map (some 0),.map (some 1),qao kid,.list (l.map qat) none,.list K none,.int .i64 n,.int .i64 k],[.map (encB b),.map (encU o)]⟩
theorem qxm (A:AVal) (hA:qaB A=true) (kid:CTree) (l:List Int) (hl:l.length<2 ^ 30) (K:List AVal) (hK:qaw K=true) (n k:Nat) (o:IM Unit) (b:IM Int) (c:Int) (hc:0≤c) (hc2:c+2 ^ 30<2 ^ 62) (hb:MB 0 c b) :
  qa2 L.pure (call L) 2 [0,1,2,7,8,36,37,38,46,47,48] [0,1,2,7,8,36,37,38] 2 qi3 (qtc A kid l K n k o b 0)=some (.normal,qvn A kid l K n k o (l.foldl (qhD 1) b)):=by
 have hT:=qbO kid
 refine (qdL l (qhD 1) (qtc A kid l K n k o) (qvn A kid l K n k o) (fun b j=>MB 0 (c+(j:Nat)) b) b (by simpa using hb) ?_ ?_).2
 ·intro j hj b hb
  obtain⟨h1,h2,h3⟩:=qaM qat l hl j hj
  refine⟨?_,by have:=hb.up l[j];rw[show c+((j+1:Nat):Int)=c+(j:Nat)+1 by omega];exact this⟩
  generalize l[j]=v at *
  have hv:=hb v
  have w:IntKind.i64.wrap (qdf v b+1)=qdf v b+1:=qb3 (by omega) (by omega)
  have hlk:=fun (h:Heap) (hr:h[0]? = some (.map (encB b)))=>qyI h 0 v b hr
  have hup:=fun (h:Heap) (hr:h[0]? = some (.map (encB b)))=>qzZ h 0 v (qdf v b+1) b hr
  unfold qi3 qtc qhD
  simp -implicitDefEqProofs only[ev_,aOp,opd,qaa,qar,qaA,qaz,qad,qab,qag,qax,ren,renC,qa0,qbb,↓reduceIte,reduceCtorEq,Nat.reduceEqDiff,Nat.reduceAdd,Nat.reduceLT,Nat.reduceLeDiff,qaT,qah,h1,h2,h3,hlk,hup,w,hA,hT,hK,qb6,qb7,qbg,qbh]
 ·intro b _
  have h0:=qaQ l.length
  unfold qi3 qtc qvn
  simp -implicitDefEqProofs only[ev_,aOp,opd,qaa,qaA,qaz,qab,gcE,qax,ren,renC,qa0,qbb,↓reduceIte,reduceCtorEq,Nat.reduceEqDiff,Nat.reduceAdd,Nat.reduceLT,Nat.reduceLeDiff,qah,h0,hA,hT,hK,qb6,qb7,qbg,qbh]
def qtd (A:AVal) (l:List Int) (K:List AVal) (n k:Nat) (o:IM Unit) (b:IM Int) (j:Nat):St :=
 ⟨kt [0,1,2,36,37,38,61,62,63] [A,.map (some 0),.map (some 1),.list K none,.int .i64 n,.int .i64 k,.list (l.map qat) none,.int .i64 l.length,.int .i64 j],[.map (encB b),.map (encU o)]⟩
def qmz (A:AVal) (K:List AVal) (n k:Nat) (o:IM Unit) (b:IM Int):St :=
 ⟨kt [0,1,2,36,37,38] [A,.map (some 0),.map (some 1),.list K none,.int .i64 n,.int .i64 k],[.map (encB b),.map (encU o)]⟩
theorem qxn (A:AVal) (hA:qaB A=true) (l:List Int) (hl:l.length<2 ^ 30) (K:List AVal) (hK:qaw K=true) (n k:Nat) (o:IM Unit) (b:IM Int) (c:Int) (hc:0≤c) (hc2:c<2 ^ 62) (hb:MB 0 c b) :
  qa2 L.pure (call L) 2 [0,1,2,36,37,38,61,62,63] [0,1,2,36,37,38] 4 qi4 (qtd A l K n k o b 0)=some (.normal,qmz A K n k o (l.foldl (qhD (-1)) b)):=by
 refine (qdL l (qhD (-1)) (qtd A l K n k o) (qmz A K n k o) (fun b j=>MB (-(j:Nat)) c b) b (by simpa using hb) ?_ ?_).2
 ·intro j hj b hb
  obtain⟨h1,h2,h3⟩:=qaM qat l hl j hj
  refine⟨?_,by have:=hb.down l[j];rw[show -((j+1:Nat):Int) = -(j:Nat)-1 by omega];exact this⟩
  generalize l[j]=v at *
  have hv:=hb v
  have w:IntKind.i64.wrap (qdf v b-1)=qdf v b + -1:=by rw[qb3 (by omega) (by omega)];rfl
  have hlk:=fun (h:Heap) (hr:h[0]? = some (.map (encB b)))=>qyI h 0 v b hr
  have hup:=fun (h:Heap) (hr:h[0]? = some (.map (encB b)))=>qzZ h 0 v (qdf v b + -1) b hr
  unfold qi4 qtd qhD
  simp -implicitDefEqProofs only[ev_,aOp,opd,qaa,qar,qaA,qaz,qad,qab,qag,qax,ren,renC,qa0,qbb,↓reduceIte,reduceCtorEq,Nat.reduceEqDiff,Nat.reduceAdd,Nat.reduceLT,Nat.reduceLeDiff,Int.reduceNeg,qaT,qah,h1,h2,h3,hlk,hup,w,hA,hK,qb6,qb7,qbg,qbh]
 ·intro b _
  have h0:=qaQ l.length
  unfold qi4 qtd qmz
  simp -implicitDefEqProofs only[ev_,aOp,opd,qaa,qaA,qaz,qab,gcE,qax,ren,renC,qa0,qbb,↓reduceIte,reduceCtorEq,Nat.reduceEqDiff,Nat.reduceAdd,Nat.reduceLT,Nat.reduceLeDiff,h0,hA,hK,qb6,qb7,qbg,qbh]
def qhz (op:Int) (binds:List Int) (alts:List CAlt) (k:Nat) (s:FS) (kid:CTree):FS :=
 ((qcD op binds alts k).foldl (qhD (-1)) (qee kid ((qcD op binds alts k).foldl (qhD 1) s.1,s.2)).1,(qee kid ((qcD op binds alts k).foldl (qhD 1) s.1,s.2)).2)
theorem qj0 (op:Int) (binds:List Int) (alts:List CAlt):∀ (ks:List CTree) (k:Nat) (s:FS),qbx (fun k s kid=>(.ok (qhz op binds alts k s kid):Except Unit FS)) ks k s=.ok (qep op binds alts ks k s)
 | [],k,s=>by rw[qep];rfl
 | kid::ks,k,s=>by rw[qbx,qep];exact qj0 op binds alts ks (k+1) _
theorem qmD (op:Int) (binds:List Int) (alts:List CAlt) (k:Nat) (s:FS) (kid:CTree) (v:Int):qdf v (qhz op binds alts k s kid).1=qdf v s.1:=by
 unfold qhz
 dsimp only
 rw[qdK,qj1 v kid,qdK]
 omega
include hL
theorem qxo (h236:L.fns 236=some fn236) (op n:Int) (binds:List Int) (kids:List CTree) (alts:List CAlt) (hb:(binds++alts.flatMap (·.binds)).length<2 ^ 30) (hk:kids.length<2 ^ 30) (ha:alts.length<2 ^ 30)
  (c:Int) (hc:0≤c) (hc2:c+2 ^ 30<2 ^ 62) (s0:FS) (hs0:MB 0 c s0.1)
  (ih:∀ kid∈kids,∀ (b:IM Int) (o:IM Unit),MB 0 (c+2 ^ 30) b→call L 196 [qao kid,.map (some 0),.map (some 1)] [.map (encB b),.map (encU o)]=some (.val (.tuple []),[.map (encB (qee kid (b,o)).1),.map (encU (qee kid (b,o)).2)])) :
  qa2 L.pure (call L) 2 [0,1,2,36,37,38] [] 0 qi5 (qmz (.vptr [.int .i64 op,.int .i64 n,.list (binds.map qat) none,.list (kids.map qao) none,.list (alts.map qas) none] 0) (kids.map qao) kids.length 0 s0.2 s0.1) =
   some (.normal,⟨kt [] [],[.map (encB (qep op binds alts kids 0 s0).1),.map (encU (qep op binds alts kids 0 s0).2)]⟩):=by
 have hp:=hL.pure
 have hA:qaB (.vptr [.int .i64 op,.int .i64 n,.list (binds.map qat) none,.list (kids.map qao) none,.list (alts.map qas) none] 0)=true:=by
  simp only[qaB,qaw,qah,qan,qbd,Bool.and_self]
 have hK:=qbd kids
 refine ((qch kids (fun k s kid=>(.ok (qhz op binds alts k s kid):Except Unit FS)) (fun s k=>qmz (.vptr [.int .i64 op,.int .i64 n,.list (binds.map qat) none,.list (kids.map qao) none,.list (alts.map qas) none] 0) (kids.map qao) kids.length k s.2 s.1)
  (fun s=>⟨kt [] [],[.map (encB s.1),.map (encU s.2)]⟩) (fun _ _=>False) (fun s _=>MB 0 c s.1) s0 hs0 ?_ ?_ ?_).1 _ (qj0 op binds alts kids 0 s0)).2
 ·intro k hk' s s' hs hq
  injection hq with hq
  subst hq
  refine⟨?_,fun v=>by rw[qmD];exact hs v⟩
  obtain⟨h1,h2,h3⟩:=qaM qao kids hk k hk'
  have hbo:=qu5 hL h236 op n binds (.list (kids.map qao) none) alts ha k (by omega)
  have hbl:=qsO op binds alts k
  have ihk:=ih kids[k] (List.getElem_mem hk')
  unfold qhz
  generalize kids[k]=kid at *
  have hT:=qbO kid
  generalize qcD op binds alts k=l at *
  have hl0:=qxm (L:=L) _ hA kid l (by omega) (kids.map qao) hK kids.length k s.2 s.1 c hc (by omega) hs
  have hup:=MB.ups l hs
  have hup2:MB 0 (c+2 ^ 30) (l.foldl (qhD 1) s.1):=fun v=>⟨(hup v).1,by have:=(hup v).2;omega⟩
  have ihk:=ihk (l.foldl (qhD 1) s.1) s.2 hup2
  have hl1:=qxn (L:=L) _ hA l (by omega) (kids.map qao) hK kids.length k (qee kid (l.foldl (qhD 1) s.1,s.2)).2 (qee kid (l.foldl (qhD 1) s.1,s.2)).1 (c+2 ^ 30) (by omega) (by omega)
   (fun v=>by rw[qj1];exact hup2 v)
  generalize qee kid (l.foldl (qhD 1) s.1,s.2)=r at *
  unfold qtc qvn at hl0
  unfold qtd qmz at hl1
  simp only[Int.natCast_zero] at hl0 hl1
  obtain⟨tc,htc,hdt⟩:=qbz kid
  rw[htc] at ihk hl0 h3 hT
  unfold qi5 qmz
  simp -implicitDefEqProofs only[ev_,aOp,opd,qaa,qaA,qa7,qaz,qad,qab,qag,qax,ren,renC,qa0,qbb,↓reduceIte,reduceCtorEq,Nat.reduceEqDiff,Nat.reduceAdd,Nat.reduceLT,Nat.reduceLeDiff,Int.reduceNeg,qah,qan,h1,h2,h3,hbo,hl0,ihk,hl1,hK,hT,hdt,qb6,qb7,qbg,qbh,qam L hp,hp,qgw,List.range_succ,List.range_zero]
 ·intro k hk' s e hs hq
  cases hq
 ·intro s _
  have h0:=qaQ kids.length
  unfold qi5 qmz
  simp -implicitDefEqProofs only[ev_,aOp,opd,qaa,qaA,qaz,qab,gcE,qax,ren,renC,qa0,qbb,↓reduceIte,reduceCtorEq,Nat.reduceEqDiff,Nat.reduceAdd,h0,hK,qb6,qb7,qbg,qbh]
theorem qxp (h236:L.fns 236=some fn236) (h196:L.fns 196=some fn196):∀ (t:CTree),TFit t→∀ (c:Int) (b:IM Int) (o:IM Unit),0≤c→c+2 ^ 30*(hgt t:Int)<2 ^ 62→MB 0 c b →
  call L 196 [qao t,.map (some 0),.map (some 1)] [.map (encB b),.map (encU o)]=some (.val (.tuple []),[.map (encB (qee t (b,o)).1),.map (encU (qee t (b,o)).2)]):=by
 have hs:L.summ 196=none:=hL.summ 196 (by rw[h196];exact fun hx=>by cases hx)
 intro t
 induction t using CTree.ind with
 | h op n binds kids alts ih =>
   intro hf c b o hc hc2 hb
   cases hf with
   | mk _ _ _ _ _ hbf hkf haf hfk =>
     rw[hgt] at hc2
     have hloop:=qxo hL h236 op n binds kids alts hbf hkf haf c hc (by omega) (qd6 op n (b,o)) (by unfold qd6;split<;>exact hb) (by
      intro kid hkid b' o' hb'
      have hh:=qd7 hkid
      exact ih kid hkid (hfk kid hkid) (c+2 ^ 30) b' o' (by omega) (by omega) hb')
     rw[qee]
     refine qaK hs h196 ?_
     rw[qa5]
     have hK:=qbd kids
     unfold qmz at hloop
     simp only[Int.natCast_zero] at hloop
     have hlk:=fun (h:Heap) (hr:h[0]? = some (.map (encB b)))=>qyI h 0 n b hr
     have hup:=fun (h:Heap) (hr:h[1]? = some (.map (encU o)))=>qAa (fun _:Unit=>AVal.agg []) h 1 n () o rfl hr
     unfold qd6 at hloop ⊢
     by_cases h0:op=0
     ·subst h0
      by_cases hz:qdf n b=0
      ·rw[if_pos ⟨rfl,hz⟩] at hloop ⊢
       dsimp only at hloop
       unfold fn196
       simp -implicitDefEqProofs only[ev_,aOp,opd,qaa,qar,qaA,qa7,qaz,qab,qae,qag,qai,qbP,qap,qac,qaj,qax,ren,renC,qa0,qbb,↓reduceIte,reduceCtorEq,Nat.reduceEqDiff,Nat.reduceAdd,Nat.reduceLT,Nat.reduceLeDiff,qah,qan,hlk,hup,hz,hloop,hK,qb6,qb7,qbg,qbh]
      ·have hz':(qdf n b==0)=false:=by simpa using hz
       rw[if_neg (fun h=>hz h.2)] at hloop ⊢
       dsimp only at hloop
       unfold fn196
       simp -implicitDefEqProofs only[ev_,aOp,opd,qaa,qaA,qa7,qaz,qab,qae,qag,qai,qap,qac,qaj,qax,ren,renC,qa0,qbb,↓reduceIte,reduceCtorEq,Nat.reduceEqDiff,Nat.reduceAdd,Nat.reduceLT,Nat.reduceLeDiff,qah,qan,hlk,hz',hloop,hK,qb6,qb7,qbg,qbh]
     ·have h0':(op==0)=false:=by simpa using h0
      rw[if_neg (fun h=>h0 h.1)] at hloop ⊢
      dsimp only at hloop
      unfold fn196
      simp -implicitDefEqProofs only[ev_,aOp,opd,qaa,qaA,qa7,qaz,qab,qae,qag,qai,qap,qac,qaj,qax,ren,renC,qa0,qbb,↓reduceIte,reduceCtorEq,Nat.reduceEqDiff,Nat.reduceAdd,Nat.reduceLT,Nat.reduceLeDiff,qah,qan,h0',hloop,hK,qb6,qb7,qbg,qbh]
end
def qxu (n:Int):List Int→List Int
 | []=>[n]
 | m::l=>if n≤m then n::m::l else m::qxu n l
def qa3 (l:List Int):List Int:=l.foldr qxu []
theorem qj4 (n:Int):∀ l,(qxu n l).Perm (n::l)
 | []=>.refl _
 | m :: l => by
   unfold qxu
   split
   ·exact .refl _
   ·exact ((qj4 n l).cons m).trans (.swap n m l)
theorem qj5 (n:Int):∀ {l:List Int},l.Pairwise (· ≤ ·)→(qxu n l).Pairwise (· ≤ ·)
 | [],_=>by simp[qxu]
 | m :: l,h => by
   rw[List.pairwise_cons] at h
   unfold qxu
   split
   ·rename_i hnm
    rw[List.pairwise_cons]
    refine⟨fun x hx=>?_,List.pairwise_cons.2 h⟩
    rcases List.mem_cons.1 hx with rfl | hx
    ·exact hnm
    ·have:=h.1 x hx;omega
   ·rw[List.pairwise_cons]
    refine⟨fun x hx=>?_,qj5 n h.2⟩
    rcases List.mem_cons.1 ((qj4 n l).mem_iff.1 hx) with rfl | hx
    ·omega
    ·exact h.1 x hx
theorem qcY:∀ l,(qa3 l).Perm l
 | []=>.refl _
 | n::l=>(qj4 n (qa3 l)).trans ((qcY l).cons n)
theorem qcZ:∀ l,(qa3 l).Pairwise (· ≤ ·)
 | []=>.nil
 | n::l=>qj5 n (qcZ l)
theorem qo0 {a b:List Int} (ha:a.Pairwise (· ≤ ·)) (hb:b.Pairwise (· ≤ ·)) (h:a.Perm b):a=b :=
 List.Perm.eq_of_pairwise (le:=fun x y:Int=>x≤y) (fun x y _ _ h1 h2=>by omega) ha hb h
theorem qlb {a b:List Int} (h:a.Perm b):qa3 a=qa3 b :=
 qo0 (qcZ a) (qcZ b) ((qcY a).trans (h.trans (qcY b).symm))
theorem qea (l:List Int):(qa3 l).length=l.length:=(qcY l).length_eq
theorem qox {α β:Type} (f:α→β):∀ {es:List β} {l:List α},es.Perm (l.map f)→∃ l':List α,l'.Perm l∧es=l'.map f
 | [],l,h => by
   have:=h.symm.eq_nil
   rw[List.map_eq_nil_iff] at this
   exact⟨[],by rw[this],rfl⟩
 | e :: es,l,h => by
   obtain⟨x,hx,rfl⟩:=List.mem_map.1 (h.mem_iff.1 (List.mem_cons_self ..))
   obtain⟨s,t,rfl⟩:=List.append_of_mem hx
   have h1:(f x::es).Perm (f x::(s++t).map f):=by
    refine h.trans ?_
    rw[List.map_append,List.map_cons,List.map_append]
    exact List.perm_middle
   obtain⟨l',h2,rfl⟩:=qox f h1.cons_inv
   exact⟨x::l',(h2.cons x).trans List.perm_middle.symm,rfl⟩
theorem qub {pure:Nat→Bool} {call:CallT} {k:RangeK} {b c:ACode} {s s1:St} {es:List (AVal × AVal)} {r:AExit × St} (hpre:qb8 pure call k.pre s=some (.normal,s1)) (hes:qcu k.str (opd s1.tm k.m) s1.h=some es)
  (hall:∀ es',qcg k.str es es'→qcp (qb8 pure call) k (qaY pure call b) (qaY pure call c) s s1 es'=some r):qaY pure call (.range k b c) s=some r:=by
 rw[qaY,qeB,hpre]
 dsimp only
 rw[hes]
 exact (qcB (qbR _ _)).2 hall
def qeu {β:Type} (m:IM β):List Int:=m.map (·.1)
def qgF (t:CTree):List Int:=qa3 (qeu (qee t ([],[])).2)
def quV (acc:List Int):AVal:=if acc=[] then .list [] (some none) else .vec 3 acc.length
def quU (acc:List Int):Heap:=if acc=[] then [] else [.vec (acc.map qat) 1]
def quT (b:IM Int) (acc:List Int):St:=⟨kt [4,12] [quV acc,.ptr (some (2,0))],[.gone,.map (encB b),.gone]++quU acc⟩
theorem qvF (id n:Nat):qfH (.vec id n)=false:=rfl
theorem qyz:qfH (.list [] (some none))=true:=rfl
theorem qlY (pure:Nat→Bool) (call:CallT) (sz bytes:Nat) (x y:Opd) (tm:Tmps) (h:Heap):qhT pure call (.append sz bytes x y) tm h =
  if qfH (opd tm x)=true then (match qeI h sz (opd tm x) (opd tm y) with | some (v,h')=>some (.val v,h') | none=>none) else aOp pure call (.append sz bytes x y) tm h:=rfl
theorem qgI (pure:Nat→Bool) (call:CallT) (sz:Nat) (ps:List Opd) (tm:Tmps) (h:Heap):qhT pure call (.buildSlice sz ps) tm h=aOp pure call (.buildSlice sz ps) tm h:=rfl
section
variable {L:Lib} (hL:Plain L)
theorem qwe (b:IM Int) (acc:List Int) (hl:acc.length<2 ^ 30) (k:Int) :
  (qbi (qb8 L.pure (call L)) 2 fn167_k0 (qaY L.pure (call L) qgc) (.int .i64 k,.agg []) (quT b acc)).map (fun r=>(r.1,gc 3 fn167_k0.kr r.2))=some (.normal,quT b (acc++[k])):=by
 unfold qbi fn167_k0 qgc quT
 have hall:=qd2 acc
 have hn:acc++[k]≠[]:=by simp
 have e1:quV (acc++[k])=.vec 3 (acc.length+1):=by unfold quV;rw[if_neg hn];simp
 have e2:quU (acc++[k])=[.vec ((acc++[k]).map qat) 1]:=by unfold quU;rw[if_neg hn]
 rw[e1,e2]
 by_cases hz:acc=[]
 ·subst hz
  have e3:quV []=.list [] (some none):=rfl
  have e4:quU []=[]:=rfl
  rw[e3,e4]
  simp -implicitDefEqProofs only[ev_,aOp,opd,qaa,leaf,qax,ren,renC,qa0,qbb,↓reduceIte,Nat.reduceEqDiff,Nat.reduceAdd,Nat.reduceLT,Nat.reduceLeDiff,qaT,qbp,qbK,qqX,qdu,qkG,qlY,qgI,qyz,qeI,qb6,qb7]
 ·have e3:quV acc=.vec 3 acc.length:=by unfold quV;rw[if_neg hz]
  have e4:quU acc=[.vec (acc.map qat) 1]:=by unfold quU;rw[if_neg hz]
  have hle:acc.length+1≤1073741824:=by omega
  rw[e3,e4]
  simp -implicitDefEqProofs only[ev_,aOp,opd,qaa,leaf,qax,ren,renC,qa0,qbb,qbs,↓reduceIte,Nat.reduceEqDiff,Nat.reduceAdd,Nat.reduceLT,Nat.reduceLeDiff,qaT,qbp,qbK,qbT,Nat.mul_one,qqX,qdu,qkG,qlY,qgI,qvF,hle,qb6,qb7]
def qz3 (b:IM Int) (acc:List Int):St:=⟨upd (upd (quT b acc).tm (some 13) (.tuple [.bool false])) (some 14) (.bool false),(quT b acc).h⟩
theorem qzq (b:IM Int) (acc:List Int):qbJ (qb8 L.pure (call L)) 2 fn167_k0 (quT b acc)=some (.normal,qz3 b acc):=by
 unfold qbJ fn167_k0 qz3 quT
 simp -implicitDefEqProofs only[ev_,aOp,opd,qaa,↓reduceIte,Nat.reduceEqDiff,qqX]
theorem qwO (b:IM Int):∀ (o':IM Unit) (acc:List Int) (s:St),acc.length+o'.length<2 ^ 30→gc 3 fn167_k0.kr s=quT b acc →
  qbj (qb8 L.pure (call L)) 2 fn167_k0 (qaY L.pure (call L) qgc) (encU o') s=some (.normal,qz3 b (acc++qeu o'))
 | [],acc,s,_,hs => by
   show qbJ _ 2 fn167_k0 (gc 3 fn167_k0.kr s)=_
   rw[hs]
   have:acc++qeu ([]:IM Unit)=acc:=by simp[qeu]
   rw[this]
   exact qzq b acc
 | e :: o',acc,s,hl,hs => by
   rw[List.length_cons] at hl
   have hr:=qwe (L:=L) b acc (by omega) e.1
   rw[← hs] at hr
   obtain⟨⟨x,s'⟩,h1,h2⟩:=Option.map_eq_some_iff.1 hr
   simp only[Prod.mk.injEq] at h2
   obtain⟨rfl,h2⟩:=h2
   show (match qbi _ 2 fn167_k0 _ (.int .i64 e.1,.agg []) (gc 3 fn167_k0.kr s) with | some (.normal,s')=>qbj _ 2 fn167_k0 _ (encU o') s' | r=>qdu fn167_k0.id r)=_
   rw[h1]
   have:=qwO b o' (acc++[e.1]) s' (by simp;omega) h2
   rw[List.append_assoc] at this
   exact this
include hL
theorem qtp (hP:CPrims L qa3) (h236:L.fns 236=some fn236) (h196:L.fns 196=some fn196) (h167:L.fns 167=some fn167) (t:CTree) (hf:TFit t) (hh:hgt t<2 ^ 30) (hn:(qee t ([],[])).2.length<2 ^ 30) (h:Heap) :
  pcall L 167 [qao t] h=some (.val (.list ((qgF t).map qat) none),h):=by
 have hp:=hL.pure
 have hfree:=qxp hL h236 h196 t hf 0 [] [] (by omega) (by omega) (fun v=>by simp[qdf,qbu])
 refine qaV hL h167 (by rw[qaS];exact qah _) ?_ h
 unfold qgF
 generalize qee t ([],[])=r at *
 obtain⟨b,o⟩:=r
 dsimp only at hfree hn ⊢
 have hrange:∀ (tm:Tmps),tm 3=.map (some 0)→tm 4=.list [] (some none)→qaY L.pure (call L) (.range fn167_k0 qgc qi1) ⟨tm,[.map (encU o),.map (encB b)]⟩ =
   some (.ret,⟨kt [2] [.list ((qa3 (qeu o)).map qat) (if qa3 (qeu o)=[] then some none else none)],[.map (encU o),.map (encB b)]⟩):=by
  intro tm h3 h4
  refine qub (s1:=⟨upd tm (some 11) (.map (some 0)),[.map (encU o),.map (encB b)]⟩) (es:=encU o) ?_ ?_ ?_
  ·unfold fn167_k0
   simp -implicitDefEqProofs only[ev_,aOp,opd,h3]
  ·unfold fn167_k0
   simp -implicitDefEqProofs only[ev_,opd,↓reduceIte,qcu,qoj,h3]
  ·intro es' hes
   have hes':es'.Perm (o.map fun p=>((.int .i64 p.1:AVal),AVal.agg [])):=hes
   obtain⟨o',hpm,rfl⟩:=qox _ hes'
   have hrun:=qwO (L:=L) b o' [] ⟨upd (upd tm (some 11) (.map (some 0))) (some 12) (.ptr (some (2,0))),[.gone,.map (encB b),.gone]⟩ (by rw[List.length_nil,hpm.length_eq];omega) ?_
   ·rw[List.nil_append] at hrun
    have hsort:qa3 (qeu o')=qa3 (qeu o):=qlb (hpm.map _)
    rw[← hsort]
    have hlen:(qeu o').length=o.length:=by unfold qeu;rw[List.length_map,hpm.length_eq]
    generalize qeu o'=ks at *
    unfold qcp
    have hh:qk3 (opd (upd tm (some 11) (.map (some 0))) fn167_k0.m) [.map (encU o),.map (encB b)]=[.gone,.map (encB b),.gone]:=rfl
    have h15:fn167_k0.it=12:=rfl
    dsimp only
    rw[hh,h15]
    simp only[List.length_cons,List.length_nil]
    show Option.map _ (match qbj _ 2 _ _ (encU o') _ with | some (.normal,s2)=>_ | some (e,s2)=>_ | none=>_)=_
    rw[hrun]
    dsimp only
    have hm2:opd (upd tm (some 11) (.map (some 0))) fn167_k0.m=.map (some 0):=rfl
    have hk:fn167_k0.keep=[2]:=rfl
    rw[hm2,hk]
    have hs0:=hP.sort0
    unfold qz3 quT qi1
    by_cases hz:ks=[]
    ·subst hz
     have e3:quV []=.list [] (some none):=rfl
     have e4:quU []=[]:=rfl
     have e5:qa3 []=[]:=rfl
     rw[e3,e4,e5]
     simp -implicitDefEqProofs only[ev_,aOp,opd,gcE,qax,ren,renC,qa0,qbb,↓reduceIte,Nat.reduceEqDiff,Nat.reduceAdd,Nat.reduceLeDiff,qci,hs0,qb6,qb7,qbg,qbh,qam L hp,hp]
    ·have e3:quV ks=.vec 3 ks.length:=by unfold quV;rw[if_neg hz]
     have e4:quU ks=[.vec (ks.map qat) 1]:=by unfold quU;rw[if_neg hz]
     have hs1:=hP.sort ks hz (by omega)
     have hzs:¬ qa3 ks=[]:=fun h=>hz (by have:=qea ks;rw[h] at this;exact List.length_eq_zero_iff.1 this.symm)
     have hsl:=qea ks
     have hdS:=qah (qa3 ks)
     have hwS:((qa3 ks).map qat).map wipeCell=(qa3 ks).map qat:=by rw[List.map_map];rfl
     have hlS:((qa3 ks).map qat).all leaf=true:=by
      rw[List.all_eq_true]
      intro x hx
      obtain⟨y,_,rfl⟩:=List.mem_map.1 hx
      rfl
     generalize qa3 ks=ss at *
     rw[e3,e4]
     simp -implicitDefEqProofs only[ev_,aOp,opd,gcE,qax,ren,renC,qa0,qbb,↓reduceIte,reduceCtorEq,Nat.reduceEqDiff,Nat.reduceAdd,Nat.reduceLT,Nat.reduceLeDiff,frz,frzC,qiT,qry,qbp,qbX,qbK,qbY,qbT,Nat.mul_one,qci,hs1,hsl,hzs,hdS,hwS,hlS,qb6,qb7,qbg,qbh,qam L hp,hp]
   ·unfold quT fn167_k0
    have e3:quV []=.list [] (some none):=rfl
    have e4:quU []=[]:=rfl
    rw[e3,e4]
    simp -implicitDefEqProofs only[ev_,qax,ren,renC,qa0,qbb,↓reduceIte,Nat.reduceEqDiff,Nat.reduceAdd,Nat.reduceLT,Nat.reduceLeDiff,h4,qb6,qb7]
 obtain⟨tc,htc,hdt⟩:=qbz t
 have hn0:encB []=[]:=rfl
 have hn1:encU []=[]:=rfl
 rw[hn0,hn1] at hfree
 rw[htc] at hfree ⊢
 generalize (if qa3 (qeu o)=[] then some none else none:Option (Option Nat))=ow at *
 unfold fn167
 generalize fn167_k0=kk at *
 generalize qgc=bb at *
 generalize qi1=aa at *
 simp -implicitDefEqProofs only[ev_,aOp,opd,qap,qac,qaf,qaj,qax,ren,renC,qa0,qbb,↓reduceIte,reduceCtorEq,Nat.reduceEqDiff,Nat.reduceAdd,Nat.reduceLT,qak,hfree,hrange,hdt,qb6,qb7,qbg,qbh,qam L hp,hp]
end
end Go.Abs
