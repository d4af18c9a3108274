/-
  PARTS OF A PROOF, joined: an abstract machine for quiet code, its evaluation, and what the seat's functions answer on it. Conditions: none.
-/
import Derived.Test.YtpchghpipgpkfaaDoorCJ
set_option linter.unusedVariables false
set_option linter.unusedSimpArgs false
set_option maxRecDepth 100000
set_option maxHeartbeats 4000000
namespace Go.Abs
abbrev FS:=IM Int × IM Unit
def qeb (v:Int) (b:IM Int):Int:=(qbR v b).getD 0
def qgr (d:Int) (b:IM Int) (n:Int):IM Int:=qoV n (qeb n b+d) b
def qd3 (op n:Int) (s:FS):FS:=if op=0∧qeb n s.1=0 then (s.1,qoV n () s.2) else s
mutual
def qd8:CTree→FS→FS
 | .mk op n binds kids alts,s=>qeh op binds alts kids 0 (qd3 op n s)
def qeh (op:Int) (binds:List Int) (alts:List CAlt):List CTree→Nat→FS→FS
 | [],_,s=>s
 | kid :: ks,k,s =>
   qeh op binds alts ks (k+1)
    ((qcw op binds alts k).foldl (qgr (-1)) (qd8 kid ((qcw op binds alts k).foldl (qgr 1) s.1,s.2)).1,(qd8 kid ((qcw op binds alts k).foldl (qgr 1) s.1,s.2)).2)
end
mutual
def hgt:CTree→Nat
 | .mk _ _ _ kids _=>qdv kids+1
def qdv:List CTree→Nat
 | []=>0
 | k::ks=>max (hgt k) (qdv ks)
end
theorem qeN {k:CTree} {ks:List CTree} (h:k∈ks):hgt k≤qdv ks:=by
 induction ks with
 | nil=>cases h
 | cons x xs ih =>
   unfold qdv
   rcases List.mem_cons.1 h with rfl | h
   ·omega
   ·have:=ih h;omega
inductive TFit:CTree→Prop
 | mk (op n:Int) (binds:List Int) (kids:List CTree) (alts:List CAlt) (hb:(binds++alts.flatMap (·.binds)).length<2 ^ 30) (hk:kids.length<2 ^ 30) (ha:alts.length<2 ^ 30) (h:∀ k∈kids,TFit k):TFit (.mk op n binds kids alts)
theorem qiM (alts:List CAlt) {a:CAlt} (h:a∈alts):a.binds.length≤(alts.flatMap (·.binds)).length:=by
 induction alts with
 | nil=>cases h
 | cons x xs ih =>
   rw[List.flatMap_cons,List.length_append]
   rcases List.mem_cons.1 h with rfl | h
   ·omega
   ·have:=ih h;omega
theorem qrB (op:Int) (binds:List Int) (alts:List CAlt) (k:Nat):(qcw op binds alts k).length≤(binds++alts.flatMap (·.binds)).length:=by
 unfold qcw
 rw[List.length_append]
 split
 ·omega
 ·split
  ·split
   ·rename_i a ha
    have:=qiM alts (List.mem_of_getElem? ha)
    omega
   ·simp
  ·simp
theorem qlH (v n x:Int) (b:IM Int):qeb v (qoV n x b)=if v=n then x else qeb v b:=by
 unfold qeb
 rw[qjz]
 split<;>rfl
def MB (lo hi:Int) (b:IM Int):Prop:=∀ v,lo≤qeb v b∧qeb v b≤hi
theorem MB.up {lo hi:Int} {b:IM Int} (h:MB lo hi b) (n:Int):MB lo (hi+1) (qgr 1 b n):=by
 intro v
 unfold qgr
 rw[qlH]
 have h1:=h v
 have h2:=h n
 split<;>omega
theorem MB.down {lo hi:Int} {b:IM Int} (h:MB lo hi b) (n:Int):MB (lo-1) hi (qgr (-1) b n):=by
 intro v
 unfold qgr
 rw[qlH]
 have h1:=h v
 have h2:=h n
 split<;>omega
theorem MB.ups {lo:Int}:∀ (l:List Int) {hi:Int} {b:IM Int},MB lo hi b→MB lo (hi+l.length) (l.foldl (qgr 1) b)
 | [],hi,b,h=>by simpa using h
 | n :: l,hi,b,h => by
   have:=MB.ups l (h.up n)
   rw[List.foldl_cons,List.length_cons]
   rw[show hi+((l.length+1:Nat):Int)=hi+1+l.length by omega]
   exact this
def qyx (v:Int) (l:List Int):Int:=(l.count v:Int)
theorem qcX (d v:Int):∀ (l:List Int) (b:IM Int),qeb v (l.foldl (qgr d) b)=qeb v b+d*qyx v l
 | [],b=>by simp[qyx]
 | n :: l,b => by
   rw[List.foldl_cons,qcX d v l]
   unfold qgr qyx
   rw[qlH,List.count_cons]
   by_cases h:v=n
   ·subst h
    simp
    rw[Int.mul_add]
    omega
   ·have:(n==v)=false:=by simpa using fun e=>h e.symm
    simp[h,this]
mutual
theorem qjI (v:Int):∀ (t:CTree) (s:FS),qeb v (qd8 t s).1=qeb v s.1
 | .mk op n binds kids alts,s => by
   rw[qd8,qkZ v op binds alts kids]
   unfold qd3
   split<;>rfl
theorem qkZ (v op:Int) (binds:List Int) (alts:List CAlt):∀ (ks:List CTree) (k:Nat) (s:FS),qeb v (qeh op binds alts ks k s).1=qeb v s.1
 | [],_,s=>by rw[qeh]
 | kid :: ks,k,s => by
   rw[qeh,qkZ v op binds alts ks,qcX,qjI v kid,qcX]
   omega
end
abbrev encB:IM Int→List (AVal × AVal):=qkz qau
theorem qbZ (b:IM Int):qn8 (.map (encB b))=[]:=qyK _ (fun _=>rfl) b
theorem qb0 (ρ:Nat→Option Nat) (b:IM Int):qex ρ (.map (encB b))=.map (encB b):=qyW _ (fun _=>rfl) ρ b
theorem qqR (h:Heap) (r:Nat) (v:Int) (m:IM Int) (hr:h[r]? = some (.map (encB m))):qhE h .int (.int .i64 0) false (.map (some r)) (.int .i64 v)=some (.int .i64 (qeb v m)):=by
 rw[qqS qau h r _ false v m hr]
 unfold qeb
 cases qbR v m<;>rfl
theorem qzh (h:Heap) (r:Nat) (v x:Int) (m:IM Int) (hr:h[r]? = some (.map (encB m))):qdH h .int (.map (some r)) (.int .i64 v) (.int .i64 x)=some (h.set r (.map (encB (qoV v x m)))) :=
 qzi qau h r v x m rfl hr
section
variable {L:Lib} (hL:Plain L)
def qr7 (A:AVal) (kid:CTree) (l:List Int) (K:List AVal) (n k:Nat) (o:IM Unit) (b:IM Int) (j:Nat):St :=
 ⟨kt [0,1,2,7,8,36,37,38,46,47,48] [A,.map (some 0),.map (some 1),qar kid,.list (l.map qau) none,.list K none,.int .i64 n,.int .i64 k,.list (l.map qau) none,.int .i64 l.length,.int .i64 j],[.map (encB b),.map (encU o)]⟩
def qup (A:AVal) (kid:CTree) (l:List Int) (K:List AVal) (n k:Nat) (o:IM Unit) (b:IM Int):St :=
 ⟨kt [0,1,2,7,8,36,37,38] [A,.map (some 0),.map (some 1),qar kid,.list (l.map qau) none,.list K none,.int .i64 n,.int .i64 k],[.map (encB b),.map (encU o)]⟩
theorem qwt (A:AVal) (hA:qaC A=true) (kid:CTree) (l:List Int) (hl:l.length<2 ^ 30) (K:List AVal) (hK:qaw K=true) (n k:Nat) (o:IM Unit) (b:IM Int) (c:Int) (hc:0≤c) (hc2:c+2 ^ 30<2 ^ 62) (hb:MB 0 c b) :
  qa6 L.pure (call L) 2 [0,1,2,7,8,36,37,38,46,47,48] [0,1,2,7,8,36,37,38] 2 qiP (qr7 A kid l K n k o b 0)=some (.normal,qup A kid l K n k o (l.foldl (qgr 1) b)):=by
 have hT:=qcb kid
 refine (qem l (qgr 1) (qr7 A kid l K n k o) (qup A kid l K n k o) (fun b j=>MB 0 (c+(j:Nat)) b) b (by simpa using hb) ?_ ?_).2
 ·intro j hj b hb
  obtain⟨h1,h2,h3⟩:=qaR qau l hl j hj
  refine⟨?_,by have:=hb.up l[j];rw[show c+((j+1:Nat):Int)=c+(j:Nat)+1 by omega];exact this⟩
  generalize l[j]=v at *
  have hv:=hb v
  have w:IntKind.i64.wrap (qeb v b+1)=qeb v b+1:=qbX (by omega) (by omega)
  have hlk:=fun (h:Heap) (hr:h[0]? = some (.map (encB b)))=>qqR h 0 v b hr
  have hup:=fun (h:Heap) (hr:h[0]? = some (.map (encB b)))=>qzh h 0 v (qeb v b+1) b hr
  unfold qiP qr7 qgr
  simp -implicitDefEqProofs only[ev_,aOp,opd,qaa,qas,qay,qax,qad,qab,qag,qav,ren,renC,qa1,qba,↓reduceIte,reduceCtorEq,Nat.reduceEqDiff,Nat.reduceAdd,Nat.reduceLT,Nat.reduceLeDiff,qa9,qah,h1,h2,h3,hlk,hup,w,hA,hT,hK,qbZ,qb0,qbe,qbf]
 ·intro b _
  have h0:=qaS l.length
  unfold qiP qr7 qup
  simp -implicitDefEqProofs only[ev_,aOp,opd,qaa,qay,qax,qab,gcE,qav,ren,renC,qa1,qba,↓reduceIte,reduceCtorEq,Nat.reduceEqDiff,Nat.reduceAdd,Nat.reduceLT,Nat.reduceLeDiff,qah,h0,hA,hT,hK,qbZ,qb0,qbe,qbf]
def qr8 (A:AVal) (l:List Int) (K:List AVal) (n k:Nat) (o:IM Unit) (b:IM Int) (j:Nat):St :=
 ⟨kt [0,1,2,36,37,38,61,62,63] [A,.map (some 0),.map (some 1),.list K none,.int .i64 n,.int .i64 k,.list (l.map qau) none,.int .i64 l.length,.int .i64 j],[.map (encB b),.map (encU o)]⟩
def qlO (A:AVal) (K:List AVal) (n k:Nat) (o:IM Unit) (b:IM Int):St :=
 ⟨kt [0,1,2,36,37,38] [A,.map (some 0),.map (some 1),.list K none,.int .i64 n,.int .i64 k],[.map (encB b),.map (encU o)]⟩
theorem qwu (A:AVal) (hA:qaC A=true) (l:List Int) (hl:l.length<2 ^ 30) (K:List AVal) (hK:qaw K=true) (n k:Nat) (o:IM Unit) (b:IM Int) (c:Int) (hc:0≤c) (hc2:c<2 ^ 62) (hb:MB 0 c b) :
  qa6 L.pure (call L) 2 [0,1,2,36,37,38,61,62,63] [0,1,2,36,37,38] 4 qiQ (qr8 A l K n k o b 0)=some (.normal,qlO A K n k o (l.foldl (qgr (-1)) b)):=by
 refine (qem l (qgr (-1)) (qr8 A l K n k o) (qlO A K n k o) (fun b j=>MB (-(j:Nat)) c b) b (by simpa using hb) ?_ ?_).2
 ·intro j hj b hb
  obtain⟨h1,h2,h3⟩:=qaR qau l hl j hj
  refine⟨?_,by have:=hb.down l[j];rw[show -((j+1:Nat):Int) = -(j:Nat)-1 by omega];exact this⟩
  generalize l[j]=v at *
  have hv:=hb v
  have w:IntKind.i64.wrap (qeb v b-1)=qeb v b + -1:=by rw[qbX (by omega) (by omega)];rfl
  have hlk:=fun (h:Heap) (hr:h[0]? = some (.map (encB b)))=>qqR h 0 v b hr
  have hup:=fun (h:Heap) (hr:h[0]? = some (.map (encB b)))=>qzh h 0 v (qeb v b + -1) b hr
  unfold qiQ qr8 qgr
  simp -implicitDefEqProofs only[ev_,aOp,opd,qaa,qas,qay,qax,qad,qab,qag,qav,ren,renC,qa1,qba,↓reduceIte,reduceCtorEq,Nat.reduceEqDiff,Nat.reduceAdd,Nat.reduceLT,Nat.reduceLeDiff,Int.reduceNeg,qa9,qah,h1,h2,h3,hlk,hup,w,hA,hK,qbZ,qb0,qbe,qbf]
 ·intro b _
  have h0:=qaS l.length
  unfold qiQ qr8 qlO
  simp -implicitDefEqProofs only[ev_,aOp,opd,qaa,qay,qax,qab,gcE,qav,ren,renC,qa1,qba,↓reduceIte,reduceCtorEq,Nat.reduceEqDiff,Nat.reduceAdd,Nat.reduceLT,Nat.reduceLeDiff,h0,hA,hK,qbZ,qb0,qbe,qbf]
def qhk (op:Int) (binds:List Int) (alts:List CAlt) (k:Nat) (s:FS) (kid:CTree):FS :=
 ((qcw op binds alts k).foldl (qgr (-1)) (qd8 kid ((qcw op binds alts k).foldl (qgr 1) s.1,s.2)).1,(qd8 kid ((qcw op binds alts k).foldl (qgr 1) s.1,s.2)).2)
theorem qjH (op:Int) (binds:List Int) (alts:List CAlt):∀ (ks:List CTree) (k:Nat) (s:FS),qbw (fun k s kid=>(.ok (qhk op binds alts k s kid):Except Unit FS)) ks k s=.ok (qeh op binds alts ks k s)
 | [],k,s=>by rw[qeh];rfl
 | kid::ks,k,s=>by rw[qbw,qeh];exact qjH op binds alts ks (k+1) _
theorem qlS (op:Int) (binds:List Int) (alts:List CAlt) (k:Nat) (s:FS) (kid:CTree) (v:Int):qeb v (qhk op binds alts k s kid).1=qeb v s.1:=by
 unfold qhk
 dsimp only
 rw[qcX,qjI v kid,qcX]
 omega
include hL
theorem qwv (h236:L.fns 236=some fn236) (op n:Int) (binds:List Int) (kids:List CTree) (alts:List CAlt) (hb:(binds++alts.flatMap (·.binds)).length<2 ^ 30) (hk:kids.length<2 ^ 30) (ha:alts.length<2 ^ 30)
  (c:Int) (hc:0≤c) (hc2:c+2 ^ 30<2 ^ 62) (s0:FS) (hs0:MB 0 c s0.1)
  (ih:∀ kid∈kids,∀ (b:IM Int) (o:IM Unit),MB 0 (c+2 ^ 30) b→call L 196 [qar kid,.map (some 0),.map (some 1)] [.map (encB b),.map (encU o)]=some (.val (.tuple []),[.map (encB (qd8 kid (b,o)).1),.map (encU (qd8 kid (b,o)).2)])) :
  qa6 L.pure (call L) 2 [0,1,2,36,37,38] [] 0 qiR (qlO (.vptr [.int .i64 op,.int .i64 n,.list (binds.map qau) none,.list (kids.map qar) none,.list (alts.map qaq) none] 0) (kids.map qar) kids.length 0 s0.2 s0.1) =
   some (.normal,⟨kt [] [],[.map (encB (qeh op binds alts kids 0 s0).1),.map (encU (qeh op binds alts kids 0 s0).2)]⟩):=by
 have hp:=hL.pure
 have hA:qaC (.vptr [.int .i64 op,.int .i64 n,.list (binds.map qau) none,.list (kids.map qar) none,.list (alts.map qaq) none] 0)=true:=by
  simp only[qaC,qaw,qah,qan,qbm,Bool.and_self]
 have hK:=qbm kids
 refine ((qce kids (fun k s kid=>(.ok (qhk op binds alts k s kid):Except Unit FS)) (fun s k=>qlO (.vptr [.int .i64 op,.int .i64 n,.list (binds.map qau) none,.list (kids.map qar) none,.list (alts.map qaq) none] 0) (kids.map qar) kids.length k s.2 s.1)
  (fun s=>⟨kt [] [],[.map (encB s.1),.map (encU s.2)]⟩) (fun _ _=>False) (fun s _=>MB 0 c s.1) s0 hs0 ?_ ?_ ?_).1 _ (qjH op binds alts kids 0 s0)).2
 ·intro k hk' s s' hs hq
  injection hq with hq
  subst hq
  refine⟨?_,fun v=>by rw[qlS];exact hs v⟩
  obtain⟨h1,h2,h3⟩:=qaR qar kids hk k hk'
  have hbo:=qt3 hL h236 op n binds (.list (kids.map qar) none) alts ha k (by omega)
  have hbl:=qrB op binds alts k
  have ihk:=ih kids[k] (List.getElem_mem hk')
  unfold qhk
  generalize kids[k]=kid at *
  have hT:=qcb kid
  generalize qcw op binds alts k=l at *
  have hl0:=qwt (L:=L) _ hA kid l (by omega) (kids.map qar) hK kids.length k s.2 s.1 c hc (by omega) hs
  have hup:=MB.ups l hs
  have hup2:MB 0 (c+2 ^ 30) (l.foldl (qgr 1) s.1):=fun v=>⟨(hup v).1,by have:=(hup v).2;omega⟩
  have ihk:=ihk (l.foldl (qgr 1) s.1) s.2 hup2
  have hl1:=qwu (L:=L) _ hA l (by omega) (kids.map qar) hK kids.length k (qd8 kid (l.foldl (qgr 1) s.1,s.2)).2 (qd8 kid (l.foldl (qgr 1) s.1,s.2)).1 (c+2 ^ 30) (by omega) (by omega)
   (fun v=>by rw[qjI];exact hup2 v)
  generalize qd8 kid (l.foldl (qgr 1) s.1,s.2)=r at *
  unfold qr7 qup at hl0
  unfold qr8 qlO at hl1
  simp only[Int.natCast_zero] at hl0 hl1
  obtain⟨tc,htc,hdt⟩:=qbu kid
  rw[htc] at ihk hl0 h3 hT
  unfold qiR qlO
  simp -implicitDefEqProofs only[ev_,aOp,opd,qaa,qay,qbb,qax,qad,qab,qag,qav,ren,renC,qa1,qba,↓reduceIte,reduceCtorEq,Nat.reduceEqDiff,Nat.reduceAdd,Nat.reduceLT,Nat.reduceLeDiff,Int.reduceNeg,qah,qan,h1,h2,h3,hbo,hl0,ihk,hl1,hK,hT,hdt,qbZ,qb0,qbe,qbf,qal L hp,hp,qbI,List.range_succ,List.range_zero]
 ·intro k hk' s e hs hq
  cases hq
 ·intro s _
  have h0:=qaS kids.length
  unfold qiR qlO
  simp -implicitDefEqProofs only[ev_,aOp,opd,qaa,qay,qax,qab,gcE,qav,ren,renC,qa1,qba,↓reduceIte,reduceCtorEq,Nat.reduceEqDiff,Nat.reduceAdd,h0,hK,qbZ,qb0,qbe,qbf]
theorem qww (h236:L.fns 236=some fn236) (h196:L.fns 196=some fn196):∀ (t:CTree),TFit t→∀ (c:Int) (b:IM Int) (o:IM Unit),0≤c→c+2 ^ 30*(hgt t:Int)<2 ^ 62→MB 0 c b →
  call L 196 [qar t,.map (some 0),.map (some 1)] [.map (encB b),.map (encU o)]=some (.val (.tuple []),[.map (encB (qd8 t (b,o)).1),.map (encU (qd8 t (b,o)).2)]):=by
 have hs:L.summ 196=none:=hL.summ 196 (by rw[h196];exact fun hx=>by cases hx)
 intro t
 induction t using CTree.ind with
 | h op n binds kids alts ih =>
   intro hf c b o hc hc2 hb
   cases hf with
   | mk _ _ _ _ _ hbf hkf haf hfk =>
     rw[hgt] at hc2
     have hloop:=qwv hL h236 op n binds kids alts hbf hkf haf c hc (by omega) (qd3 op n (b,o)) (by unfold qd3;split<;>exact hb) (by
      intro kid hkid b' o' hb'
      have hh:=qeN hkid
      exact ih kid hkid (hfk kid hkid) (c+2 ^ 30) b' o' (by omega) (by omega) hb')
     rw[qd8]
     refine qaD hs h196 ?_
     rw[qbt]
     have hK:=qbm kids
     unfold qlO at hloop
     simp only[Int.natCast_zero] at hloop
     have hlk:=fun (h:Heap) (hr:h[0]? = some (.map (encB b)))=>qqR h 0 n b hr
     have hup:=fun (h:Heap) (hr:h[1]? = some (.map (encU o)))=>qzi (fun _:Unit=>AVal.agg []) h 1 n () o rfl hr
     unfold qd3 at hloop ⊢
     by_cases h0:op=0
     ·subst h0
      by_cases hz:qeb n b=0
      ·rw[if_pos ⟨rfl,hz⟩] at hloop ⊢
       dsimp only at hloop
       unfold fn196
       simp -implicitDefEqProofs only[ev_,aOp,opd,qaa,qas,qay,qbb,qax,qab,qaf,qag,qai,qbS,qao,qac,qaj,qav,ren,renC,qa1,qba,↓reduceIte,reduceCtorEq,Nat.reduceEqDiff,Nat.reduceAdd,Nat.reduceLT,Nat.reduceLeDiff,qah,qan,hlk,hup,hz,hloop,hK,qbZ,qb0,qbe,qbf]
      ·have hz':(qeb n b==0)=false:=by simpa using hz
       rw[if_neg (fun h=>hz h.2)] at hloop ⊢
       dsimp only at hloop
       unfold fn196
       simp -implicitDefEqProofs only[ev_,aOp,opd,qaa,qay,qbb,qax,qab,qaf,qag,qai,qao,qac,qaj,qav,ren,renC,qa1,qba,↓reduceIte,reduceCtorEq,Nat.reduceEqDiff,Nat.reduceAdd,Nat.reduceLT,Nat.reduceLeDiff,qah,qan,hlk,hz',hloop,hK,qbZ,qb0,qbe,qbf]
     ·have h0':(op==0)=false:=by simpa using h0
      rw[if_neg (fun h=>h0 h.1)] at hloop ⊢
      dsimp only at hloop
      unfold fn196
      simp -implicitDefEqProofs only[ev_,aOp,opd,qaa,qay,qbb,qax,qab,qaf,qag,qai,qao,qac,qaj,qav,ren,renC,qa1,qba,↓reduceIte,reduceCtorEq,Nat.reduceEqDiff,Nat.reduceAdd,Nat.reduceLT,Nat.reduceLeDiff,qah,qan,h0',hloop,hK,qbZ,qb0,qbe,qbf]
end
def qwB (n:Int):List Int→List Int
 | []=>[n]
 | m::l=>if n≤m then n::m::l else m::qwB n l
def qa5 (l:List Int):List Int:=l.foldr qwB []
theorem qjM (n:Int):∀ l,(qwB n l).Perm (n::l)
 | []=>.refl _
 | m :: l => by
   unfold qwB
   split
   ·exact .refl _
   ·exact ((qjM n l).cons m).trans (.swap n m l)
theorem qjN (n:Int):∀ {l:List Int},l.Pairwise (· ≤ ·)→(qwB n l).Pairwise (· ≤ ·)
 | [],_=>by simp[qwB]
 | m :: l,h => by
   rw[List.pairwise_cons] at h
   unfold qwB
   split
   ·rename_i hnm
    rw[List.pairwise_cons]
    refine⟨fun x hx=>?_,List.pairwise_cons.2 h⟩
    rcases List.mem_cons.1 hx with rfl | hx
    ·exact hnm
    ·have:=h.1 x hx;omega
   ·rw[List.pairwise_cons]
    refine⟨fun x hx=>?_,qjN n h.2⟩
    rcases List.mem_cons.1 ((qjM n l).mem_iff.1 hx) with rfl | hx
    ·omega
    ·exact h.1 x hx
theorem qcP:∀ l,(qa5 l).Perm l
 | []=>.refl _
 | n::l=>(qjM n (qa5 l)).trans ((qcP l).cons n)
theorem qcQ:∀ l,(qa5 l).Pairwise (· ≤ ·)
 | []=>.nil
 | n::l=>qjN n (qcQ l)
theorem qnM {a b:List Int} (ha:a.Pairwise (· ≤ ·)) (hb:b.Pairwise (· ≤ ·)) (h:a.Perm b):a=b :=
 List.Perm.eq_of_pairwise (le:=fun x y:Int=>x≤y) (fun x y _ _ h1 h2=>by omega) ha hb h
theorem qkJ {a b:List Int} (h:a.Perm b):qa5 a=qa5 b :=
 qnM (qcQ a) (qcQ b) ((qcP a).trans (h.trans (qcP b).symm))
theorem qd5 (l:List Int):(qa5 l).length=l.length:=(qcP l).length_eq
theorem qnt {α β:Type} (f:α→β):∀ {es:List β} {l:List α},es.Perm (l.map f)→∃ l':List α,l'.Perm l∧es=l'.map f
 | [],l,h => by
   have:=h.symm.eq_nil
   rw[List.map_eq_nil_iff] at this
   exact⟨[],by rw[this],rfl⟩
 | e :: es,l,h => by
   obtain⟨x,hx,rfl⟩:=List.mem_map.1 (h.mem_iff.1 (List.mem_cons_self ..))
   obtain⟨s,t,rfl⟩:=List.append_of_mem hx
   have h1:(f x::es).Perm (f x::(s++t).map f):=by
    refine h.trans ?_
    rw[List.map_append,List.map_cons,List.map_append]
    exact List.perm_middle
   obtain⟨l',h2,rfl⟩:=qnt f h1.cons_inv
   exact⟨x::l',(h2.cons x).trans List.perm_middle.symm,rfl⟩
theorem qs6 {pure:Nat→Bool} {call:CallT} {k:RangeK} {b c:ACode} {s s1:St} {es:List (AVal × AVal)} {r:AExit × St} (hpre:qb2 pure call k.pre s=some (.normal,s1)) (hes:qcp k.str (opd s1.tm k.m) s1.h=some es)
  (hall:∀ es',qcc k.str es es'→qcm (qb2 pure call) k (qaW pure call b) (qaW pure call c) s s1 es'=some r):qaW pure call (.range k b c) s=some r:=by
 rw[qaW,qet,hpre]
 dsimp only
 rw[hes]
 exact (qcu (qbK _ _)).2 hall
def qel {β:Type} (m:IM β):List Int:=m.map (·.1)
def qgp (t:CTree):List Int:=qa5 (qel (qd8 t ([],[])).2)
def qtU (acc:List Int):AVal:=if acc=[] then .list [] (some none) else .vec 3 acc.length
def qtT (acc:List Int):Heap:=if acc=[] then [] else [.vec (acc.map qau) 1]
def qtS (b:IM Int) (acc:List Int):St:=⟨kt [4,12] [qtU acc,.ptr (some (2,0))],[.gone,.map (encB b),.gone]++qtT acc⟩
theorem quR (id n:Nat):qfo (.vec id n)=false:=rfl
theorem qxK:qfo (.list [] (some none))=true:=rfl
theorem qlg (pure:Nat→Bool) (call:CallT) (sz bytes:Nat) (x y:Opd) (tm:Tmps) (h:Heap):qiH pure call (.append sz bytes x y) tm h =
  if qfo (opd tm x)=true then (match qey h sz (opd tm x) (opd tm y) with | some (v,h')=>some (.val v,h') | none=>none) else aOp pure call (.append sz bytes x y) tm h:=rfl
theorem qgt (pure:Nat→Bool) (call:CallT) (sz:Nat) (ps:List Opd) (tm:Tmps) (h:Heap):qiH pure call (.buildSlice sz ps) tm h=aOp pure call (.buildSlice sz ps) tm h:=rfl
section
variable {L:Lib} (hL:Plain L)
theorem qvs (b:IM Int) (acc:List Int) (hl:acc.length<2 ^ 30) (k:Int) :
  (qbg (qb2 L.pure (call L)) 2 fn167_k0 (qaW L.pure (call L) qfX) (.int .i64 k,.agg []) (qtS b acc)).map (fun r=>(r.1,gc 3 fn167_k0.kr r.2))=some (.normal,qtS b (acc++[k])):=by
 unfold qbg fn167_k0 qfX qtS
 have hall:=qdw acc
 have hn:acc++[k]≠[]:=by simp
 have e1:qtU (acc++[k])=.vec 3 (acc.length+1):=by unfold qtU;rw[if_neg hn];simp
 have e2:qtT (acc++[k])=[.vec ((acc++[k]).map qau) 1]:=by unfold qtT;rw[if_neg hn]
 rw[e1,e2]
 by_cases hz:acc=[]
 ·subst hz
  have e3:qtU []=.list [] (some none):=rfl
  have e4:qtT []=[]:=rfl
  rw[e3,e4]
  simp -implicitDefEqProofs only[ev_,aOp,opd,qaa,leaf,qav,ren,renC,qa1,qba,↓reduceIte,Nat.reduceEqDiff,Nat.reduceAdd,Nat.reduceLT,Nat.reduceLeDiff,qa9,qbr,qbM,qpK,qdq,qki,qlg,qgt,qxK,qey,qbZ,qb0]
 ·have e3:qtU acc=.vec 3 acc.length:=by unfold qtU;rw[if_neg hz]
  have e4:qtT acc=[.vec (acc.map qau) 1]:=by unfold qtT;rw[if_neg hz]
  have hle:acc.length+1≤1073741824:=by omega
  rw[e3,e4]
  simp -implicitDefEqProofs only[ev_,aOp,opd,qaa,leaf,qav,ren,renC,qa1,qba,qbi,↓reduceIte,Nat.reduceEqDiff,Nat.reduceAdd,Nat.reduceLT,Nat.reduceLeDiff,qa9,qbr,qbM,qbQ,Nat.mul_one,qpK,qdq,qki,qlg,qgt,quR,hle,qbZ,qb0]
def qzc (b:IM Int) (acc:List Int):St:=⟨upd (upd (qtS b acc).tm (some 13) (.tuple [.bool false])) (some 14) (.bool false),(qtS b acc).h⟩
theorem qyz (b:IM Int) (acc:List Int):qbF (qb2 L.pure (call L)) 2 fn167_k0 (qtS b acc)=some (.normal,qzc b acc):=by
 unfold qbF fn167_k0 qzc qtS
 simp -implicitDefEqProofs only[ev_,aOp,opd,qaa,↓reduceIte,Nat.reduceEqDiff,qpK]
theorem qvZ (b:IM Int):∀ (o':IM Unit) (acc:List Int) (s:St),acc.length+o'.length<2 ^ 30→gc 3 fn167_k0.kr s=qtS b acc →
  qbh (qb2 L.pure (call L)) 2 fn167_k0 (qaW L.pure (call L) qfX) (encU o') s=some (.normal,qzc b (acc++qel o'))
 | [],acc,s,_,hs => by
   show qbF _ 2 fn167_k0 (gc 3 fn167_k0.kr s)=_
   rw[hs]
   have:acc++qel ([]:IM Unit)=acc:=by simp[qel]
   rw[this]
   exact qyz b acc
 | e :: o',acc,s,hl,hs => by
   rw[List.length_cons] at hl
   have hr:=qvs (L:=L) b acc (by omega) e.1
   rw[← hs] at hr
   obtain⟨⟨x,s'⟩,h1,h2⟩:=Option.map_eq_some_iff.1 hr
   simp only[Prod.mk.injEq] at h2
   obtain⟨rfl,h2⟩:=h2
   show (match qbg _ 2 fn167_k0 _ (.int .i64 e.1,.agg []) (gc 3 fn167_k0.kr s) with | some (.normal,s')=>qbh _ 2 fn167_k0 _ (encU o') s' | r=>qdq fn167_k0.id r)=_
   rw[h1]
   have:=qvZ b o' (acc++[e.1]) s' (by simp;omega) h2
   rw[List.append_assoc] at this
   exact this
include hL
theorem qsf (hP:CPrims L qa5) (h236:L.fns 236=some fn236) (h196:L.fns 196=some fn196) (h167:L.fns 167=some fn167) (t:CTree) (hf:TFit t) (hh:hgt t<2 ^ 30) (hn:(qd8 t ([],[])).2.length<2 ^ 30) (h:Heap) :
  pcall L 167 [qar t] h=some (.val (.list ((qgp t).map qau) none),h):=by
 have hp:=hL.pure
 have hfree:=qww hL h236 h196 t hf 0 [] [] (by omega) (by omega) (fun v=>by simp[qeb,qbR])
 refine qaY hL h167 (by rw[qaV];exact qah _) ?_ h
 unfold qgp
 generalize qd8 t ([],[])=r at *
 obtain⟨b,o⟩:=r
 dsimp only at hfree hn ⊢
 have hrange:∀ (tm:Tmps),tm 3=.map (some 0)→tm 4=.list [] (some none)→qaW L.pure (call L) (.range fn167_k0 qfX qiN) ⟨tm,[.map (encU o),.map (encB b)]⟩ =
   some (.ret,⟨kt [2] [.list ((qa5 (qel o)).map qau) (if qa5 (qel o)=[] then some none else none)],[.map (encU o),.map (encB b)]⟩):=by
  intro tm h3 h4
  refine qs6 (s1:=⟨upd tm (some 11) (.map (some 0)),[.map (encU o),.map (encB b)]⟩) (es:=encU o) ?_ ?_ ?_
  ·unfold fn167_k0
   simp -implicitDefEqProofs only[ev_,aOp,opd,h3]
  ·unfold fn167_k0
   simp -implicitDefEqProofs only[ev_,opd,↓reduceIte,qcp,qnk,h3]
  ·intro es' hes
   have hes':es'.Perm (o.map fun p=>((.int .i64 p.1:AVal),AVal.agg [])):=hes
   obtain⟨o',hpm,rfl⟩:=qnt _ hes'
   have hrun:=qvZ (L:=L) b o' [] ⟨upd (upd tm (some 11) (.map (some 0))) (some 12) (.ptr (some (2,0))),[.gone,.map (encB b),.gone]⟩ (by rw[List.length_nil,hpm.length_eq];omega) ?_
   ·rw[List.nil_append] at hrun
    have hsort:qa5 (qel o')=qa5 (qel o):=qkJ (hpm.map _)
    rw[← hsort]
    have hlen:(qel o').length=o.length:=by unfold qel;rw[List.length_map,hpm.length_eq]
    generalize qel o'=ks at *
    unfold qcm
    have hh:qkC (opd (upd tm (some 11) (.map (some 0))) fn167_k0.m) [.map (encU o),.map (encB b)]=[.gone,.map (encB b),.gone]:=rfl
    have h15:fn167_k0.it=12:=rfl
    dsimp only
    rw[hh,h15]
    simp only[List.length_cons,List.length_nil]
    show Option.map _ (match qbh _ 2 _ _ (encU o') _ with | some (.normal,s2)=>_ | some (e,s2)=>_ | none=>_)=_
    rw[hrun]
    dsimp only
    have hm2:opd (upd tm (some 11) (.map (some 0))) fn167_k0.m=.map (some 0):=rfl
    have hk:fn167_k0.keep=[2]:=rfl
    rw[hm2,hk]
    have hs0:=hP.sort0
    unfold qzc qtS qiN
    by_cases hz:ks=[]
    ·subst hz
     have e3:qtU []=.list [] (some none):=rfl
     have e4:qtT []=[]:=rfl
     have e5:qa5 []=[]:=rfl
     rw[e3,e4,e5]
     simp -implicitDefEqProofs only[ev_,aOp,opd,gcE,qav,ren,renC,qa1,qba,↓reduceIte,Nat.reduceEqDiff,Nat.reduceAdd,Nat.reduceLeDiff,qcf,hs0,qbZ,qb0,qbe,qbf,qal L hp,hp]
    ·have e3:qtU ks=.vec 3 ks.length:=by unfold qtU;rw[if_neg hz]
     have e4:qtT ks=[.vec (ks.map qau) 1]:=by unfold qtT;rw[if_neg hz]
     have hs1:=hP.sort ks hz (by omega)
     have hzs:¬ qa5 ks=[]:=fun h=>hz (by have:=qd5 ks;rw[h] at this;exact List.length_eq_zero_iff.1 this.symm)
     have hsl:=qd5 ks
     have hdS:=qah (qa5 ks)
     have hwS:((qa5 ks).map qau).map wipeCell=(qa5 ks).map qau:=by rw[List.map_map];rfl
     have hlS:((qa5 ks).map qau).all leaf=true:=by
      rw[List.all_eq_true]
      intro x hx
      obtain⟨y,_,rfl⟩:=List.mem_map.1 hx
      rfl
     generalize qa5 ks=ss at *
     rw[e3,e4]
     simp -implicitDefEqProofs only[ev_,aOp,opd,gcE,qav,ren,renC,qa1,qba,↓reduceIte,reduceCtorEq,Nat.reduceEqDiff,Nat.reduceAdd,Nat.reduceLT,Nat.reduceLeDiff,frz,frzC,qjJ,qvJ,qbr,qb4,qbM,qb5,qbQ,Nat.mul_one,qcf,hs1,hsl,hzs,hdS,hwS,hlS,qbZ,qb0,qbe,qbf,qal L hp,hp]
   ·unfold qtS fn167_k0
    have e3:qtU []=.list [] (some none):=rfl
    have e4:qtT []=[]:=rfl
    rw[e3,e4]
    simp -implicitDefEqProofs only[ev_,qav,ren,renC,qa1,qba,↓reduceIte,Nat.reduceEqDiff,Nat.reduceAdd,Nat.reduceLT,Nat.reduceLeDiff,h4,qbZ,qb0]
 obtain⟨tc,htc,hdt⟩:=qbu t
 have hn0:encB []=[]:=rfl
 have hn1:encU []=[]:=rfl
 rw[hn0,hn1] at hfree
 rw[htc] at hfree ⊢
 generalize (if qa5 (qel o)=[] then some none else none:Option (Option Nat))=ow at *
 unfold fn167
 generalize fn167_k0=kk at *
 generalize qfX=bb at *
 generalize qiN=aa at *
 simp -implicitDefEqProofs only[ev_,aOp,opd,qao,qac,qae,qaj,qav,ren,renC,qa1,qba,↓reduceIte,reduceCtorEq,Nat.reduceEqDiff,Nat.reduceAdd,Nat.reduceLT,qak,hfree,hrange,hdt,qbZ,qb0,qbe,qbf,qal L hp,hp]
end
end Go.Abs
