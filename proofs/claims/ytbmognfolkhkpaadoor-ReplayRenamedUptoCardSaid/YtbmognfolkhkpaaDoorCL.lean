/-
  PARTS OF A PROOF, joined: an abstract machine for quiet code, its evaluation, and what the seat's functions answer on it. Conditions: none.
-/
import Derived.Test.YtbmognfolkhkpaaDoorCJ
set_option linter.unusedVariables false
set_option linter.unusedSimpArgs false
set_option maxRecDepth 100000
set_option maxHeartbeats 4000000
namespace Go.Abs
abbrev FS:=IM Int × IM Unit
def qgH (v:Int) (b:IM Int):Int:=(qce v b).getD 0
def qhF (d:Int) (b:IM Int) (n:Int):IM Int:=qlV n (qgH n b+d) b
def qeb (op n:Int) (s:FS):FS:=if op=0∧qgH n s.1=0 then (s.1,qlV n () s.2) else s
mutual
def qeQ:CTree→FS→FS
 | .mk op n binds kids alts,s=>qeK op binds alts kids 0 (qeb op n s)
def qeK (op:Int) (binds:List Int) (alts:List CAlt):List CTree→Nat→FS→FS
 | [],_,s=>s
 | kid :: ks,k,s =>
   qeK op binds alts ks (k+1)
    ((qcq op binds alts k).foldl (qhF (-1)) (qeQ kid ((qcq op binds alts k).foldl (qhF 1) s.1,s.2)).1,(qeQ kid ((qcq op binds alts k).foldl (qhF 1) s.1,s.2)).2)
end
mutual
def hgt:CTree→Nat
 | .mk _ _ _ kids _=>qrU kids+1
def qrU:List CTree→Nat
 | []=>0
 | k::ks=>max (hgt k) (qrU ks)
end
theorem qiA {k:CTree} {ks:List CTree} (h:k∈ks):hgt k≤qrU ks:=by
 induction ks with
 | nil=>cases h
 | cons x xs ih =>
   unfold qrU
   rcases List.mem_cons.1 h with rfl | h
   ·omega
   ·have:=ih h;omega
inductive TFit:CTree→Prop
 | mk (op n:Int) (binds:List Int) (kids:List CTree) (alts:List CAlt) (hb:(binds++alts.flatMap (·.binds)).length<2 ^ 30) (hk:kids.length<2 ^ 30) (ha:alts.length<2 ^ 30) (h:∀ k∈kids,TFit k):TFit (.mk op n binds kids alts)
theorem qjO (alts:List CAlt) {a:CAlt} (h:a∈alts):a.binds.length≤(alts.flatMap (·.binds)).length:=by
 induction alts with
 | nil=>cases h
 | cons x xs ih =>
   rw[List.flatMap_cons,List.length_append]
   rcases List.mem_cons.1 h with rfl | h
   ·omega
   ·have:=ih h;omega
theorem qrm (op:Int) (binds:List Int) (alts:List CAlt) (k:Nat):(qcq op binds alts k).length≤(binds++alts.flatMap (·.binds)).length:=by
 unfold qcq
 rw[List.length_append]
 split
 ·omega
 ·split
  ·split
   ·rename_i a ha
    have:=qjO alts (List.mem_of_getElem? ha)
    omega
   ·simp
  ·simp
theorem qmh (v n x:Int) (b:IM Int):qgH v (qlV n x b)=if v=n then x else qgH v b:=by
 unfold qgH
 rw[qe8]
 split<;>rfl
def MB (lo hi:Int) (b:IM Int):Prop:=∀ v,lo≤qgH v b∧qgH v b≤hi
theorem MB.up {lo hi:Int} {b:IM Int} (h:MB lo hi b) (n:Int):MB lo (hi+1) (qhF 1 b n):=by
 intro v
 unfold qhF
 rw[qmh]
 have h1:=h v
 have h2:=h n
 split<;>omega
theorem MB.down {lo hi:Int} {b:IM Int} (h:MB lo hi b) (n:Int):MB (lo-1) hi (qhF (-1) b n):=by
 intro v
 unfold qhF
 rw[qmh]
 have h1:=h v
 have h2:=h n
 split<;>omega
theorem MB.ups {lo:Int}:∀ (l:List Int) {hi:Int} {b:IM Int},MB lo hi b→MB lo (hi+l.length) (l.foldl (qhF 1) b)
 | [],hi,b,h=>by simpa using h
 | n :: l,hi,b,h => by
   have:=MB.ups l (h.up n)
   rw[List.foldl_cons,List.length_cons]
   rw[show hi+((l.length+1:Nat):Int)=hi+1+l.length by omega]
   exact this
def qxE (v:Int) (l:List Int):Int:=(l.count v:Int)
theorem qdw (d v:Int):∀ (l:List Int) (b:IM Int),qgH v (l.foldl (qhF d) b)=qgH v b+d*qxE v l
 | [],b=>by simp[qxE]
 | n :: l,b => by
   rw[List.foldl_cons,qdw d v l]
   unfold qhF qxE
   rw[qmh,List.count_cons]
   by_cases h:v=n
   ·subst h
    simp
    rw[Int.mul_add]
    omega
   ·have:(n==v)=false:=by simpa using fun e=>h e.symm
    simp[h,this]
mutual
theorem qiy (v:Int):∀ (t:CTree) (s:FS),qgH v (qeQ t s).1=qgH v s.1
 | .mk op n binds kids alts,s => by
   rw[qeQ,qlD v op binds alts kids]
   unfold qeb
   split<;>rfl
theorem qlD (v op:Int) (binds:List Int) (alts:List CAlt):∀ (ks:List CTree) (k:Nat) (s:FS),qgH v (qeK op binds alts ks k s).1=qgH v s.1
 | [],_,s=>by rw[qeK]
 | kid :: ks,k,s => by
   rw[qeK,qlD v op binds alts ks,qdw,qiy v kid,qdw]
   omega
end
abbrev encB:IM Int→List (AVal × AVal):=qli qaP
theorem qc9 (b:IM Int):qox (.map (encB b))=[]:=qxP _ (fun _=>rfl) b
theorem qda (ρ:Nat→Option Nat) (b:IM Int):qf2 ρ (.map (encB b))=.map (encB b):=qxY _ (fun _=>rfl) ρ b
theorem qw4 (h:Heap) (r:Nat) (v:Int) (m:IM Int) (hr:h[r]? = some (.map (encB m))):qiR h .int (.int .i64 0) false (.map (some r)) (.int .i64 v)=some (.int .i64 (qgH v m)):=by
 rw[qoY qaP h r _ false v m hr]
 unfold qgH
 cases qce v m<;>rfl
theorem qyf (h:Heap) (r:Nat) (v x:Int) (m:IM Int) (hr:h[r]? = some (.map (encB m))):qeY h .int (.map (some r)) (.int .i64 v) (.int .i64 x)=some (h.set r (.map (encB (qlV v x m)))) :=
 qyg qaP h r v x m rfl hr
section
variable {L:Lib} (hL:Plain L)
def qrH (A:AVal) (kid:CTree) (l:List Int) (K:List AVal) (n k:Nat) (o:IM Unit) (b:IM Int) (j:Nat):St :=
 ⟨kt [0,1,2,7,8,36,37,38,46,47,48] [A,.map (some 0),.map (some 1),qaX kid,.list (l.map qaP) none,.list K none,.int .i64 n,.int .i64 k,.list (l.map qaP) none,.int .i64 l.length,.int .i64 j],[.map (encB b),.map (encU o)]⟩
def qtC (A:AVal) (kid:CTree) (l:List Int) (K:List AVal) (n k:Nat) (o:IM Unit) (b:IM Int):St :=
 ⟨kt [0,1,2,7,8,36,37,38] [A,.map (some 0),.map (some 1),qaX kid,.list (l.map qaP) none,.list K none,.int .i64 n,.int .i64 k],[.map (encB b),.map (encU o)]⟩
theorem qvI (A:AVal) (hA:qa2 A=true) (kid:CTree) (l:List Int) (hl:l.length<2 ^ 30) (K:List AVal) (hK:qaZ K=true) (n k:Nat) (o:IM Unit) (b:IM Int) (c:Int) (hc:0≤c) (hc2:c+2 ^ 30<2 ^ 62) (hb:MB 0 c b) :
  qcg L.pure (call L) 2 [0,1,2,7,8,36,37,38,46,47,48] [0,1,2,7,8,36,37,38] 2 qjR (qrH A kid l K n k o b 0)=some (.normal,qtC A kid l K n k o (l.foldl (qhF 1) b)):=by
 have hT:=qgN kid
 refine (qe1 l (qhF 1) (qrH A kid l K n k o) (qtC A kid l K n k o) (fun b j=>MB 0 (c+(j:Nat)) b) b (by simpa using hb) ?_ ?_).2
 ·intro j hj b hb
  obtain⟨h1,h2,h3⟩:=qbE qaP l hl j hj
  refine⟨?_,by have:=hb.up l[j];rw[show c+((j+1:Nat):Int)=c+(j:Nat)+1 by omega];exact this⟩
  generalize l[j]=v at *
  have hv:=hb v
  have w:IntKind.i64.wrap (qgH v b+1)=qgH v b+1:=qd3 (by omega) (by omega)
  have hlk:=fun (h:Heap) (hr:h[0]? = some (.map (encB b)))=>qw4 h 0 v b hr
  have hup:=fun (h:Heap) (hr:h[0]? = some (.map (encB b)))=>qyf h 0 v (qgH v b+1) b hr
  unfold qjR qrH qhF
  simp -implicitDefEqProofs only[qaq,qad,qae,qaf,qao,qab,qah,aOp,opd,qai,qa1,qav,qag,qaV,qbh,qbg,qaE,qaj,qaF,qaW,qaS,qac,qay,qam,qat,qaz,qaU,ren,renC,qbW,qca,qaa,qal,qbv,List.map_cons,List.map_nil,List.flatMap_cons,List.flatMap_nil,List.length_cons,List.length_nil,List.cons_append,List.nil_append,List.append_nil,List.getElem?_cons_zero,List.set_cons_zero,List.take_succ_cons,List.take_nil,List.not_mem_nil,↓reduceIte,Bool.false_eq_true,and_true,not_false_eq_true,decide_true,decide_false,Nat.le_refl,reduceCtorEq,Nat.zero_add,Nat.reduceEqDiff,Nat.reduceAdd,Nat.reduceLT,Nat.reduceLeDiff,Int.toNat_natCast,Int.natCast_nonneg,qau,qaQ,qb0,qar,h1,h2,h3,hlk,hup,w,hA,hT,hK,qc9,qda,qb7,qb8]
 ·intro b _
  have h0:=qbF l.length
  unfold qjR qrH qtC
  simp -implicitDefEqProofs only[qad,qae,qaf,qbl,qab,qah,aOp,opd,qai,qav,qag,qbh,qbg,qaj,gcE,qaS,qac,qay,qam,qat,qaz,qaU,ren,renC,qbW,qca,qaa,qal,qbv,List.map_cons,List.map_nil,List.flatMap_cons,List.flatMap_nil,List.length_cons,List.length_nil,List.cons_append,List.nil_append,List.append_nil,List.take_succ_cons,List.take_nil,List.not_mem_nil,↓reduceIte,Bool.false_eq_true,and_true,not_false_eq_true,decide_false,Nat.le_refl,reduceCtorEq,Nat.zero_add,Nat.reduceEqDiff,Nat.reduceAdd,Nat.reduceLT,Nat.reduceLeDiff,qau,qaQ,qar,h0,hA,hT,hK,qc9,qda,qb7,qb8]
def qrI (A:AVal) (l:List Int) (K:List AVal) (n k:Nat) (o:IM Unit) (b:IM Int) (j:Nat):St :=
 ⟨kt [0,1,2,36,37,38,61,62,63] [A,.map (some 0),.map (some 1),.list K none,.int .i64 n,.int .i64 k,.list (l.map qaP) none,.int .i64 l.length,.int .i64 j],[.map (encB b),.map (encU o)]⟩
def qmp (A:AVal) (K:List AVal) (n k:Nat) (o:IM Unit) (b:IM Int):St :=
 ⟨kt [0,1,2,36,37,38] [A,.map (some 0),.map (some 1),.list K none,.int .i64 n,.int .i64 k],[.map (encB b),.map (encU o)]⟩
theorem qvJ (A:AVal) (hA:qa2 A=true) (l:List Int) (hl:l.length<2 ^ 30) (K:List AVal) (hK:qaZ K=true) (n k:Nat) (o:IM Unit) (b:IM Int) (c:Int) (hc:0≤c) (hc2:c<2 ^ 62) (hb:MB 0 c b) :
  qcg L.pure (call L) 2 [0,1,2,36,37,38,61,62,63] [0,1,2,36,37,38] 4 qjS (qrI A l K n k o b 0)=some (.normal,qmp A K n k o (l.foldl (qhF (-1)) b)):=by
 refine (qe1 l (qhF (-1)) (qrI A l K n k o) (qmp A K n k o) (fun b j=>MB (-(j:Nat)) c b) b (by simpa using hb) ?_ ?_).2
 ·intro j hj b hb
  obtain⟨h1,h2,h3⟩:=qbE qaP l hl j hj
  refine⟨?_,by have:=hb.down l[j];rw[show -((j+1:Nat):Int) = -(j:Nat)-1 by omega];exact this⟩
  generalize l[j]=v at *
  have hv:=hb v
  have w:IntKind.i64.wrap (qgH v b-1)=qgH v b + -1:=by rw[qd3 (by omega) (by omega)];rfl
  have hlk:=fun (h:Heap) (hr:h[0]? = some (.map (encB b)))=>qw4 h 0 v b hr
  have hup:=fun (h:Heap) (hr:h[0]? = some (.map (encB b)))=>qyf h 0 v (qgH v b + -1) b hr
  unfold qjS qrI qhF
  simp -implicitDefEqProofs only[qaq,qad,qae,qaf,qao,qab,qah,aOp,opd,qai,qa1,qav,qag,qaV,qbh,qbg,qaE,qaj,qaF,qaW,qaS,qac,qay,qam,qat,qaz,qaU,ren,renC,qbW,qca,qaa,qal,qbv,List.map_cons,List.map_nil,List.flatMap_cons,List.flatMap_nil,List.length_cons,List.length_nil,List.cons_append,List.nil_append,List.append_nil,List.getElem?_cons_zero,List.set_cons_zero,List.take_succ_cons,List.take_nil,List.not_mem_nil,↓reduceIte,Bool.false_eq_true,and_true,not_false_eq_true,decide_true,decide_false,Nat.le_refl,reduceCtorEq,Nat.zero_add,Nat.reduceEqDiff,Nat.reduceAdd,Nat.reduceLT,Nat.reduceLeDiff,Int.toNat_natCast,Int.natCast_nonneg,qau,Int.reduceNeg,qaQ,qb0,qar,h1,h2,h3,hlk,hup,w,hA,hK,qc9,qda,qb7,qb8]
 ·intro b _
  have h0:=qbF l.length
  unfold qjS qrI qmp
  simp -implicitDefEqProofs only[qad,qae,qaf,qbl,qab,qah,aOp,opd,qai,qav,qag,qbh,qbg,qaj,gcE,qaS,qac,qay,qam,qat,qaz,qaU,ren,renC,qbW,qca,qaa,qal,qbv,List.map_cons,List.map_nil,List.flatMap_cons,List.flatMap_nil,List.length_cons,List.length_nil,List.cons_append,List.nil_append,List.append_nil,List.take_succ_cons,List.take_nil,List.not_mem_nil,↓reduceIte,Bool.false_eq_true,and_true,not_false_eq_true,decide_false,Nat.le_refl,reduceCtorEq,Nat.zero_add,Nat.reduceEqDiff,Nat.reduceAdd,Nat.reduceLT,Nat.reduceLeDiff,qau,qaQ,h0,hA,hK,qc9,qda,qb7,qb8]
def qix (op:Int) (binds:List Int) (alts:List CAlt) (k:Nat) (s:FS) (kid:CTree):FS :=
 ((qcq op binds alts k).foldl (qhF (-1)) (qeQ kid ((qcq op binds alts k).foldl (qhF 1) s.1,s.2)).1,(qeQ kid ((qcq op binds alts k).foldl (qhF 1) s.1,s.2)).2)
theorem qkB (op:Int) (binds:List Int) (alts:List CAlt):∀ (ks:List CTree) (k:Nat) (s:FS),qcr (fun k s kid=>(.ok (qix op binds alts k s kid):Except Unit FS)) ks k s=.ok (qeK op binds alts ks k s)
 | [],k,s=>by rw[qeK];rfl
 | kid::ks,k,s=>by rw[qcr,qeK];exact qkB op binds alts ks (k+1) _
theorem qmt (op:Int) (binds:List Int) (alts:List CAlt) (k:Nat) (s:FS) (kid:CTree) (v:Int):qgH v (qix op binds alts k s kid).1=qgH v s.1:=by
 unfold qix
 dsimp only
 rw[qdw,qiy v kid,qdw]
 omega
include hL
theorem qvK (h236:L.fns 236=some fn236) (op n:Int) (binds:List Int) (kids:List CTree) (alts:List CAlt) (hb:(binds++alts.flatMap (·.binds)).length<2 ^ 30) (hk:kids.length<2 ^ 30) (ha:alts.length<2 ^ 30)
  (c:Int) (hc:0≤c) (hc2:c+2 ^ 30<2 ^ 62) (s0:FS) (hs0:MB 0 c s0.1)
  (ih:∀ kid∈kids,∀ (b:IM Int) (o:IM Unit),MB 0 (c+2 ^ 30) b→call L 196 [qaX kid,.map (some 0),.map (some 1)] [.map (encB b),.map (encU o)]=some (.val (.tuple []),[.map (encB (qeQ kid (b,o)).1),.map (encU (qeQ kid (b,o)).2)])) :
  qcg L.pure (call L) 2 [0,1,2,36,37,38] [] 0 qjT (qmp (.vptr [.int .i64 op,.int .i64 n,.list (binds.map qaP) none,.list (kids.map qaX) none,.list (alts.map qaM) none] 0) (kids.map qaX) kids.length 0 s0.2 s0.1) =
   some (.normal,⟨kt [] [],[.map (encB (qeK op binds alts kids 0 s0).1),.map (encU (qeK op binds alts kids 0 s0).2)]⟩):=by
 have hp:=hL.pure
 have hA:qa2 (.vptr [.int .i64 op,.int .i64 n,.list (binds.map qaP) none,.list (kids.map qaX) none,.list (alts.map qaM) none] 0)=true:=by
  simp only[qa2,qaZ,qar,qaG,qcV,Bool.and_self]
 have hK:=qcV kids
 refine ((qds kids (fun k s kid=>(.ok (qix op binds alts k s kid):Except Unit FS)) (fun s k=>qmp (.vptr [.int .i64 op,.int .i64 n,.list (binds.map qaP) none,.list (kids.map qaX) none,.list (alts.map qaM) none] 0) (kids.map qaX) kids.length k s.2 s.1)
  (fun s=>⟨kt [] [],[.map (encB s.1),.map (encU s.2)]⟩) (fun _ _=>False) (fun s _=>MB 0 c s.1) s0 hs0 ?_ ?_ ?_).1 _ (qkB op binds alts kids 0 s0)).2
 ·intro k hk' s s' hs hq
  injection hq with hq
  subst hq
  refine⟨?_,fun v=>by rw[qmt];exact hs v⟩
  obtain⟨h1,h2,h3⟩:=qbE qaX kids hk k hk'
  have hbo:=qtk hL h236 op n binds (.list (kids.map qaX) none) alts ha k (by omega)
  have hbl:=qrm op binds alts k
  have ihk:=ih kids[k] (List.getElem_mem hk')
  unfold qix
  generalize kids[k]=kid at *
  have hT:=qgN kid
  generalize qcq op binds alts k=l at *
  have hl0:=qvI (L:=L) _ hA kid l (by omega) (kids.map qaX) hK kids.length k s.2 s.1 c hc (by omega) hs
  have hup:=MB.ups l hs
  have hup2:MB 0 (c+2 ^ 30) (l.foldl (qhF 1) s.1):=fun v=>⟨(hup v).1,by have:=(hup v).2;omega⟩
  have ihk:=ihk (l.foldl (qhF 1) s.1) s.2 hup2
  have hl1:=qvJ (L:=L) _ hA l (by omega) (kids.map qaX) hK kids.length k (qeQ kid (l.foldl (qhF 1) s.1,s.2)).2 (qeQ kid (l.foldl (qhF 1) s.1,s.2)).1 (c+2 ^ 30) (by omega) (by omega)
   (fun v=>by rw[qiy];exact hup2 v)
  generalize qeQ kid (l.foldl (qhF 1) s.1,s.2)=r at *
  unfold qrH qtC at hl0
  unfold qrI qmp at hl1
  simp only[Int.natCast_zero] at hl0 hl1
  obtain⟨tc,htc,hdt⟩:=qc0 kid
  rw[htc] at ihk hl0 h3 hT
  unfold qjT qmp
  simp -implicitDefEqProofs only[qaq,qad,qae,qaf,qao,qab,qah,aOp,opd,qai,qav,qag,qbh,qco,qbg,qaE,qaj,qaF,qdm,qaL,qaS,qac,qay,qam,qat,qaz,qaU,ren,renC,qbW,qca,qby,qbS,qiQ,qaa,qal,qfs,qaN,qbv,qap,qak,Option.getD_some,List.map_cons,List.map_nil,List.flatMap_cons,List.flatMap_nil,List.length_cons,List.length_nil,List.length_map,List.cons_append,List.nil_append,List.append_nil,List.getElem?_cons_zero,List.getElem?_cons_succ,List.take_succ_cons,List.take_nil,List.all_cons,List.all_nil,List.mem_cons,List.not_mem_nil,↓reduceIte,Bool.and_true,Bool.and_false,Bool.false_eq_true,and_true,or_false,not_false_eq_true,decide_true,decide_false,and_self,Nat.le_refl,Nat.zero_le,reduceCtorEq,Nat.zero_add,Nat.reduceEqDiff,Nat.reduceAdd,Nat.reduceLT,Nat.reduceLeDiff,Int.toNat_natCast,Int.natCast_nonneg,qau,Int.reduceNeg,qaQ,qee,qcX,qe9,qcY,qdt,qcW,qgV,qed,qcC,qar,qaG,h1,h2,h3,hbo,hl0,ihk,hl1,hK,hT,hdt,qc9,qda,qb7,qb8,qaJ L hp,hp,qdE,List.range_succ,List.range_zero]
 ·intro k hk' s e hs hq
  cases hq
 ·intro s _
  have h0:=qbF kids.length
  unfold qjT qmp
  simp -implicitDefEqProofs only[qad,qae,qaf,qbl,qab,qah,aOp,opd,qai,qav,qag,qbh,qbg,qaj,gcE,qaS,qqB,qay,qam,qaz,qaU,ren,renC,qbW,qca,List.map_cons,List.map_nil,List.flatMap_cons,List.flatMap_nil,List.length_cons,List.length_nil,List.append_nil,List.take_succ_cons,List.take_nil,↓reduceIte,Bool.false_eq_true,decide_false,Nat.le_refl,reduceCtorEq,Nat.zero_add,Nat.reduceEqDiff,Nat.reduceAdd,qau,qaQ,h0,hK,qc9,qda,qb7,qb8]
theorem qvL (h236:L.fns 236=some fn236) (h196:L.fns 196=some fn196):∀ (t:CTree),TFit t→∀ (c:Int) (b:IM Int) (o:IM Unit),0≤c→c+2 ^ 30*(hgt t:Int)<2 ^ 62→MB 0 c b →
  call L 196 [qaX t,.map (some 0),.map (some 1)] [.map (encB b),.map (encU o)]=some (.val (.tuple []),[.map (encB (qeQ t (b,o)).1),.map (encU (qeQ t (b,o)).2)]):=by
 have hs:L.summ 196=none:=hL.summ 196 (by rw[h196];exact fun hx=>by cases hx)
 intro t
 induction t using CTree.ind with
 | h op n binds kids alts ih =>
   intro hf c b o hc hc2 hb
   cases hf with
   | mk _ _ _ _ _ hbf hkf haf hfk =>
     rw[hgt] at hc2
     have hloop:=qvK hL h236 op n binds kids alts hbf hkf haf c hc (by omega) (qeb op n (b,o)) (by unfold qeb;split<;>exact hb) (by
      intro kid hkid b' o' hb'
      have hh:=qiA hkid
      exact ih kid hkid (hfk kid hkid) (c+2 ^ 30) b' o' (by omega) (by omega) hb')
     rw[qeQ]
     refine qd6 hs h196 ?_
     rw[qc6]
     have hK:=qcV kids
     unfold qmp at hloop
     simp only[Int.natCast_zero] at hloop
     have hlk:=fun (h:Heap) (hr:h[0]? = some (.map (encB b)))=>qw4 h 0 n b hr
     have hup:=fun (h:Heap) (hr:h[1]? = some (.map (encU o)))=>qyg (fun _:Unit=>AVal.agg []) h 1 n () o rfl hr
     unfold qeb at hloop ⊢
     by_cases h0:op=0
     ·subst h0
      by_cases hz:qgH n b=0
      ·rw[if_pos ⟨rfl,hz⟩] at hloop ⊢
       dsimp only at hloop
       unfold fn196
       simp -implicitDefEqProofs only[qad,qae,qaf,qab,qaC,qah,aOp,opd,qai,qa1,qan,qag,qaV,qbh,qco,qbg,qaj,qaA,qaF,qaK,qeA,qaR,qas,qaI,qaL,qaS,qac,qay,qam,qat,qaz,qaU,ren,renC,qbW,qca,qaa,qal,qaN,qbv,qap,qak,beq_self_eq_true,Option.map_some,Option.getD_some,List.map_cons,List.map_nil,List.flatMap_cons,List.flatMap_nil,List.length_cons,List.length_nil,List.length_map,List.cons_append,List.nil_append,List.append_nil,List.getElem?_cons_zero,List.getElem?_cons_succ,List.set_cons_zero,List.set_cons_succ,List.take_succ_cons,List.take_nil,List.not_mem_nil,↓reduceIte,Bool.and_true,Bool.false_eq_true,and_true,not_false_eq_true,decide_false,Nat.le_refl,reduceCtorEq,Nat.add_zero,Nat.zero_add,Nat.reduceEqDiff,Nat.reduceAdd,Nat.reduceLT,Nat.reduceLeDiff,qar,qaG,hlk,hup,hz,hloop,hK,qc9,qda,qb7,qb8]
      ·have hz':(qgH n b==0)=false:=by simpa using hz
       rw[if_neg (fun h=>hz h.2)] at hloop ⊢
       dsimp only at hloop
       unfold fn196
       simp -implicitDefEqProofs only[qaq,qad,qae,qaf,qab,qaC,qah,aOp,opd,qai,qan,qag,qbh,qco,qbg,qaj,qaA,qaF,qaK,qaR,qas,qaI,qaL,qaS,qac,qay,qam,qat,qaz,qaU,ren,renC,qbW,qca,qaa,qal,qaN,qbv,qap,qak,beq_self_eq_true,Option.getD_some,List.map_cons,List.map_nil,List.flatMap_cons,List.flatMap_nil,List.length_cons,List.length_nil,List.length_map,List.cons_append,List.nil_append,List.append_nil,List.getElem?_cons_zero,List.getElem?_cons_succ,List.take_succ_cons,List.take_nil,List.not_mem_nil,↓reduceIte,Bool.and_true,Bool.false_eq_true,and_true,not_false_eq_true,decide_false,Nat.le_refl,reduceCtorEq,Nat.add_zero,Nat.zero_add,Nat.reduceEqDiff,Nat.reduceAdd,Nat.reduceLT,Nat.reduceLeDiff,qar,qaG,hlk,hz',hloop,hK,qc9,qda,qb7,qb8]
     ·have h0':(op==0)=false:=by simpa using h0
      rw[if_neg (fun h=>h0 h.1)] at hloop ⊢
      dsimp only at hloop
      unfold fn196
      simp -implicitDefEqProofs only[qaq,qad,qae,qaf,qab,qaC,qah,aOp,opd,qai,qan,qag,qbh,qco,qbg,qaj,qaA,qaF,qaK,qaR,qas,qaI,qaL,qaS,qac,qay,qam,qat,qaz,qaU,ren,renC,qbW,qca,qaa,qal,qaN,qbv,qap,qak,qcI,Option.getD_some,List.map_cons,List.map_nil,List.flatMap_cons,List.flatMap_nil,List.length_cons,List.length_nil,List.length_map,List.cons_append,List.nil_append,List.append_nil,List.getElem?_cons_zero,List.getElem?_cons_succ,List.take_succ_cons,List.take_nil,List.not_mem_nil,↓reduceIte,Bool.and_true,Bool.false_eq_true,and_true,not_false_eq_true,decide_false,Nat.le_refl,reduceCtorEq,Nat.add_zero,Nat.zero_add,Nat.reduceEqDiff,Nat.reduceAdd,Nat.reduceLT,Nat.reduceLeDiff,qar,qaG,h0',hloop,hK,qc9,qda,qb7,qb8]
end
def qvO (n:Int):List Int→List Int
 | []=>[n]
 | m::l=>if n≤m then n::m::l else m::qvO n l
def qb4 (l:List Int):List Int:=l.foldr qvO []
theorem qkE (n:Int):∀ l,(qvO n l).Perm (n::l)
 | []=>.refl _
 | m :: l => by
   unfold qvO
   split
   ·exact .refl _
   ·exact ((qkE n l).cons m).trans (.swap n m l)
theorem qkF (n:Int):∀ {l:List Int},l.Pairwise (· ≤ ·)→(qvO n l).Pairwise (· ≤ ·)
 | [],_=>by simp[qvO]
 | m :: l,h => by
   rw[List.pairwise_cons] at h
   unfold qvO
   split
   ·rename_i hnm
    rw[List.pairwise_cons]
    refine⟨fun x hx=>?_,List.pairwise_cons.2 h⟩
    rcases List.mem_cons.1 hx with rfl | hx
    ·exact hnm
    ·have:=h.1 x hx;omega
   ·rw[List.pairwise_cons]
    refine⟨fun x hx=>?_,qkF n h.2⟩
    rcases List.mem_cons.1 ((qkE n l).mem_iff.1 hx) with rfl | hx
    ·omega
    ·exact h.1 x hx
theorem qc3:∀ l,(qb4 l).Perm l
 | []=>.refl _
 | n::l=>(qkE n (qb4 l)).trans ((qc3 l).cons n)
theorem qdu:∀ l,(qb4 l).Pairwise (· ≤ ·)
 | []=>.nil
 | n::l=>qkF n (qdu l)
theorem qk2 {a b:List Int} (ha:a.Pairwise (· ≤ ·)) (hb:b.Pairwise (· ≤ ·)) (h:a.Perm b):a=b :=
 List.Perm.eq_of_pairwise (le:=fun x y:Int=>x≤y) (fun x y _ _ h1 h2=>by omega) ha hb h
theorem qlq {a b:List Int} (h:a.Perm b):qb4 a=qb4 b :=
 qk2 (qdu a) (qdu b) ((qc3 a).trans (h.trans (qc3 b).symm))
theorem qfu (l:List Int):(qb4 l).length=l.length:=(qc3 l).length_eq
theorem qnU {α β:Type} (f:α→β):∀ {es:List β} {l:List α},es.Perm (l.map f)→∃ l':List α,l'.Perm l∧es=l'.map f
 | [],l,h => by
   have:=h.symm.eq_nil
   rw[List.map_eq_nil_iff] at this
   exact⟨[],by rw[this],rfl⟩
 | e :: es,l,h => by
   obtain⟨x,hx,rfl⟩:=List.mem_map.1 (h.mem_iff.1 (List.mem_cons_self ..))
   obtain⟨s,t,rfl⟩:=List.append_of_mem hx
   have h1:(f x::es).Perm (f x::(s++t).map f):=by
    refine h.trans ?_
    rw[List.map_append,List.map_cons,List.map_append]
    exact List.perm_middle
   obtain⟨l',h2,rfl⟩:=qnU f h1.cons_inv
   exact⟨x::l',(h2.cons x).trans List.perm_middle.symm,rfl⟩
theorem qss {pure:Nat→Bool} {call:CallT} {k:RangeK} {b c:ACode} {s s1:St} {es:List (AVal × AVal)} {r:AExit × St} (hpre:qdc pure call k.pre s=some (.normal,s1)) (hes:qdJ k.str (opd s1.tm k.m) s1.h=some es)
  (hall:∀ es',qdr k.str es es'→qdA (qdc pure call) k (qbJ pure call b) (qbJ pure call c) s s1 es'=some r):qbJ pure call (.range k b c) s=some r:=by
 rw[qbJ,qfT,hpre]
 dsimp only
 rw[hes]
 exact (qdP (qcK _ _)).2 hall
def qdh {β:Type} (m:IM β):List Int:=m.map (·.1)
def qeL (t:CTree):List Int:=qb4 (qdh (qeQ t ([],[])).2)
def qta (acc:List Int):AVal:=if acc=[] then .list [] (some none) else .vec 3 acc.length
def qs9 (acc:List Int):Heap:=if acc=[] then [] else [.vec (acc.map qaP) 1]
def qs8 (b:IM Int) (acc:List Int):St:=⟨kt [4,12] [qta acc,.ptr (some (2,0))],[.gone,.map (encB b),.gone]++qs9 acc⟩
theorem qt8 (id n:Nat):qgS (.vec id n)=false:=rfl
theorem qwX:qgS (.list [] (some none))=true:=rfl
theorem qlR (pure:Nat→Bool) (call:CallT) (sz bytes:Nat) (x y:Opd) (tm:Tmps) (h:Heap):qj7 pure call (.append sz bytes x y) tm h =
  if qgS (opd tm x)=true then (match qf3 h sz (opd tm x) (opd tm y) with | some (v,h')=>some (.val v,h') | none=>none) else aOp pure call (.append sz bytes x y) tm h:=rfl
theorem qhG (pure:Nat→Bool) (call:CallT) (sz:Nat) (ps:List Opd) (tm:Tmps) (h:Heap):qj7 pure call (.buildSlice sz ps) tm h=aOp pure call (.buildSlice sz ps) tm h:=rfl
section
variable {L:Lib} (hL:Plain L)
theorem quO (b:IM Int) (acc:List Int) (hl:acc.length<2 ^ 30) (k:Int) :
  (qb9 (qdc L.pure (call L)) 2 fn167_k0 (qbJ L.pure (call L) qhj) (.int .i64 k,.agg []) (qs8 b acc)).map (fun r=>(r.1,gc 3 fn167_k0.kr r.2))=some (.normal,qs8 b (acc++[k])):=by
 unfold qb9 fn167_k0 qhj qs8
 have hall:=qet acc
 have hn:acc++[k]≠[]:=by simp
 have e1:qta (acc++[k])=.vec 3 (acc.length+1):=by unfold qta;rw[if_neg hn];simp
 have e2:qs9 (acc++[k])=[.vec ((acc++[k]).map qaP) 1]:=by unfold qs9;rw[if_neg hn]
 rw[e1,e2]
 by_cases hz:acc=[]
 ·subst hz
  have e3:qta []=.list [] (some none):=rfl
  have e4:qs9 []=[]:=rfl
  rw[e3,e4]
  simp -implicitDefEqProofs only[qne,qp5,qnR,qp4,qab,qah,aOp,opd,qai,qav,qag,leaf,qaW,qaS,qac,qay,qam,qat,qaz,qaU,ren,renC,qbp,qbW,qca,qcf,qby,qal,qa0,beq_self_eq_true,Option.map_some,Option.getD_some,List.map_cons,List.map_nil,List.flatMap_cons,List.flatMap_nil,List.length_cons,List.length_nil,List.cons_append,List.nil_append,List.append_nil,List.getElem?_cons_zero,List.getElem?_cons_succ,List.take_succ_cons,List.take_zero,List.all_cons,List.all_nil,List.mem_cons,List.not_mem_nil,↓reduceIte,Bool.and_true,Bool.false_eq_true,and_true,or_false,not_false_eq_true,decide_true,decide_false,and_self,Nat.le_refl,Nat.zero_add,Nat.reduceEqDiff,Nat.reduceAdd,Nat.reduceLT,Nat.reduceLeDiff,List.cons_ne_nil,qb3,qaQ,qb0,qcn,qcQ,qpQ,qeG,qk5,qlR,qhG,qwX,qf3,qc9,qda]
 ·have e3:qta acc=.vec 3 acc.length:=by unfold qta;rw[if_neg hz]
  have e4:qs9 acc=[.vec (acc.map qaP) 1]:=by unfold qs9;rw[if_neg hz]
  have hle:acc.length+1≤1073741824:=by omega
  rw[e3,e4]
  simp -implicitDefEqProofs only[qne,qp5,qnR,qp4,qab,qah,aOp,opd,qai,qav,qag,leaf,qaW,qaS,qac,qay,qam,qat,qaz,qaU,ren,renC,qbp,qbW,qca,qcf,qbM,qby,qal,qa0,beq_self_eq_true,Option.map_some,Option.getD_some,List.map_cons,List.map_nil,List.flatMap_cons,List.flatMap_nil,List.length_cons,List.length_nil,List.length_map,List.cons_append,List.nil_append,List.append_nil,List.getElem?_cons_zero,List.getElem?_cons_succ,List.set_cons_zero,List.set_cons_succ,List.take_succ_cons,List.take_zero,List.all_cons,List.all_nil,List.mem_cons,List.not_mem_nil,↓reduceIte,Bool.and_true,Bool.false_eq_true,and_true,or_false,not_false_eq_true,decide_true,decide_false,and_self,Nat.zero_add,Nat.reduceEqDiff,Nat.reduceAdd,Nat.reduceLT,Nat.reduceLeDiff,List.cons_ne_nil,qb3,List.map_append,qaQ,qb0,qcn,qcQ,qcS,Nat.mul_one,qpQ,qeG,qk5,qlR,qhG,qt8,hle,qc9,qda]
def qyb (b:IM Int) (acc:List Int):St:=⟨upd (upd (qs8 b acc).tm (some 13) (.tuple [.bool false])) (some 14) (.bool false),(qs8 b acc).h⟩
theorem qxG (b:IM Int) (acc:List Int):qcF (qdc L.pure (call L)) 2 fn167_k0 (qs8 b acc)=some (.normal,qyb b acc):=by
 unfold qcF fn167_k0 qyb qs8
 simp -implicitDefEqProofs only[qab,qah,aOp,opd,qai,qav,qag,beq_self_eq_true,List.cons_append,List.nil_append,List.getElem?_cons_zero,↓reduceIte,Bool.and_true,Nat.reduceEqDiff,qpQ]
theorem qvh (b:IM Int):∀ (o':IM Unit) (acc:List Int) (s:St),acc.length+o'.length<2 ^ 30→gc 3 fn167_k0.kr s=qs8 b acc →
  qcb (qdc L.pure (call L)) 2 fn167_k0 (qbJ L.pure (call L) qhj) (encU o') s=some (.normal,qyb b (acc++qdh o'))
 | [],acc,s,_,hs => by
   show qcF _ 2 fn167_k0 (gc 3 fn167_k0.kr s)=_
   rw[hs]
   have:acc++qdh ([]:IM Unit)=acc:=by simp[qdh]
   rw[this]
   exact qxG b acc
 | e :: o',acc,s,hl,hs => by
   rw[List.length_cons] at hl
   have hr:=quO (L:=L) b acc (by omega) e.1
   rw[← hs] at hr
   obtain⟨⟨x,s'⟩,h1,h2⟩:=Option.map_eq_some_iff.1 hr
   simp only[Prod.mk.injEq] at h2
   obtain⟨rfl,h2⟩:=h2
   show (match qb9 _ 2 fn167_k0 _ (.int .i64 e.1,.agg []) (gc 3 fn167_k0.kr s) with | some (.normal,s')=>qcb _ 2 fn167_k0 _ (encU o') s' | r=>qeG fn167_k0.id r)=_
   rw[h1]
   have:=qvh b o' (acc++[e.1]) s' (by simp;omega) h2
   rw[List.append_assoc] at this
   exact this
include hL
theorem qrQ (hP:CPrims L qb4) (h236:L.fns 236=some fn236) (h196:L.fns 196=some fn196) (h167:L.fns 167=some fn167) (t:CTree) (hf:TFit t) (hh:hgt t<2 ^ 30) (hn:(qeQ t ([],[])).2.length<2 ^ 30) (h:Heap) :
  pcall L 167 [qaX t] h=some (.val (.list ((qeL t).map qaP) none),h):=by
 have hp:=hL.pure
 have hfree:=qvL hL h236 h196 t hf 0 [] [] (by omega) (by omega) (fun v=>by simp[qgH,qce])
 refine qbH hL h167 (by rw[qaa];exact qar _) ?_ h
 unfold qeL
 generalize qeQ t ([],[])=r at *
 obtain⟨b,o⟩:=r
 dsimp only at hfree hn ⊢
 have hrange:∀ (tm:Tmps),tm 3=.map (some 0)→tm 4=.list [] (some none)→qbJ L.pure (call L) (.range fn167_k0 qhj qjP) ⟨tm,[.map (encU o),.map (encB b)]⟩ =
   some (.ret,⟨kt [2] [.list ((qb4 (qdh o)).map qaP) (if qb4 (qdh o)=[] then some none else none)],[.map (encU o),.map (encB b)]⟩):=by
  intro tm h3 h4
  refine qss (s1:=⟨upd tm (some 11) (.map (some 0)),[.map (encU o),.map (encB b)]⟩) (es:=encU o) ?_ ?_ ?_
  ·unfold fn167_k0
   simp -implicitDefEqProofs only[qab,qah,aOp,opd,h3]
  ·unfold fn167_k0
   simp -implicitDefEqProofs only[opd,qai,List.getElem?_cons_zero,↓reduceIte,qdJ,qnL,h3]
  ·intro es' hes
   have hes':es'.Perm (o.map fun p=>((.int .i64 p.1:AVal),AVal.agg [])):=hes
   obtain⟨o',hpm,rfl⟩:=qnU _ hes'
   have hrun:=qvh (L:=L) b o' [] ⟨upd (upd tm (some 11) (.map (some 0))) (some 12) (.ptr (some (2,0))),[.gone,.map (encB b),.gone]⟩ (by rw[List.length_nil,hpm.length_eq];omega) ?_
   ·rw[List.nil_append] at hrun
    have hsort:qb4 (qdh o')=qb4 (qdh o):=qlq (hpm.map _)
    rw[← hsort]
    have hlen:(qdh o').length=o.length:=by unfold qdh;rw[List.length_map,hpm.length_eq]
    generalize qdh o'=ks at *
    unfold qdA
    have hh:qlk (opd (upd tm (some 11) (.map (some 0))) fn167_k0.m) [.map (encU o),.map (encB b)]=[.gone,.map (encB b),.gone]:=rfl
    have h15:fn167_k0.it=12:=rfl
    dsimp only
    rw[hh,h15]
    simp only[List.length_cons,List.length_nil]
    show Option.map _ (match qcb _ 2 _ _ (encU o') _ with | some (.normal,s2)=>_ | some (e,s2)=>_ | none=>_)=_
    rw[hrun]
    dsimp only
    have hm2:opd (upd tm (some 11) (.map (some 0))) fn167_k0.m=.map (some 0):=rfl
    have hk:fn167_k0.keep=[2]:=rfl
    rw[hm2,hk]
    have hs0:=hP.sort0
    unfold qyb qs8 qjP
    by_cases hz:ks=[]
    ·subst hz
     have e3:qta []=.list [] (some none):=rfl
     have e4:qs9 []=[]:=rfl
     have e5:qb4 []=[]:=rfl
     rw[e3,e4,e5]
     simp -implicitDefEqProofs only[qad,qae,qax,qab,qah,aOp,opd,qai,qav,gcE,qaS,qac,qay,qam,qaz,qaU,ren,renC,qbW,qca,qbc,qaa,qbP,qap,qak,Option.map_some,Option.getD_some,List.map_cons,List.map_nil,List.flatMap_cons,List.flatMap_nil,List.length_cons,List.length_nil,List.nil_append,List.append_nil,List.getElem?_cons_zero,List.set_cons_zero,List.take_succ_cons,List.take_zero,↓reduceIte,Bool.and_true,Bool.false_eq_true,decide_false,Nat.zero_add,Nat.reduceEqDiff,Nat.reduceAdd,Nat.reduceLeDiff,qaQ,qb6,qck,qdv,hs0,qc9,qda,qb7,qb8,qaJ L hp,hp]
    ·have e3:qta ks=.vec 3 ks.length:=by unfold qta;rw[if_neg hz]
     have e4:qs9 ks=[.vec (ks.map qaP) 1]:=by unfold qs9;rw[if_neg hz]
     have hs1:=hP.sort ks hz (by omega)
     have hzs:¬ qb4 ks=[]:=fun h=>hz (by have:=qfu ks;rw[h] at this;exact List.length_eq_zero_iff.1 this.symm)
     have hsl:=qfu ks
     have hdS:=qar (qb4 ks)
     have hwS:((qb4 ks).map qaP).map wipeCell=(qb4 ks).map qaP:=by rw[List.map_map];rfl
     have hlS:((qb4 ks).map qaP).all leaf=true:=by
      rw[List.all_eq_true]
      intro x hx
      obtain⟨y,_,rfl⟩:=List.mem_map.1 hx
      rfl
     generalize qb4 ks=ss at *
     rw[e3,e4]
     simp -implicitDefEqProofs only[qad,qae,qax,qab,qah,aOp,opd,qai,qav,gcE,qaS,qac,qay,qam,qat,qaz,qaU,ren,renC,qbW,qca,qaa,qfs,qap,qak,Option.map_some,Option.getD_some,List.map_cons,List.map_nil,List.flatMap_cons,List.flatMap_nil,List.length_cons,List.length_nil,List.length_map,List.cons_append,List.nil_append,List.append_nil,List.getElem?_cons_zero,List.getElem?_cons_succ,List.set_cons_zero,List.set_cons_succ,List.take_succ_cons,List.take_zero,List.take_nil,List.all_cons,List.all_nil,List.not_mem_nil,↓reduceIte,Bool.and_true,Bool.false_eq_true,true_and,false_and,not_false_eq_true,decide_true,decide_false,and_self,Nat.zero_le,reduceCtorEq,Nat.zero_add,Nat.reduceEqDiff,Nat.reduceAdd,Nat.reduceLT,Nat.reduceLeDiff,qaQ,qb6,qck,qcJ,qdp,frz,frzC,qjV,qee,qcX,qe9,qcY,qdt,qcW,qgV,qed,qcC,qu1,qcn,qdf,qcQ,qdg,qcS,Nat.mul_one,qdv,hs1,hsl,hzs,hdS,hwS,hlS,qc9,qda,qb7,qb8,qaJ L hp,hp]
   ·unfold qs8 fn167_k0
    have e3:qta []=.list [] (some none):=rfl
    have e4:qs9 []=[]:=rfl
    rw[e3,e4]
    simp -implicitDefEqProofs only[qai,qaS,qac,qay,qam,qat,qaz,qaU,ren,renC,qbp,qbW,qca,qcf,qbP,qa0,qap,List.map_cons,List.map_nil,List.flatMap_cons,List.flatMap_nil,List.length_cons,List.length_nil,List.nil_append,List.append_nil,List.take_succ_cons,List.take_nil,List.not_mem_nil,↓reduceIte,Bool.false_eq_true,and_true,not_false_eq_true,decide_false,Nat.le_refl,Nat.zero_add,Nat.reduceEqDiff,Nat.reduceAdd,Nat.reduceLT,Nat.reduceLeDiff,h4,qc9,qda]
 obtain⟨tc,htc,hdt⟩:=qc0 t
 have hn0:encB []=[]:=rfl
 have hn1:encU []=[]:=rfl
 rw[hn0,hn1] at hfree
 rw[htc] at hfree ⊢
 generalize (if qb4 (qdh o)=[] then some none else none:Option (Option Nat))=ow at *
 unfold fn167
 generalize fn167_k0=kk at *
 generalize qhj=bb at *
 generalize qjP=aa at *
 simp -implicitDefEqProofs only[qad,qae,qab,qah,aOp,opd,qai,qan,qav,qaR,qas,qaB,qaI,qam,qat,qaU,ren,renC,qg1,qbW,qca,qgR,qbZ,qbS,qiQ,qfs,qaN,qbv,qap,qak,Option.getD_some,List.map_cons,List.map_nil,List.flatMap_cons,List.flatMap_nil,List.length_cons,List.length_nil,List.cons_append,List.nil_append,List.append_nil,List.getElem?_cons_zero,List.getElem?_cons_succ,List.take_succ_cons,List.take_nil,List.all_cons,List.all_nil,List.mem_cons,List.not_mem_nil,↓reduceIte,Bool.and_true,Bool.and_false,Bool.false_eq_true,or_false,not_false_eq_true,decide_true,and_self,Nat.le_refl,Nat.zero_le,reduceCtorEq,Nat.zero_add,Nat.reduceEqDiff,Nat.reduceAdd,Nat.reduceLT,qee,qcX,qe9,qcY,qdt,qcW,qgV,qed,qcC,qaD,hfree,hrange,hdt,qc9,qda,qb7,qb8,qaJ L hp,hp]
end
end Go.Abs
