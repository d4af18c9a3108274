/-
  PARTS OF A PROOF, joined: an abstract machine for quiet code, its evaluation, and what the seat's functions answer on it. Conditions: none.
-/
import Derived.Test.YtbmognfolkhkpaaDoorCJ
set_option linter.unusedVariables false
set_option linter.unusedSimpArgs false
set_option maxRecDepth 100000
set_option maxHeartbeats 4000000
namespace Go.Abs
abbrev FS:=IM Int × IM Unit
def qgu (v:Int) (b:IM Int):Int:=(qcP v b).getD 0
def qhH (d:Int) (b:IM Int) (n:Int):IM Int:=qo4 n (qgu n b+d) b
def qd8 (op n:Int) (s:FS):FS:=if op=0∧qgu n s.1=0 then (s.1,qo4 n () s.2) else s
mutual
def qeQ:CTree→FS→FS
 | .mk op n binds kids alts,s=>qeK op binds alts kids 0 (qd8 op n s)
def qeK (op:Int) (binds:List Int) (alts:List CAlt):List CTree→Nat→FS→FS
 | [],_,s=>s
 | kid :: ks,k,s =>
   qeK op binds alts ks (k+1)
    ((qcM op binds alts k).foldl (qhH (-1)) (qeQ kid ((qcM op binds alts k).foldl (qhH 1) s.1,s.2)).1,(qeQ kid ((qcM op binds alts k).foldl (qhH 1) s.1,s.2)).2)
end
mutual
def hgt:CTree→Nat
 | .mk _ _ _ kids _=>qeL kids+1
def qeL:List CTree→Nat
 | []=>0
 | k::ks=>max (hgt k) (qeL ks)
end
theorem qf5 {k:CTree} {ks:List CTree} (h:k∈ks):hgt k≤qeL ks:=by
 induction ks with
 | nil=>cases h
 | cons x xs ih =>
   unfold qeL
   rcases List.mem_cons.1 h with rfl | h
   ·omega
   ·have:=ih h;omega
inductive TFit:CTree→Prop
 | mk (op n:Int) (binds:List Int) (kids:List CTree) (alts:List CAlt) (hb:(binds++alts.flatMap (·.binds)).length<2 ^ 30) (hk:kids.length<2 ^ 30) (ha:alts.length<2 ^ 30) (h:∀ k∈kids,TFit k):TFit (.mk op n binds kids alts)
theorem qjX (alts:List CAlt) {a:CAlt} (h:a∈alts):a.binds.length≤(alts.flatMap (·.binds)).length:=by
 induction alts with
 | nil=>cases h
 | cons x xs ih =>
   rw[List.flatMap_cons,List.length_append]
   rcases List.mem_cons.1 h with rfl | h
   ·omega
   ·have:=ih h;omega
theorem qrV (op:Int) (binds:List Int) (alts:List CAlt) (k:Nat):(qcM op binds alts k).length≤(binds++alts.flatMap (·.binds)).length:=by
 unfold qcM
 rw[List.length_append]
 split
 ·omega
 ·split
  ·split
   ·rename_i a ha
    have:=qjX alts (List.mem_of_getElem? ha)
    omega
   ·simp
  ·simp
theorem qmE (v n x:Int) (b:IM Int):qgu v (qo4 n x b)=if v=n then x else qgu v b:=by
 unfold qgu
 rw[qil]
 split<;>rfl
def MB (lo hi:Int) (b:IM Int):Prop:=∀ v,lo≤qgu v b∧qgu v b≤hi
theorem MB.up {lo hi:Int} {b:IM Int} (h:MB lo hi b) (n:Int):MB lo (hi+1) (qhH 1 b n):=by
 intro v
 unfold qhH
 rw[qmE]
 have h1:=h v
 have h2:=h n
 split<;>omega
theorem MB.down {lo hi:Int} {b:IM Int} (h:MB lo hi b) (n:Int):MB (lo-1) hi (qhH (-1) b n):=by
 intro v
 unfold qhH
 rw[qmE]
 have h1:=h v
 have h2:=h n
 split<;>omega
theorem MB.ups {lo:Int}:∀ (l:List Int) {hi:Int} {b:IM Int},MB lo hi b→MB lo (hi+l.length) (l.foldl (qhH 1) b)
 | [],hi,b,h=>by simpa using h
 | n :: l,hi,b,h => by
   have:=MB.ups l (h.up n)
   rw[List.foldl_cons,List.length_cons]
   rw[show hi+((l.length+1:Nat):Int)=hi+1+l.length by omega]
   exact this
def qx1 (v:Int) (l:List Int):Int:=(l.count v:Int)
theorem qdx (d v:Int):∀ (l:List Int) (b:IM Int),qgu v (l.foldl (qhH d) b)=qgu v b+d*qx1 v l
 | [],b=>by simp[qx1]
 | n :: l,b => by
   rw[List.foldl_cons,qdx d v l]
   unfold qhH qx1
   rw[qmE,List.count_cons]
   by_cases h:v=n
   ·subst h
    simp
    rw[Int.mul_add]
    omega
   ·have:(n==v)=false:=by simpa using fun e=>h e.symm
    simp[h,this]
mutual
theorem qiB (v:Int):∀ (t:CTree) (s:FS),qgu v (qeQ t s).1=qgu v s.1
 | .mk op n binds kids alts,s => by
   rw[qeQ,ql0 v op binds alts kids]
   unfold qd8
   split<;>rfl
theorem ql0 (v op:Int) (binds:List Int) (alts:List CAlt):∀ (ks:List CTree) (k:Nat) (s:FS),qgu v (qeK op binds alts ks k s).1=qgu v s.1
 | [],_,s=>by rw[qeK]
 | kid :: ks,k,s => by
   rw[qeK,ql0 v op binds alts ks,qdx,qiB v kid,qdx]
   omega
end
abbrev encB:IM Int→List (AVal × AVal):=qlA qaY
theorem qdd (b:IM Int):qo2 (.map (encB b))=[]:=qyc _ (fun _=>rfl) b
theorem qde (ρ:Nat→Option Nat) (b:IM Int):qfN ρ (.map (encB b))=.map (encB b):=qym _ (fun _=>rfl) ρ b
theorem qxo (h:Heap) (r:Nat) (v:Int) (m:IM Int) (hr:h[r]? = some (.map (encB m))):qiX h .int (.int .i64 0) false (.map (some r)) (.int .i64 v)=some (.int .i64 (qgu v m)):=by
 rw[qrg qaY h r _ false v m hr]
 unfold qgu
 cases qcP v m<;>rfl
theorem qy3 (h:Heap) (r:Nat) (v x:Int) (m:IM Int) (hr:h[r]? = some (.map (encB m))):qeW h .int (.map (some r)) (.int .i64 v) (.int .i64 x)=some (h.set r (.map (encB (qo4 v x m)))) :=
 qyE qaY h r v x m rfl hr
section
variable {L:Lib} (hL:Plain L)
def qsh (A:AVal) (kid:CTree) (l:List Int) (K:List AVal) (n k:Nat) (o:IM Unit) (b:IM Int) (j:Nat):St :=
 ⟨kt [0,1,2,7,8,36,37,38,46,47,48] [A,.map (some 0),.map (some 1),qaW kid,.list (l.map qaY) none,.list K none,.int .i64 n,.int .i64 k,.list (l.map qaY) none,.int .i64 l.length,.int .i64 j],[.map (encB b),.map (encU o)]⟩
def quc (A:AVal) (kid:CTree) (l:List Int) (K:List AVal) (n k:Nat) (o:IM Unit) (b:IM Int):St :=
 ⟨kt [0,1,2,7,8,36,37,38] [A,.map (some 0),.map (some 1),qaW kid,.list (l.map qaY) none,.list K none,.int .i64 n,.int .i64 k],[.map (encB b),.map (encU o)]⟩
theorem qv2 (A:AVal) (hA:qbd A=true) (kid:CTree) (l:List Int) (hl:l.length<2 ^ 30) (K:List AVal) (hK:qa4 K=true) (n k:Nat) (o:IM Unit) (b:IM Int) (c:Int) (hc:0≤c) (hc2:c+2 ^ 30<2 ^ 62) (hb:MB 0 c b) :
  qb7 L.pure (call L) 2 [0,1,2,7,8,36,37,38,46,47,48] [0,1,2,7,8,36,37,38] 2 qj0 (qsh A kid l K n k o b 0)=some (.normal,quc A kid l K n k o (l.foldl (qhH 1) b)):=by
 have hT:=qd2 kid
 refine (qeY l (qhH 1) (qsh A kid l K n k o) (quc A kid l K n k o) (fun b j=>MB 0 (c+(j:Nat)) b) b (by simpa using hb) ?_ ?_).2
 ·intro j hj b hb
  obtain⟨h1,h2,h3⟩:=qbz qaY l hl j hj
  refine⟨?_,by have:=hb.up l[j];rw[show c+((j+1:Nat):Int)=c+(j:Nat)+1 by omega];exact this⟩
  generalize l[j]=v at *
  have hv:=hb v
  have w:IntKind.i64.wrap (qgu v b+1)=qgu v b+1:=qc5 (by omega) (by omega)
  have hlk:=fun (h:Heap) (hr:h[0]? = some (.map (encB b)))=>qxo h 0 v b hr
  have hup:=fun (h:Heap) (hr:h[0]? = some (.map (encB b)))=>qy3 h 0 v (qgu v b+1) b hr
  unfold qj0 qsh qhH
  simp -implicitDefEqProofs only[qam,qad,qae,qab,qal,qac,qah,aOp,opd,qai,qa3,qaB,qag,qaZ,qbb,qba,qas,qaj,qaA,qaM,qa0,qaf,qaE,qat,qaD,qaF,qa5,ren,renC,qbU,qcd,qaa,qaq,qbB,List.map_cons,List.map_nil,List.flatMap_cons,List.flatMap_nil,List.length_cons,List.length_nil,List.cons_append,List.nil_append,List.append_nil,List.getElem?_cons_zero,List.set_cons_zero,List.take_succ_cons,List.take_nil,List.not_mem_nil,↓reduceIte,Bool.false_eq_true,and_true,not_false_eq_true,decide_true,decide_false,Nat.le_refl,reduceCtorEq,Nat.zero_add,Nat.reduceEqDiff,Nat.reduceAdd,Nat.reduceLT,Nat.reduceLeDiff,Int.toNat_natCast,Int.natCast_nonneg,qaz,qa1,qb1,qay,h1,h2,h3,hlk,hup,w,hA,hT,hK,qdd,qde,qce,qcf]
 ·intro b _
  have h0:=qbA l.length
  unfold qj0 qsh quc
  simp -implicitDefEqProofs only[qad,qae,qab,qbk,qac,qah,aOp,opd,qai,qaB,qag,qbb,qba,qaj,gcE,qa0,qaf,qaE,qat,qaD,qaF,qa5,ren,renC,qbU,qcd,qaa,qaq,qbB,List.map_cons,List.map_nil,List.flatMap_cons,List.flatMap_nil,List.length_cons,List.length_nil,List.cons_append,List.nil_append,List.append_nil,List.take_succ_cons,List.take_nil,List.not_mem_nil,↓reduceIte,Bool.false_eq_true,and_true,not_false_eq_true,decide_false,Nat.le_refl,reduceCtorEq,Nat.zero_add,Nat.reduceEqDiff,Nat.reduceAdd,Nat.reduceLT,Nat.reduceLeDiff,qaz,qa1,qay,h0,hA,hT,hK,qdd,qde,qce,qcf]
def qsi (A:AVal) (l:List Int) (K:List AVal) (n k:Nat) (o:IM Unit) (b:IM Int) (j:Nat):St :=
 ⟨kt [0,1,2,36,37,38,61,62,63] [A,.map (some 0),.map (some 1),.list K none,.int .i64 n,.int .i64 k,.list (l.map qaY) none,.int .i64 l.length,.int .i64 j],[.map (encB b),.map (encU o)]⟩
def qmM (A:AVal) (K:List AVal) (n k:Nat) (o:IM Unit) (b:IM Int):St :=
 ⟨kt [0,1,2,36,37,38] [A,.map (some 0),.map (some 1),.list K none,.int .i64 n,.int .i64 k],[.map (encB b),.map (encU o)]⟩
theorem qv3 (A:AVal) (hA:qbd A=true) (l:List Int) (hl:l.length<2 ^ 30) (K:List AVal) (hK:qa4 K=true) (n k:Nat) (o:IM Unit) (b:IM Int) (c:Int) (hc:0≤c) (hc2:c<2 ^ 62) (hb:MB 0 c b) :
  qb7 L.pure (call L) 2 [0,1,2,36,37,38,61,62,63] [0,1,2,36,37,38] 4 qj1 (qsi A l K n k o b 0)=some (.normal,qmM A K n k o (l.foldl (qhH (-1)) b)):=by
 refine (qeY l (qhH (-1)) (qsi A l K n k o) (qmM A K n k o) (fun b j=>MB (-(j:Nat)) c b) b (by simpa using hb) ?_ ?_).2
 ·intro j hj b hb
  obtain⟨h1,h2,h3⟩:=qbz qaY l hl j hj
  refine⟨?_,by have:=hb.down l[j];rw[show -((j+1:Nat):Int) = -(j:Nat)-1 by omega];exact this⟩
  generalize l[j]=v at *
  have hv:=hb v
  have w:IntKind.i64.wrap (qgu v b-1)=qgu v b + -1:=by rw[qc5 (by omega) (by omega)];rfl
  have hlk:=fun (h:Heap) (hr:h[0]? = some (.map (encB b)))=>qxo h 0 v b hr
  have hup:=fun (h:Heap) (hr:h[0]? = some (.map (encB b)))=>qy3 h 0 v (qgu v b + -1) b hr
  unfold qj1 qsi qhH
  simp -implicitDefEqProofs only[qam,qad,qae,qab,qal,qac,qah,aOp,opd,qai,qa3,qaB,qag,qaZ,qbb,qba,qas,qaj,qaA,qaM,qa0,qaf,qaE,qat,qaD,qaF,qa5,ren,renC,qbU,qcd,qaa,qaq,qbB,List.map_cons,List.map_nil,List.flatMap_cons,List.flatMap_nil,List.length_cons,List.length_nil,List.cons_append,List.nil_append,List.append_nil,List.getElem?_cons_zero,List.set_cons_zero,List.take_succ_cons,List.take_nil,List.not_mem_nil,↓reduceIte,Bool.false_eq_true,and_true,not_false_eq_true,decide_true,decide_false,Nat.le_refl,reduceCtorEq,Nat.zero_add,Nat.reduceEqDiff,Nat.reduceAdd,Nat.reduceLT,Nat.reduceLeDiff,Int.toNat_natCast,Int.natCast_nonneg,qaz,Int.reduceNeg,qa1,qb1,qay,h1,h2,h3,hlk,hup,w,hA,hK,qdd,qde,qce,qcf]
 ·intro b _
  have h0:=qbA l.length
  unfold qj1 qsi qmM
  simp -implicitDefEqProofs only[qad,qae,qab,qbk,qac,qah,aOp,opd,qai,qaB,qag,qbb,qba,qaj,gcE,qa0,qaf,qaE,qat,qaD,qaF,qa5,ren,renC,qbU,qcd,qaa,qaq,qbB,List.map_cons,List.map_nil,List.flatMap_cons,List.flatMap_nil,List.length_cons,List.length_nil,List.cons_append,List.nil_append,List.append_nil,List.take_succ_cons,List.take_nil,List.not_mem_nil,↓reduceIte,Bool.false_eq_true,and_true,not_false_eq_true,decide_false,Nat.le_refl,reduceCtorEq,Nat.zero_add,Nat.reduceEqDiff,Nat.reduceAdd,Nat.reduceLT,Nat.reduceLeDiff,qaz,qa1,h0,hA,hK,qdd,qde,qce,qcf]
def qiA (op:Int) (binds:List Int) (alts:List CAlt) (k:Nat) (s:FS) (kid:CTree):FS :=
 ((qcM op binds alts k).foldl (qhH (-1)) (qeQ kid ((qcM op binds alts k).foldl (qhH 1) s.1,s.2)).1,(qeQ kid ((qcM op binds alts k).foldl (qhH 1) s.1,s.2)).2)
theorem qkQ (op:Int) (binds:List Int) (alts:List CAlt):∀ (ks:List CTree) (k:Nat) (s:FS),qcx (fun k s kid=>(.ok (qiA op binds alts k s kid):Except Unit FS)) ks k s=.ok (qeK op binds alts ks k s)
 | [],k,s=>by rw[qeK];rfl
 | kid::ks,k,s=>by rw[qcx,qeK];exact qkQ op binds alts ks (k+1) _
theorem qmP (op:Int) (binds:List Int) (alts:List CAlt) (k:Nat) (s:FS) (kid:CTree) (v:Int):qgu v (qiA op binds alts k s kid).1=qgu v s.1:=by
 unfold qiA
 dsimp only
 rw[qdx,qiB v kid,qdx]
 omega
include hL
theorem qv4 (h236:L.fns 236=some fn236) (op n:Int) (binds:List Int) (kids:List CTree) (alts:List CAlt) (hb:(binds++alts.flatMap (·.binds)).length<2 ^ 30) (hk:kids.length<2 ^ 30) (ha:alts.length<2 ^ 30)
  (c:Int) (hc:0≤c) (hc2:c+2 ^ 30<2 ^ 62) (s0:FS) (hs0:MB 0 c s0.1)
  (ih:∀ kid∈kids,∀ (b:IM Int) (o:IM Unit),MB 0 (c+2 ^ 30) b→call L 196 [qaW kid,.map (some 0),.map (some 1)] [.map (encB b),.map (encU o)]=some (.val (.tuple []),[.map (encB (qeQ kid (b,o)).1),.map (encU (qeQ kid (b,o)).2)])) :
  qb7 L.pure (call L) 2 [0,1,2,36,37,38] [] 0 qj2 (qmM (.vptr [.int .i64 op,.int .i64 n,.list (binds.map qaY) none,.list (kids.map qaW) none,.list (alts.map qaU) none] 0) (kids.map qaW) kids.length 0 s0.2 s0.1) =
   some (.normal,⟨kt [] [],[.map (encB (qeK op binds alts kids 0 s0).1),.map (encU (qeK op binds alts kids 0 s0).2)]⟩):=by
 have hp:=hL.pure
 have hA:qbd (.vptr [.int .i64 op,.int .i64 n,.list (binds.map qaY) none,.list (kids.map qaW) none,.list (alts.map qaU) none] 0)=true:=by
  simp only[qbd,qa4,qay,qaO,qcr,Bool.and_self]
 have hK:=qcr kids
 refine ((qdt kids (fun k s kid=>(.ok (qiA op binds alts k s kid):Except Unit FS)) (fun s k=>qmM (.vptr [.int .i64 op,.int .i64 n,.list (binds.map qaY) none,.list (kids.map qaW) none,.list (alts.map qaU) none] 0) (kids.map qaW) kids.length k s.2 s.1)
  (fun s=>⟨kt [] [],[.map (encB s.1),.map (encU s.2)]⟩) (fun _ _=>False) (fun s _=>MB 0 c s.1) s0 hs0 ?_ ?_ ?_).1 _ (qkQ op binds alts kids 0 s0)).2
 ·intro k hk' s s' hs hq
  injection hq with hq
  subst hq
  refine⟨?_,fun v=>by rw[qmP];exact hs v⟩
  obtain⟨h1,h2,h3⟩:=qbz qaW kids hk k hk'
  have hbo:=qtU hL h236 op n binds (.list (kids.map qaW) none) alts ha k (by omega)
  have hbl:=qrV op binds alts k
  have ihk:=ih kids[k] (List.getElem_mem hk')
  unfold qiA
  generalize kids[k]=kid at *
  have hT:=qd2 kid
  generalize qcM op binds alts k=l at *
  have hl0:=qv2 (L:=L) _ hA kid l (by omega) (kids.map qaW) hK kids.length k s.2 s.1 c hc (by omega) hs
  have hup:=MB.ups l hs
  have hup2:MB 0 (c+2 ^ 30) (l.foldl (qhH 1) s.1):=fun v=>⟨(hup v).1,by have:=(hup v).2;omega⟩
  have ihk:=ihk (l.foldl (qhH 1) s.1) s.2 hup2
  have hl1:=qv3 (L:=L) _ hA l (by omega) (kids.map qaW) hK kids.length k (qeQ kid (l.foldl (qhH 1) s.1,s.2)).2 (qeQ kid (l.foldl (qhH 1) s.1,s.2)).1 (c+2 ^ 30) (by omega) (by omega)
   (fun v=>by rw[qiB];exact hup2 v)
  generalize qeQ kid (l.foldl (qhH 1) s.1,s.2)=r at *
  unfold qsh quc at hl0
  unfold qsi qmM at hl1
  simp only[Int.natCast_zero] at hl0 hl1
  obtain⟨tc,htc,hdt⟩:=qcH kid
  rw[htc] at ihk hl0 h3 hT
  unfold qj2 qmM
  simp -implicitDefEqProofs only[qam,qad,qae,qab,qal,qac,qah,aOp,opd,qai,qaB,qag,qbb,qcg,qba,qas,qaj,qaA,qct,qaS,qa0,qaf,qaE,qat,qaD,qaF,qa5,ren,renC,qbU,qcd,qbx,qbD,qiW,qaa,qaq,qfj,qaQ,qbB,qav,qao,Option.getD_some,List.map_cons,List.map_nil,List.flatMap_cons,List.flatMap_nil,List.length_cons,List.length_nil,List.length_map,List.cons_append,List.nil_append,List.append_nil,List.getElem?_cons_zero,List.getElem?_cons_succ,List.take_succ_cons,List.take_nil,List.all_cons,List.all_nil,List.mem_cons,List.not_mem_nil,↓reduceIte,Bool.and_true,Bool.and_false,Bool.false_eq_true,and_true,or_false,not_false_eq_true,decide_true,decide_false,and_self,Nat.le_refl,Nat.zero_le,reduceCtorEq,Nat.zero_add,Nat.reduceEqDiff,Nat.reduceAdd,Nat.reduceLT,Nat.reduceLeDiff,Int.toNat_natCast,Int.natCast_nonneg,qaz,Int.reduceNeg,qa1,qec,qc2,qe3,qc3,qdu,qc1,qgN,qeb,qcL,qay,qaO,h1,h2,h3,hbo,hl0,ihk,hl1,hK,hT,hdt,qdd,qde,qce,qcf,qaN L hp,hp,qes,List.range_succ,List.range_zero]
 ·intro k hk' s e hs hq
  cases hq
 ·intro s _
  have h0:=qbA kids.length
  unfold qj2 qmM
  simp -implicitDefEqProofs only[qad,qae,qab,qbk,qac,qah,aOp,opd,qai,qaB,qag,qbb,qba,qaj,gcE,qa0,qq9,qaE,qat,qaF,qa5,ren,renC,qbU,qcd,List.map_cons,List.map_nil,List.flatMap_cons,List.flatMap_nil,List.length_cons,List.length_nil,List.append_nil,List.take_succ_cons,List.take_nil,↓reduceIte,Bool.false_eq_true,decide_false,Nat.le_refl,reduceCtorEq,Nat.zero_add,Nat.reduceEqDiff,Nat.reduceAdd,qaz,qa1,h0,hK,qdd,qde,qce,qcf]
theorem qv5 (h236:L.fns 236=some fn236) (h196:L.fns 196=some fn196):∀ (t:CTree),TFit t→∀ (c:Int) (b:IM Int) (o:IM Unit),0≤c→c+2 ^ 30*(hgt t:Int)<2 ^ 62→MB 0 c b →
  call L 196 [qaW t,.map (some 0),.map (some 1)] [.map (encB b),.map (encU o)]=some (.val (.tuple []),[.map (encB (qeQ t (b,o)).1),.map (encU (qeQ t (b,o)).2)]):=by
 have hs:L.summ 196=none:=hL.summ 196 (by rw[h196];exact fun hx=>by cases hx)
 intro t
 induction t using CTree.ind with
 | h op n binds kids alts ih =>
   intro hf c b o hc hc2 hb
   cases hf with
   | mk _ _ _ _ _ hbf hkf haf hfk =>
     rw[hgt] at hc2
     have hloop:=qv4 hL h236 op n binds kids alts hbf hkf haf c hc (by omega) (qd8 op n (b,o)) (by unfold qd8;split<;>exact hb) (by
      intro kid hkid b' o' hb'
      have hh:=qf5 hkid
      exact ih kid hkid (hfk kid hkid) (c+2 ^ 30) b' o' (by omega) (by omega) hb')
     rw[qeQ]
     refine qbE hs h196 ?_
     rw[qcB]
     have hK:=qcr kids
     unfold qmM at hloop
     simp only[Int.natCast_zero] at hloop
     have hlk:=fun (h:Heap) (hr:h[0]? = some (.map (encB b)))=>qxo h 0 n b hr
     have hup:=fun (h:Heap) (hr:h[1]? = some (.map (encU o)))=>qyE (fun _:Unit=>AVal.agg []) h 1 n () o rfl hr
     unfold qd8 at hloop ⊢
     by_cases h0:op=0
     ·subst h0
      by_cases hz:qgu n b=0
      ·rw[if_pos ⟨rfl,hz⟩] at hloop ⊢
       dsimp only at hloop
       unfold fn196
       simp -implicitDefEqProofs only[qad,qae,qab,qac,qau,qah,aOp,opd,qai,qa3,qak,qag,qaZ,qbb,qcg,qba,qaj,qaw,qaA,qaG,qcZ,qaT,qan,qaH,qaS,qa0,qaf,qaE,qat,qaD,qaF,qa5,ren,renC,qbU,qcd,qaa,qaq,qaQ,qbB,qav,qao,beq_self_eq_true,Option.map_some,Option.getD_some,List.map_cons,List.map_nil,List.flatMap_cons,List.flatMap_nil,List.length_cons,List.length_nil,List.length_map,List.cons_append,List.nil_append,List.append_nil,List.getElem?_cons_zero,List.getElem?_cons_succ,List.set_cons_zero,List.set_cons_succ,List.take_succ_cons,List.take_nil,List.not_mem_nil,↓reduceIte,Bool.and_true,Bool.false_eq_true,and_true,not_false_eq_true,decide_false,Nat.le_refl,reduceCtorEq,Nat.add_zero,Nat.zero_add,Nat.reduceEqDiff,Nat.reduceAdd,Nat.reduceLT,Nat.reduceLeDiff,qay,qaO,hlk,hup,hz,hloop,hK,qdd,qde,qce,qcf]
      ·have hz':(qgu n b==0)=false:=by simpa using hz
       rw[if_neg (fun h=>hz h.2)] at hloop ⊢
       dsimp only at hloop
       unfold fn196
       simp -implicitDefEqProofs only[qam,qad,qae,qab,qac,qau,qah,aOp,opd,qai,qak,qag,qbb,qcg,qba,qaj,qaw,qaA,qaG,qaT,qan,qaH,qaS,qa0,qaf,qaE,qat,qaD,qaF,qa5,ren,renC,qbU,qcd,qaa,qaq,qaQ,qbB,qav,qao,beq_self_eq_true,Option.getD_some,List.map_cons,List.map_nil,List.flatMap_cons,List.flatMap_nil,List.length_cons,List.length_nil,List.length_map,List.cons_append,List.nil_append,List.append_nil,List.getElem?_cons_zero,List.getElem?_cons_succ,List.take_succ_cons,List.take_nil,List.not_mem_nil,↓reduceIte,Bool.and_true,Bool.false_eq_true,and_true,not_false_eq_true,decide_false,Nat.le_refl,reduceCtorEq,Nat.add_zero,Nat.zero_add,Nat.reduceEqDiff,Nat.reduceAdd,Nat.reduceLT,Nat.reduceLeDiff,qay,qaO,hlk,hz',hloop,hK,qdd,qde,qce,qcf]
     ·have h0':(op==0)=false:=by simpa using h0
      rw[if_neg (fun h=>h0 h.1)] at hloop ⊢
      dsimp only at hloop
      unfold fn196
      simp -implicitDefEqProofs only[qam,qad,qae,qab,qac,qau,qah,aOp,opd,qai,qak,qag,qbb,qcg,qba,qaj,qaw,qaA,qaG,qaT,qan,qaH,qaS,qa0,qaf,qaE,qat,qaD,qaF,qa5,ren,renC,qbU,qcd,qaa,qaq,qaQ,qbB,qav,qao,qb9,Option.getD_some,List.map_cons,List.map_nil,List.flatMap_cons,List.flatMap_nil,List.length_cons,List.length_nil,List.length_map,List.cons_append,List.nil_append,List.append_nil,List.getElem?_cons_zero,List.getElem?_cons_succ,List.take_succ_cons,List.take_nil,List.not_mem_nil,↓reduceIte,Bool.and_true,Bool.false_eq_true,and_true,not_false_eq_true,decide_false,Nat.le_refl,reduceCtorEq,Nat.add_zero,Nat.zero_add,Nat.reduceEqDiff,Nat.reduceAdd,Nat.reduceLT,Nat.reduceLeDiff,qay,qaO,h0',hloop,hK,qdd,qde,qce,qcf]
end
def qv9 (n:Int):List Int→List Int
 | []=>[n]
 | m::l=>if n≤m then n::m::l else m::qv9 n l
def qb0 (l:List Int):List Int:=l.foldr qv9 []
theorem qkT (n:Int):∀ l,(qv9 n l).Perm (n::l)
 | []=>.refl _
 | m :: l => by
   unfold qv9
   split
   ·exact .refl _
   ·exact ((qkT n l).cons m).trans (.swap n m l)
theorem qkU (n:Int):∀ {l:List Int},l.Pairwise (· ≤ ·)→(qv9 n l).Pairwise (· ≤ ·)
 | [],_=>by simp[qv9]
 | m :: l,h => by
   rw[List.pairwise_cons] at h
   unfold qv9
   split
   ·rename_i hnm
    rw[List.pairwise_cons]
    refine⟨fun x hx=>?_,List.pairwise_cons.2 h⟩
    rcases List.mem_cons.1 hx with rfl | hx
    ·exact hnm
    ·have:=h.1 x hx;omega
   ·rw[List.pairwise_cons]
    refine⟨fun x hx=>?_,qkU n h.2⟩
    rcases List.mem_cons.1 ((qkT n l).mem_iff.1 hx) with rfl | hx
    ·omega
    ·exact h.1 x hx
theorem qdE:∀ l,(qb0 l).Perm l
 | []=>.refl _
 | n::l=>(qkT n (qb0 l)).trans ((qdE l).cons n)
theorem qee:∀ l,(qb0 l).Pairwise (· ≤ ·)
 | []=>.nil
 | n::l=>qkU n (qee l)
theorem qoH {a b:List Int} (ha:a.Pairwise (· ≤ ·)) (hb:b.Pairwise (· ≤ ·)) (h:a.Perm b):a=b :=
 List.Perm.eq_of_pairwise (le:=fun x y:Int=>x≤y) (fun x y _ _ h1 h2=>by omega) ha hb h
theorem qlI {a b:List Int} (h:a.Perm b):qb0 a=qb0 b :=
 qoH (qee a) (qee b) ((qdE a).trans (h.trans (qdE b).symm))
theorem qfl (l:List Int):(qb0 l).length=l.length:=(qdE l).length_eq
theorem qop {α β:Type} (f:α→β):∀ {es:List β} {l:List α},es.Perm (l.map f)→∃ l':List α,l'.Perm l∧es=l'.map f
 | [],l,h => by
   have:=h.symm.eq_nil
   rw[List.map_eq_nil_iff] at this
   exact⟨[],by rw[this],rfl⟩
 | e :: es,l,h => by
   obtain⟨x,hx,rfl⟩:=List.mem_map.1 (h.mem_iff.1 (List.mem_cons_self ..))
   obtain⟨s,t,rfl⟩:=List.append_of_mem hx
   have h1:(f x::es).Perm (f x::(s++t).map f):=by
    refine h.trans ?_
    rw[List.map_append,List.map_cons,List.map_append]
    exact List.perm_middle
   obtain⟨l',h2,rfl⟩:=qop f h1.cons_inv
   exact⟨x::l',(h2.cons x).trans List.perm_middle.symm,rfl⟩
theorem qs5 {pure:Nat→Bool} {call:CallT} {k:RangeK} {b c:ACode} {s s1:St} {es:List (AVal × AVal)} {r:AExit × St} (hpre:qdg pure call k.pre s=some (.normal,s1)) (hes:qdG k.str (opd s1.tm k.m) s1.h=some es)
  (hall:∀ es',qds k.str es es'→qdC (qdg pure call) k (qbL pure call b) (qbL pure call c) s s1 es'=some r):qbL pure call (.range k b c) s=some r:=by
 rw[qbL,qfJ,hpre]
 dsimp only
 rw[hes]
 exact (qdP (qcS _ _)).2 hall
def qdl {β:Type} (m:IM β):List Int:=m.map (·.1)
def qgl (t:CTree):List Int:=qb0 (qdl (qeQ t ([],[])).2)
def qtH (acc:List Int):AVal:=if acc=[] then .list [] (some none) else .vec 3 acc.length
def qtG (acc:List Int):Heap:=if acc=[] then [] else [.vec (acc.map qaY) 1]
def qtF (b:IM Int) (acc:List Int):St:=⟨kt [4,12] [qtH acc,.ptr (some (2,0))],[.gone,.map (encB b),.gone]++qtG acc⟩
theorem quD (id n:Nat):qgG (.vec id n)=false:=rfl
theorem qxg:qgG (.list [] (some none))=true:=rfl
theorem qmh (pure:Nat→Bool) (call:CallT) (sz bytes:Nat) (x y:Opd) (tm:Tmps) (h:Heap):qki pure call (.append sz bytes x y) tm h =
  if qgG (opd tm x)=true then (match qfO h sz (opd tm x) (opd tm y) with | some (v,h')=>some (.val v,h') | none=>none) else aOp pure call (.append sz bytes x y) tm h:=rfl
theorem qhI (pure:Nat→Bool) (call:CallT) (sz:Nat) (ps:List Opd) (tm:Tmps) (h:Heap):qki pure call (.buildSlice sz ps) tm h=aOp pure call (.buildSlice sz ps) tm h:=rfl
section
variable {L:Lib} (hL:Plain L)
theorem qvc (b:IM Int) (acc:List Int) (hl:acc.length<2 ^ 30) (k:Int) :
  (qci (qdg L.pure (call L)) 2 fn167_k0 (qbL L.pure (call L) qhc) (.int .i64 k,.agg []) (qtF b acc)).map (fun r=>(r.1,gc 3 fn167_k0.kr r.2))=some (.normal,qtF b (acc++[k])):=by
 unfold qci fn167_k0 qhc qtF
 have hall:=qdM acc
 have hn:acc++[k]≠[]:=by simp
 have e1:qtH (acc++[k])=.vec 3 (acc.length+1):=by unfold qtH;rw[if_neg hn];simp
 have e2:qtG (acc++[k])=[.vec ((acc++[k]).map qaY) 1]:=by unfold qtG;rw[if_neg hn]
 rw[e1,e2]
 by_cases hz:acc=[]
 ·subst hz
  have e3:qtH []=.list [] (some none):=rfl
  have e4:qtG []=[]:=rfl
  rw[e3,e4]
  simp -implicitDefEqProofs only[qnG,qqA,qom,qqz,qac,qah,aOp,opd,qai,qaB,qag,leaf,qaM,qa0,qaf,qaE,qat,qaD,qaF,qa5,ren,renC,qbm,qbU,qcd,qco,qbx,qaq,qbc,beq_self_eq_true,Option.map_some,Option.getD_some,List.map_cons,List.map_nil,List.flatMap_cons,List.flatMap_nil,List.length_cons,List.length_nil,List.cons_append,List.nil_append,List.append_nil,List.getElem?_cons_zero,List.getElem?_cons_succ,List.take_succ_cons,List.take_zero,List.all_cons,List.all_nil,List.mem_cons,List.not_mem_nil,↓reduceIte,Bool.and_true,Bool.false_eq_true,and_true,or_false,not_false_eq_true,decide_true,decide_false,and_self,Nat.le_refl,Nat.zero_add,Nat.reduceEqDiff,Nat.reduceAdd,Nat.reduceLT,Nat.reduceLeDiff,List.cons_ne_nil,qb8,qa1,qb1,qcs,qcU,qqm,qeG,qlj,qmh,qhI,qxg,qfO,qdd,qde]
 ·have e3:qtH acc=.vec 3 acc.length:=by unfold qtH;rw[if_neg hz]
  have e4:qtG acc=[.vec (acc.map qaY) 1]:=by unfold qtG;rw[if_neg hz]
  have hle:acc.length+1≤1073741824:=by omega
  rw[e3,e4]
  simp -implicitDefEqProofs only[qnG,qqA,qom,qqz,qac,qah,aOp,opd,qai,qaB,qag,leaf,qaM,qa0,qaf,qaE,qat,qaD,qaF,qa5,ren,renC,qbm,qbU,qcd,qco,qbR,qbx,qaq,qbc,beq_self_eq_true,Option.map_some,Option.getD_some,List.map_cons,List.map_nil,List.flatMap_cons,List.flatMap_nil,List.length_cons,List.length_nil,List.length_map,List.cons_append,List.nil_append,List.append_nil,List.getElem?_cons_zero,List.getElem?_cons_succ,List.set_cons_zero,List.set_cons_succ,List.take_succ_cons,List.take_zero,List.all_cons,List.all_nil,List.mem_cons,List.not_mem_nil,↓reduceIte,Bool.and_true,Bool.false_eq_true,and_true,or_false,not_false_eq_true,decide_true,decide_false,and_self,Nat.zero_add,Nat.reduceEqDiff,Nat.reduceAdd,Nat.reduceLT,Nat.reduceLeDiff,List.cons_ne_nil,qb8,List.map_append,qa1,qb1,qcs,qcU,qcX,Nat.mul_one,qqm,qeG,qlj,qmh,qhI,quD,hle,qdd,qde]
def qyA (b:IM Int) (acc:List Int):St:=⟨upd (upd (qtF b acc).tm (some 13) (.tuple [.bool false])) (some 14) (.bool false),(qtF b acc).h⟩
theorem qx3 (b:IM Int) (acc:List Int):qcO (qdg L.pure (call L)) 2 fn167_k0 (qtF b acc)=some (.normal,qyA b acc):=by
 unfold qcO fn167_k0 qyA qtF
 simp -implicitDefEqProofs only[qac,qah,aOp,opd,qai,qaB,qag,beq_self_eq_true,List.cons_append,List.nil_append,List.getElem?_cons_zero,↓reduceIte,Bool.and_true,Nat.reduceEqDiff,qqm]
theorem qvC (b:IM Int):∀ (o':IM Unit) (acc:List Int) (s:St),acc.length+o'.length<2 ^ 30→gc 3 fn167_k0.kr s=qtF b acc →
  qcj (qdg L.pure (call L)) 2 fn167_k0 (qbL L.pure (call L) qhc) (encU o') s=some (.normal,qyA b (acc++qdl o'))
 | [],acc,s,_,hs => by
   show qcO _ 2 fn167_k0 (gc 3 fn167_k0.kr s)=_
   rw[hs]
   have:acc++qdl ([]:IM Unit)=acc:=by simp[qdl]
   rw[this]
   exact qx3 b acc
 | e :: o',acc,s,hl,hs => by
   rw[List.length_cons] at hl
   have hr:=qvc (L:=L) b acc (by omega) e.1
   rw[← hs] at hr
   obtain⟨⟨x,s'⟩,h1,h2⟩:=Option.map_eq_some_iff.1 hr
   simp only[Prod.mk.injEq] at h2
   obtain⟨rfl,h2⟩:=h2
   show (match qci _ 2 fn167_k0 _ (.int .i64 e.1,.agg []) (gc 3 fn167_k0.kr s) with | some (.normal,s')=>qcj _ 2 fn167_k0 _ (encU o') s' | r=>qeG fn167_k0.id r)=_
   rw[h1]
   have:=qvC b o' (acc++[e.1]) s' (by simp;omega) h2
   rw[List.append_assoc] at this
   exact this
include hL
theorem qsq (hP:CPrims L qb0) (h236:L.fns 236=some fn236) (h196:L.fns 196=some fn196) (h167:L.fns 167=some fn167) (t:CTree) (hf:TFit t) (hh:hgt t<2 ^ 30) (hn:(qeQ t ([],[])).2.length<2 ^ 30) (h:Heap) :
  pcall L 167 [qaW t] h=some (.val (.list ((qgl t).map qaY) none),h):=by
 have hp:=hL.pure
 have hfree:=qv5 hL h236 h196 t hf 0 [] [] (by omega) (by omega) (fun v=>by simp[qgu,qcP])
 refine qbK hL h167 (by rw[qaa];exact qay _) ?_ h
 unfold qgl
 generalize qeQ t ([],[])=r at *
 obtain⟨b,o⟩:=r
 dsimp only at hfree hn ⊢
 have hrange:∀ (tm:Tmps),tm 3=.map (some 0)→tm 4=.list [] (some none)→qbL L.pure (call L) (.range fn167_k0 qhc qjY) ⟨tm,[.map (encU o),.map (encB b)]⟩ =
   some (.ret,⟨kt [2] [.list ((qb0 (qdl o)).map qaY) (if qb0 (qdl o)=[] then some none else none)],[.map (encU o),.map (encB b)]⟩):=by
  intro tm h3 h4
  refine qs5 (s1:=⟨upd tm (some 11) (.map (some 0)),[.map (encU o),.map (encB b)]⟩) (es:=encU o) ?_ ?_ ?_
  ·unfold fn167_k0
   simp -implicitDefEqProofs only[qac,qah,aOp,opd,h3]
  ·unfold fn167_k0
   simp -implicitDefEqProofs only[opd,qai,List.getElem?_cons_zero,↓reduceIte,qdG,qod,h3]
  ·intro es' hes
   have hes':es'.Perm (o.map fun p=>((.int .i64 p.1:AVal),AVal.agg [])):=hes
   obtain⟨o',hpm,rfl⟩:=qop _ hes'
   have hrun:=qvC (L:=L) b o' [] ⟨upd (upd tm (some 11) (.map (some 0))) (some 12) (.ptr (some (2,0))),[.gone,.map (encB b),.gone]⟩ (by rw[List.length_nil,hpm.length_eq];omega) ?_
   ·rw[List.nil_append] at hrun
    have hsort:qb0 (qdl o')=qb0 (qdl o):=qlI (hpm.map _)
    rw[← hsort]
    have hlen:(qdl o').length=o.length:=by unfold qdl;rw[List.length_map,hpm.length_eq]
    generalize qdl o'=ks at *
    unfold qdC
    have hh:qlC (opd (upd tm (some 11) (.map (some 0))) fn167_k0.m) [.map (encU o),.map (encB b)]=[.gone,.map (encB b),.gone]:=rfl
    have h15:fn167_k0.it=12:=rfl
    dsimp only
    rw[hh,h15]
    simp only[List.length_cons,List.length_nil]
    show Option.map _ (match qcj _ 2 _ _ (encU o') _ with | some (.normal,s2)=>_ | some (e,s2)=>_ | none=>_)=_
    rw[hrun]
    dsimp only
    have hm2:opd (upd tm (some 11) (.map (some 0))) fn167_k0.m=.map (some 0):=rfl
    have hk:fn167_k0.keep=[2]:=rfl
    rw[hm2,hk]
    have hs0:=hP.sort0
    unfold qyA qtF qjY
    by_cases hz:ks=[]
    ·subst hz
     have e3:qtH []=.list [] (some none):=rfl
     have e4:qtG []=[]:=rfl
     have e5:qb0 []=[]:=rfl
     rw[e3,e4,e5]
     simp -implicitDefEqProofs only[qad,qae,qap,qac,qah,aOp,opd,qai,qaB,gcE,qa0,qaf,qaE,qat,qaF,qa5,ren,renC,qbU,qcd,qbo,qaa,qbV,qav,qao,Option.map_some,Option.getD_some,List.map_cons,List.map_nil,List.flatMap_cons,List.flatMap_nil,List.length_cons,List.length_nil,List.nil_append,List.append_nil,List.getElem?_cons_zero,List.set_cons_zero,List.take_succ_cons,List.take_zero,↓reduceIte,Bool.and_true,Bool.false_eq_true,decide_false,Nat.zero_add,Nat.reduceEqDiff,Nat.reduceAdd,Nat.reduceLeDiff,qa1,qbO,qca,qdv,hs0,qdd,qde,qce,qcf,qaN L hp,hp]
    ·have e3:qtH ks=.vec 3 ks.length:=by unfold qtH;rw[if_neg hz]
     have e4:qtG ks=[.vec (ks.map qaY) 1]:=by unfold qtG;rw[if_neg hz]
     have hs1:=hP.sort ks hz (by omega)
     have hzs:¬ qb0 ks=[]:=fun h=>hz (by have:=qfl ks;rw[h] at this;exact List.length_eq_zero_iff.1 this.symm)
     have hsl:=qfl ks
     have hdS:=qay (qb0 ks)
     have hwS:((qb0 ks).map qaY).map wipeCell=(qb0 ks).map qaY:=by rw[List.map_map];rfl
     have hlS:((qb0 ks).map qaY).all leaf=true:=by
      rw[List.all_eq_true]
      intro x hx
      obtain⟨y,_,rfl⟩:=List.mem_map.1 hx
      rfl
     generalize qb0 ks=ss at *
     rw[e3,e4]
     simp -implicitDefEqProofs only[qad,qae,qap,qac,qah,aOp,opd,qai,qaB,gcE,qa0,qaf,qaE,qat,qaD,qaF,qa5,ren,renC,qbU,qcd,qaa,qfj,qav,qao,Option.map_some,Option.getD_some,List.map_cons,List.map_nil,List.flatMap_cons,List.flatMap_nil,List.length_cons,List.length_nil,List.length_map,List.cons_append,List.nil_append,List.append_nil,List.getElem?_cons_zero,List.getElem?_cons_succ,List.set_cons_zero,List.set_cons_succ,List.take_succ_cons,List.take_zero,List.take_nil,List.all_cons,List.all_nil,List.not_mem_nil,↓reduceIte,Bool.and_true,Bool.false_eq_true,true_and,false_and,not_false_eq_true,decide_true,decide_false,and_self,Nat.zero_le,reduceCtorEq,Nat.zero_add,Nat.reduceEqDiff,Nat.reduceAdd,Nat.reduceLT,Nat.reduceLeDiff,qa1,qbO,qca,qcC,qc0,frz,frzC,qja,qec,qc2,qe3,qc3,qdu,qc1,qgN,qeb,qcL,qvn,qcs,qdj,qcU,qdk,qcX,Nat.mul_one,qdv,hs1,hsl,hzs,hdS,hwS,hlS,qdd,qde,qce,qcf,qaN L hp,hp]
   ·unfold qtF fn167_k0
    have e3:qtH []=.list [] (some none):=rfl
    have e4:qtG []=[]:=rfl
    rw[e3,e4]
    simp -implicitDefEqProofs only[qai,qa0,qaf,qaE,qat,qaD,qaF,qa5,ren,renC,qbm,qbU,qcd,qco,qbV,qbc,qav,List.map_cons,List.map_nil,List.flatMap_cons,List.flatMap_nil,List.length_cons,List.length_nil,List.nil_append,List.append_nil,List.take_succ_cons,List.take_nil,List.not_mem_nil,↓reduceIte,Bool.false_eq_true,and_true,not_false_eq_true,decide_false,Nat.le_refl,Nat.zero_add,Nat.reduceEqDiff,Nat.reduceAdd,Nat.reduceLT,Nat.reduceLeDiff,h4,qdd,qde]
 obtain⟨tc,htc,hdt⟩:=qcH t
 have hn0:encB []=[]:=rfl
 have hn1:encU []=[]:=rfl
 rw[hn0,hn1] at hfree
 rw[htc] at hfree ⊢
 generalize (if qb0 (qdl o)=[] then some none else none:Option (Option Nat))=ow at *
 unfold fn167
 generalize fn167_k0=kk at *
 generalize qhc=bb at *
 generalize qjY=aa at *
 simp -implicitDefEqProofs only[qad,qae,qac,qah,aOp,opd,qai,qak,qaB,qaT,qan,qax,qaH,qat,qaD,qa5,ren,renC,qgQ,qbU,qcd,qgF,qbY,qbD,qiW,qfj,qaQ,qbB,qav,qao,Option.getD_some,List.map_cons,List.map_nil,List.flatMap_cons,List.flatMap_nil,List.length_cons,List.length_nil,List.cons_append,List.nil_append,List.append_nil,List.getElem?_cons_zero,List.getElem?_cons_succ,List.take_succ_cons,List.take_nil,List.all_cons,List.all_nil,List.mem_cons,List.not_mem_nil,↓reduceIte,Bool.and_true,Bool.and_false,Bool.false_eq_true,or_false,not_false_eq_true,decide_true,and_self,Nat.le_refl,Nat.zero_le,reduceCtorEq,Nat.zero_add,Nat.reduceEqDiff,Nat.reduceAdd,Nat.reduceLT,qec,qc2,qe3,qc3,qdu,qc1,qgN,qeb,qcL,qaI,hfree,hrange,hdt,qdd,qde,qce,qcf,qaN L hp,hp]
end
end Go.Abs
