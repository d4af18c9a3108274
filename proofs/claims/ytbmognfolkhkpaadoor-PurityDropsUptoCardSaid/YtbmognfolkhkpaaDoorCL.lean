/-
  PARTS OF A PROOF, joined: an abstract machine for quiet code, its evaluation, and what the seat's functions answer on it. Conditions: none.
-/
import Derived.Test.YtbmognfolkhkpaaDoorCJ
set_option linter.unusedVariables false
set_option linter.unusedSimpArgs false
set_option maxRecDepth 100000
set_option maxHeartbeats 4000000
namespace Go.Abs
abbrev FS:=IM Int × IM Unit
def qiI (v:Int) (b:IM Int):Int:=(qc8 v b).getD 0
def qip (d:Int) (b:IM Int) (n:Int):IM Int:=qqg n (qiI n b+d) b
def qe9 (op n:Int) (s:FS):FS:=if op=0∧qiI n s.1=0 then (s.1,qqg n () s.2) else s
mutual
def qfh:CTree→FS→FS
 | .mk op n binds kids alts,s=>qfp op binds alts kids 0 (qe9 op n s)
def qfp (op:Int) (binds:List Int) (alts:List CAlt):List CTree→Nat→FS→FS
 | [],_,s=>s
 | kid :: ks,k,s =>
   qfp op binds alts ks (k+1)
    ((qdB op binds alts k).foldl (qip (-1)) (qfh kid ((qdB op binds alts k).foldl (qip 1) s.1,s.2)).1,(qfh kid ((qdB op binds alts k).foldl (qip 1) s.1,s.2)).2)
end
mutual
def hgt:CTree→Nat
 | .mk _ _ _ kids _=>qeB kids+1
def qeB:List CTree→Nat
 | []=>0
 | k::ks=>max (hgt k) (qeB ks)
end
theorem qhe {k:CTree} {ks:List CTree} (h:k∈ks):hgt k≤qeB ks:=by
 induction ks with
 | nil=>cases h
 | cons x xs ih =>
   unfold qeB
   rcases List.mem_cons.1 h with rfl | h
   ·omega
   ·have:=ih h;omega
inductive TFit:CTree→Prop
 | mk (op n:Int) (binds:List Int) (kids:List CTree) (alts:List CAlt) (hb:(binds++alts.flatMap (·.binds)).length<2 ^ 30) (hk:kids.length<2 ^ 30) (ha:alts.length<2 ^ 30) (h:∀ k∈kids,TFit k):TFit (.mk op n binds kids alts)
theorem qjK (alts:List CAlt) {a:CAlt} (h:a∈alts):a.binds.length≤(alts.flatMap (·.binds)).length:=by
 induction alts with
 | nil=>cases h
 | cons x xs ih =>
   rw[List.flatMap_cons,List.length_append]
   rcases List.mem_cons.1 h with rfl | h
   ·omega
   ·have:=ih h;omega
theorem qrk (op:Int) (binds:List Int) (alts:List CAlt) (k:Nat):(qdB op binds alts k).length≤(binds++alts.flatMap (·.binds)).length:=by
 unfold qdB
 rw[List.length_append]
 split
 ·omega
 ·split
  ·split
   ·rename_i a ha
    have:=qjK alts (List.mem_of_getElem? ha)
    omega
   ·simp
  ·simp
theorem qmm (v n x:Int) (b:IM Int):qiI v (qqg n x b)=if v=n then x else qiI v b:=by
 unfold qiI
 rw[qkp]
 split<;>rfl
def MB (lo hi:Int) (b:IM Int):Prop:=∀ v,lo≤qiI v b∧qiI v b≤hi
theorem MB.up {lo hi:Int} {b:IM Int} (h:MB lo hi b) (n:Int):MB lo (hi+1) (qip 1 b n):=by
 intro v
 unfold qip
 rw[qmm]
 have h1:=h v
 have h2:=h n
 split<;>omega
theorem MB.down {lo hi:Int} {b:IM Int} (h:MB lo hi b) (n:Int):MB (lo-1) hi (qip (-1) b n):=by
 intro v
 unfold qip
 rw[qmm]
 have h1:=h v
 have h2:=h n
 split<;>omega
theorem MB.ups {lo:Int}:∀ (l:List Int) {hi:Int} {b:IM Int},MB lo hi b→MB lo (hi+l.length) (l.foldl (qip 1) b)
 | [],hi,b,h=>by simpa using h
 | n :: l,hi,b,h => by
   have:=MB.ups l (h.up n)
   rw[List.foldl_cons,List.length_cons]
   rw[show hi+((l.length+1:Nat):Int)=hi+1+l.length by omega]
   exact this
def qxK (v:Int) (l:List Int):Int:=(l.count v:Int)
theorem qeP (d v:Int):∀ (l:List Int) (b:IM Int),qiI v (l.foldl (qip d) b)=qiI v b+d*qxK v l
 | [],b=>by simp[qxK]
 | n :: l,b => by
   rw[List.foldl_cons,qeP d v l]
   unfold qip qxK
   rw[qmm,List.count_cons]
   by_cases h:v=n
   ·subst h
    simp
    rw[Int.mul_add]
    omega
   ·have:(n==v)=false:=by simpa using fun e=>h e.symm
    simp[h,this]
mutual
theorem qkw (v:Int):∀ (t:CTree) (s:FS),qiI v (qfh t s).1=qiI v s.1
 | .mk op n binds kids alts,s => by
   rw[qfh,qlI v op binds alts kids]
   unfold qe9
   split<;>rfl
theorem qlI (v op:Int) (binds:List Int) (alts:List CAlt):∀ (ks:List CTree) (k:Nat) (s:FS),qiI v (qfp op binds alts ks k s).1=qiI v s.1
 | [],_,s=>by rw[qfp]
 | kid :: ks,k,s => by
   rw[qfp,qlI v op binds alts ks,qeP,qkw v kid,qeP]
   omega
end
abbrev encB:IM Int→List (AVal × AVal):=qlf qa4
theorem qhu (b:IM Int):qoH (.map (encB b))=[]:=qxd _ (fun _=>rfl) b
theorem qhv (ρ:Nat→Option Nat) (b:IM Int):qgg ρ (.map (encB b))=.map (encB b):=qxw _ (fun _=>rfl) ρ b
theorem qww (h:Heap) (r:Nat) (v:Int) (m:IM Int) (hr:h[r]? = some (.map (encB m))):qiF h .int (.int .i64 0) false (.map (some r)) (.int .i64 v)=some (.int .i64 (qiI v m)):=by
 rw[qr4 qa4 h r _ false v m hr]
 unfold qiI
 cases qc8 v m<;>rfl
theorem qye (h:Heap) (r:Nat) (v x:Int) (m:IM Int) (hr:h[r]? = some (.map (encB m))):qeN h .int (.map (some r)) (.int .i64 v) (.int .i64 x)=some (h.set r (.map (encB (qqg v x m)))) :=
 qxP qa4 h r v x m rfl hr
section
variable {L:Lib} (hL:Plain L)
def qrD (A:AVal) (kid:CTree) (l:List Int) (K:List AVal) (n k:Nat) (o:IM Unit) (b:IM Int) (j:Nat):St :=
 ⟨kt [0,1,2,7,8,36,37,38,46,47,48] [A,.map (some 0),.map (some 1),qa1 kid,.list (l.map qa4) none,.list K none,.int .i64 n,.int .i64 k,.list (l.map qa4) none,.int .i64 l.length,.int .i64 j],[.map (encB b),.map (encU o)]⟩
def qtr (A:AVal) (kid:CTree) (l:List Int) (K:List AVal) (n k:Nat) (o:IM Unit) (b:IM Int):St :=
 ⟨kt [0,1,2,7,8,36,37,38] [A,.map (some 0),.map (some 1),qa1 kid,.list (l.map qa4) none,.list K none,.int .i64 n,.int .i64 k],[.map (encB b),.map (encU o)]⟩
theorem qu6 (A:AVal) (hA:qbd A=true) (kid:CTree) (l:List Int) (hl:l.length<2 ^ 30) (K:List AVal) (hK:qaZ K=true) (n k:Nat) (o:IM Unit) (b:IM Int) (c:Int) (hc:0≤c) (hc2:c+2 ^ 30<2 ^ 62) (hb:MB 0 c b) :
  qb7 L.pure (call L) 2 [0,1,2,7,8,36,37,38,46,47,48] [0,1,2,7,8,36,37,38] 2 qjN (qrD A kid l K n k o b 0)=some (.normal,qtr A kid l K n k o (l.foldl (qip 1) b)):=by
 have hT:=qc3 kid
 refine (qiT l (qip 1) (qrD A kid l K n k o) (qtr A kid l K n k o) (fun b j=>MB 0 (c+(j:Nat)) b) b (by simpa using hb) ?_ ?_).2
 ·intro j hj b hb
  obtain⟨h1,h2,h3⟩:=qbF qa4 l hl j hj
  refine⟨?_,by have:=hb.up l[j];rw[show c+((j+1:Nat):Int)=c+(j:Nat)+1 by omega];exact this⟩
  generalize l[j]=v at *
  have hv:=hb v
  have w:IntKind.i64.wrap (qiI v b+1)=qiI v b+1:=qc5 (by omega) (by omega)
  have hlk:=fun (h:Heap) (hr:h[0]? = some (.map (encB b)))=>qww h 0 v b hr
  have hup:=fun (h:Heap) (hr:h[0]? = some (.map (encB b)))=>qye h 0 v (qiI v b+1) b hr
  unfold qjN qrD qip
  simp -implicitDefEqProofs only[qam,qad,qae,qab,qai,qac,qah,aOp,opd,qak,qaW,qaB,qag,qaV,qba,qa8,qan,qaj,qay,qaJ,qaX,qaf,qaF,qas,qaH,qaG,qa5,ren,renC,qbT,qb2,qaa,qaq,qcd,List.map_cons,List.map_nil,List.flatMap_cons,List.flatMap_nil,List.length_cons,List.length_nil,List.cons_append,List.nil_append,List.append_nil,List.getElem?_cons_zero,List.set_cons_zero,List.take_succ_cons,List.take_nil,List.not_mem_nil,↓reduceIte,Bool.false_eq_true,and_true,not_false_eq_true,decide_true,decide_false,Nat.le_refl,reduceCtorEq,Nat.zero_add,Nat.reduceEqDiff,Nat.reduceAdd,Nat.reduceLT,Nat.reduceLeDiff,Int.toNat_natCast,Int.natCast_nonneg,qaz,qa0,qbM,qaA,h1,h2,h3,hlk,hup,w,hA,hT,hK,qhu,qhv,qb9,qca]
 ·intro b _
  have h0:=qbG l.length
  unfold qjN qrD qtr
  simp -implicitDefEqProofs only[qad,qae,qab,qbj,qac,qah,aOp,opd,qak,qaB,qag,qba,qa8,qaj,gcE,qaX,qaf,qaF,qas,qaH,qaG,qa5,ren,renC,qbT,qb2,qaa,qaq,qcd,List.map_cons,List.map_nil,List.flatMap_cons,List.flatMap_nil,List.length_cons,List.length_nil,List.cons_append,List.nil_append,List.append_nil,List.take_succ_cons,List.take_nil,List.not_mem_nil,↓reduceIte,Bool.false_eq_true,and_true,not_false_eq_true,decide_false,Nat.le_refl,reduceCtorEq,Nat.zero_add,Nat.reduceEqDiff,Nat.reduceAdd,Nat.reduceLT,Nat.reduceLeDiff,qaz,qa0,qaA,h0,hA,hT,hK,qhu,qhv,qb9,qca]
def qrE (A:AVal) (l:List Int) (K:List AVal) (n k:Nat) (o:IM Unit) (b:IM Int) (j:Nat):St :=
 ⟨kt [0,1,2,36,37,38,61,62,63] [A,.map (some 0),.map (some 1),.list K none,.int .i64 n,.int .i64 k,.list (l.map qa4) none,.int .i64 l.length,.int .i64 j],[.map (encB b),.map (encU o)]⟩
def qmu (A:AVal) (K:List AVal) (n k:Nat) (o:IM Unit) (b:IM Int):St :=
 ⟨kt [0,1,2,36,37,38] [A,.map (some 0),.map (some 1),.list K none,.int .i64 n,.int .i64 k],[.map (encB b),.map (encU o)]⟩
theorem qu7 (A:AVal) (hA:qbd A=true) (l:List Int) (hl:l.length<2 ^ 30) (K:List AVal) (hK:qaZ K=true) (n k:Nat) (o:IM Unit) (b:IM Int) (c:Int) (hc:0≤c) (hc2:c<2 ^ 62) (hb:MB 0 c b) :
  qb7 L.pure (call L) 2 [0,1,2,36,37,38,61,62,63] [0,1,2,36,37,38] 4 qjO (qrE A l K n k o b 0)=some (.normal,qmu A K n k o (l.foldl (qip (-1)) b)):=by
 refine (qiT l (qip (-1)) (qrE A l K n k o) (qmu A K n k o) (fun b j=>MB (-(j:Nat)) c b) b (by simpa using hb) ?_ ?_).2
 ·intro j hj b hb
  obtain⟨h1,h2,h3⟩:=qbF qa4 l hl j hj
  refine⟨?_,by have:=hb.down l[j];rw[show -((j+1:Nat):Int) = -(j:Nat)-1 by omega];exact this⟩
  generalize l[j]=v at *
  have hv:=hb v
  have w:IntKind.i64.wrap (qiI v b-1)=qiI v b + -1:=by rw[qc5 (by omega) (by omega)];rfl
  have hlk:=fun (h:Heap) (hr:h[0]? = some (.map (encB b)))=>qww h 0 v b hr
  have hup:=fun (h:Heap) (hr:h[0]? = some (.map (encB b)))=>qye h 0 v (qiI v b + -1) b hr
  unfold qjO qrE qip
  simp -implicitDefEqProofs only[qam,qad,qae,qab,qai,qac,qah,aOp,opd,qak,qaW,qaB,qag,qaV,qba,qa8,qan,qaj,qay,qaJ,qaX,qaf,qaF,qas,qaH,qaG,qa5,ren,renC,qbT,qb2,qaa,qaq,qcd,List.map_cons,List.map_nil,List.flatMap_cons,List.flatMap_nil,List.length_cons,List.length_nil,List.cons_append,List.nil_append,List.append_nil,List.getElem?_cons_zero,List.set_cons_zero,List.take_succ_cons,List.take_nil,List.not_mem_nil,↓reduceIte,Bool.false_eq_true,and_true,not_false_eq_true,decide_true,decide_false,Nat.le_refl,reduceCtorEq,Nat.zero_add,Nat.reduceEqDiff,Nat.reduceAdd,Nat.reduceLT,Nat.reduceLeDiff,Int.toNat_natCast,Int.natCast_nonneg,qaz,Int.reduceNeg,qa0,qbM,qaA,h1,h2,h3,hlk,hup,w,hA,hK,qhu,qhv,qb9,qca]
 ·intro b _
  have h0:=qbG l.length
  unfold qjO qrE qmu
  simp -implicitDefEqProofs only[qad,qae,qab,qbj,qac,qah,aOp,opd,qak,qaB,qag,qba,qa8,qaj,gcE,qaX,qaf,qaF,qas,qaH,qaG,qa5,ren,renC,qbT,qb2,qaa,qaq,qcd,List.map_cons,List.map_nil,List.flatMap_cons,List.flatMap_nil,List.length_cons,List.length_nil,List.cons_append,List.nil_append,List.append_nil,List.take_succ_cons,List.take_nil,List.not_mem_nil,↓reduceIte,Bool.false_eq_true,and_true,not_false_eq_true,decide_false,Nat.le_refl,reduceCtorEq,Nat.zero_add,Nat.reduceEqDiff,Nat.reduceAdd,Nat.reduceLT,Nat.reduceLeDiff,qaz,qa0,h0,hA,hK,qhu,qhv,qb9,qca]
def qig (op:Int) (binds:List Int) (alts:List CAlt) (k:Nat) (s:FS) (kid:CTree):FS :=
 ((qdB op binds alts k).foldl (qip (-1)) (qfh kid ((qdB op binds alts k).foldl (qip 1) s.1,s.2)).1,(qfh kid ((qdB op binds alts k).foldl (qip 1) s.1,s.2)).2)
theorem qkv (op:Int) (binds:List Int) (alts:List CAlt):∀ (ks:List CTree) (k:Nat) (s:FS),qcu (fun k s kid=>(.ok (qig op binds alts k s kid):Except Unit FS)) ks k s=.ok (qfp op binds alts ks k s)
 | [],k,s=>by rw[qfp];rfl
 | kid::ks,k,s=>by rw[qcu,qfp];exact qkv op binds alts ks (k+1) _
theorem qmz (op:Int) (binds:List Int) (alts:List CAlt) (k:Nat) (s:FS) (kid:CTree) (v:Int):qiI v (qig op binds alts k s kid).1=qiI v s.1:=by
 unfold qig
 dsimp only
 rw[qeP,qkw v kid,qeP]
 omega
include hL
theorem qu8 (h236:L.fns 236=some fn236) (op n:Int) (binds:List Int) (kids:List CTree) (alts:List CAlt) (hb:(binds++alts.flatMap (·.binds)).length<2 ^ 30) (hk:kids.length<2 ^ 30) (ha:alts.length<2 ^ 30)
  (c:Int) (hc:0≤c) (hc2:c+2 ^ 30<2 ^ 62) (s0:FS) (hs0:MB 0 c s0.1)
  (ih:∀ kid∈kids,∀ (b:IM Int) (o:IM Unit),MB 0 (c+2 ^ 30) b→call L 196 [qa1 kid,.map (some 0),.map (some 1)] [.map (encB b),.map (encU o)]=some (.val (.tuple []),[.map (encB (qfh kid (b,o)).1),.map (encU (qfh kid (b,o)).2)])) :
  qb7 L.pure (call L) 2 [0,1,2,36,37,38] [] 0 qjP (qmu (.vptr [.int .i64 op,.int .i64 n,.list (binds.map qa4) none,.list (kids.map qa1) none,.list (alts.map qa6) none] 0) (kids.map qa1) kids.length 0 s0.2 s0.1) =
   some (.normal,⟨kt [] [],[.map (encB (qfp op binds alts kids 0 s0).1),.map (encU (qfp op binds alts kids 0 s0).2)]⟩):=by
 have hp:=hL.pure
 have hA:qbd (.vptr [.int .i64 op,.int .i64 n,.list (binds.map qa4) none,.list (kids.map qa1) none,.list (alts.map qa6) none] 0)=true:=by
  simp only[qbd,qaZ,qaA,qaP,qb0,Bool.and_self]
 have hK:=qb0 kids
 refine ((qcY kids (fun k s kid=>(.ok (qig op binds alts k s kid):Except Unit FS)) (fun s k=>qmu (.vptr [.int .i64 op,.int .i64 n,.list (binds.map qa4) none,.list (kids.map qa1) none,.list (alts.map qa6) none] 0) (kids.map qa1) kids.length k s.2 s.1)
  (fun s=>⟨kt [] [],[.map (encB s.1),.map (encU s.2)]⟩) (fun _ _=>False) (fun s _=>MB 0 c s.1) s0 hs0 ?_ ?_ ?_).1 _ (qkv op binds alts kids 0 s0)).2
 ·intro k hk' s s' hs hq
  injection hq with hq
  subst hq
  refine⟨?_,fun v=>by rw[qmz];exact hs v⟩
  obtain⟨h1,h2,h3⟩:=qbF qa1 kids hk k hk'
  have hbo:=qtd hL h236 op n binds (.list (kids.map qa1) none) alts ha k (by omega)
  have hbl:=qrk op binds alts k
  have ihk:=ih kids[k] (List.getElem_mem hk')
  unfold qig
  generalize kids[k]=kid at *
  have hT:=qc3 kid
  generalize qdB op binds alts k=l at *
  have hl0:=qu6 (L:=L) _ hA kid l (by omega) (kids.map qa1) hK kids.length k s.2 s.1 c hc (by omega) hs
  have hup:=MB.ups l hs
  have hup2:MB 0 (c+2 ^ 30) (l.foldl (qip 1) s.1):=fun v=>⟨(hup v).1,by have:=(hup v).2;omega⟩
  have ihk:=ihk (l.foldl (qip 1) s.1) s.2 hup2
  have hl1:=qu7 (L:=L) _ hA l (by omega) (kids.map qa1) hK kids.length k (qfh kid (l.foldl (qip 1) s.1,s.2)).2 (qfh kid (l.foldl (qip 1) s.1,s.2)).1 (c+2 ^ 30) (by omega) (by omega)
   (fun v=>by rw[qkw];exact hup2 v)
  generalize qfh kid (l.foldl (qip 1) s.1,s.2)=r at *
  unfold qrD qtr at hl0
  unfold qrE qmu at hl1
  simp only[Int.natCast_zero] at hl0 hl1
  obtain⟨tc,htc,hdt⟩:=qdT kid
  rw[htc] at ihk hl0 h3 hT
  unfold qjP qmu
  simp -implicitDefEqProofs only[qam,qad,qae,qab,qai,qac,qah,aOp,opd,qak,qaB,qag,qba,qcb,qa8,qan,qaj,qay,qbg,qaU,qaX,qaf,qaF,qas,qaH,qaG,qa5,ren,renC,qbT,qb2,qbw,qbv,qqn,qaa,qaq,qgv,qaQ,qcd,qav,qat,Option.getD_some,List.map_cons,List.map_nil,List.flatMap_cons,List.flatMap_nil,List.length_cons,List.length_nil,List.length_map,List.cons_append,List.nil_append,List.append_nil,List.getElem?_cons_zero,List.getElem?_cons_succ,List.take_succ_cons,List.take_nil,List.all_cons,List.all_nil,List.mem_cons,List.not_mem_nil,↓reduceIte,Bool.and_true,Bool.and_false,Bool.false_eq_true,and_true,or_false,not_false_eq_true,decide_true,decide_false,and_self,Nat.le_refl,Nat.zero_le,reduceCtorEq,Nat.zero_add,Nat.reduceEqDiff,Nat.reduceAdd,Nat.reduceLT,Nat.reduceLeDiff,Int.toNat_natCast,Int.natCast_nonneg,qaz,Int.reduceNeg,qa0,qfa,qdM,qgu,qdN,qer,qdL,qjq,qe1,qdh,qaA,qaP,h1,h2,h3,hbo,hl0,ihk,hl1,hK,hT,hdt,qhu,qhv,qb9,qca,qaK L hp,hp,qfE,List.range_succ,List.range_zero]
 ·intro k hk' s e hs hq
  cases hq
 ·intro s _
  have h0:=qbG kids.length
  unfold qjP qmu
  simp -implicitDefEqProofs only[qad,qae,qab,qbj,qac,qah,aOp,opd,qak,qaB,qag,qba,qa8,qaj,gcE,qaX,qqC,qaF,qas,qaG,qa5,ren,renC,qbT,qb2,List.map_cons,List.map_nil,List.flatMap_cons,List.flatMap_nil,List.length_cons,List.length_nil,List.append_nil,List.take_succ_cons,List.take_nil,↓reduceIte,Bool.false_eq_true,decide_false,Nat.le_refl,reduceCtorEq,Nat.zero_add,Nat.reduceEqDiff,Nat.reduceAdd,qaz,qa0,h0,hK,qhu,qhv,qb9,qca]
theorem qu9 (h236:L.fns 236=some fn236) (h196:L.fns 196=some fn196):∀ (t:CTree),TFit t→∀ (c:Int) (b:IM Int) (o:IM Unit),0≤c→c+2 ^ 30*(hgt t:Int)<2 ^ 62→MB 0 c b →
  call L 196 [qa1 t,.map (some 0),.map (some 1)] [.map (encB b),.map (encU o)]=some (.val (.tuple []),[.map (encB (qfh t (b,o)).1),.map (encU (qfh t (b,o)).2)]):=by
 have hs:L.summ 196=none:=hL.summ 196 (by rw[h196];exact fun hx=>by cases hx)
 intro t
 induction t using CTree.ind with
 | h op n binds kids alts ih =>
   intro hf c b o hc hc2 hb
   cases hf with
   | mk _ _ _ _ _ hbf hkf haf hfk =>
     rw[hgt] at hc2
     have hloop:=qu8 hL h236 op n binds kids alts hbf hkf haf c hc (by omega) (qe9 op n (b,o)) (by unfold qe9;split<;>exact hb) (by
      intro kid hkid b' o' hb'
      have hh:=qhe hkid
      exact ih kid hkid (hfk kid hkid) (c+2 ^ 30) b' o' (by omega) (by omega) hb')
     rw[qfh]
     refine qbH hs h196 ?_
     rw[qbJ]
     have hK:=qb0 kids
     unfold qmu at hloop
     simp only[Int.natCast_zero] at hloop
     have hlk:=fun (h:Heap) (hr:h[0]? = some (.map (encB b)))=>qww h 0 n b hr
     have hup:=fun (h:Heap) (hr:h[1]? = some (.map (encU o)))=>qxP (fun _:Unit=>AVal.agg []) h 1 n () o rfl hr
     unfold qe9 at hloop ⊢
     by_cases h0:op=0
     ·subst h0
      by_cases hz:qiI n b=0
      ·rw[if_pos ⟨rfl,hz⟩] at hloop ⊢
       dsimp only at hloop
       unfold fn196
       simp -implicitDefEqProofs only[qad,qae,qab,qac,qap,qah,aOp,opd,qak,qaW,qal,qag,qaV,qba,qcb,qa8,qaj,qax,qay,qaE,qcK,qaS,qao,qaI,qaU,qaX,qaf,qaF,qas,qaH,qaG,qa5,ren,renC,qbT,qb2,qaa,qaq,qaQ,qcd,qav,qat,beq_self_eq_true,Option.map_some,Option.getD_some,List.map_cons,List.map_nil,List.flatMap_cons,List.flatMap_nil,List.length_cons,List.length_nil,List.length_map,List.cons_append,List.nil_append,List.append_nil,List.getElem?_cons_zero,List.getElem?_cons_succ,List.set_cons_zero,List.set_cons_succ,List.take_succ_cons,List.take_nil,List.not_mem_nil,↓reduceIte,Bool.and_true,Bool.false_eq_true,and_true,not_false_eq_true,decide_false,Nat.le_refl,reduceCtorEq,Nat.add_zero,Nat.zero_add,Nat.reduceEqDiff,Nat.reduceAdd,Nat.reduceLT,Nat.reduceLeDiff,qaA,qaP,hlk,hup,hz,hloop,hK,qhu,qhv,qb9,qca]
      ·have hz':(qiI n b==0)=false:=by simpa using hz
       rw[if_neg (fun h=>hz h.2)] at hloop ⊢
       dsimp only at hloop
       unfold fn196
       simp -implicitDefEqProofs only[qam,qad,qae,qab,qac,qap,qah,aOp,opd,qak,qal,qag,qba,qcb,qa8,qaj,qax,qay,qaE,qaS,qao,qaI,qaU,qaX,qaf,qaF,qas,qaH,qaG,qa5,ren,renC,qbT,qb2,qaa,qaq,qaQ,qcd,qav,qat,beq_self_eq_true,Option.getD_some,List.map_cons,List.map_nil,List.flatMap_cons,List.flatMap_nil,List.length_cons,List.length_nil,List.length_map,List.cons_append,List.nil_append,List.append_nil,List.getElem?_cons_zero,List.getElem?_cons_succ,List.take_succ_cons,List.take_nil,List.not_mem_nil,↓reduceIte,Bool.and_true,Bool.false_eq_true,and_true,not_false_eq_true,decide_false,Nat.le_refl,reduceCtorEq,Nat.add_zero,Nat.zero_add,Nat.reduceEqDiff,Nat.reduceAdd,Nat.reduceLT,Nat.reduceLeDiff,qaA,qaP,hlk,hz',hloop,hK,qhu,qhv,qb9,qca]
     ·have h0':(op==0)=false:=by simpa using h0
      rw[if_neg (fun h=>h0 h.1)] at hloop ⊢
      dsimp only at hloop
      unfold fn196
      simp -implicitDefEqProofs only[qam,qad,qae,qab,qac,qap,qah,aOp,opd,qak,qal,qag,qba,qcb,qa8,qaj,qax,qay,qaE,qaS,qao,qaI,qaU,qaX,qaf,qaF,qas,qaH,qaG,qa5,ren,renC,qbT,qb2,qaa,qaq,qaQ,qcd,qav,qat,qbN,Option.getD_some,List.map_cons,List.map_nil,List.flatMap_cons,List.flatMap_nil,List.length_cons,List.length_nil,List.length_map,List.cons_append,List.nil_append,List.append_nil,List.getElem?_cons_zero,List.getElem?_cons_succ,List.take_succ_cons,List.take_nil,List.not_mem_nil,↓reduceIte,Bool.and_true,Bool.false_eq_true,and_true,not_false_eq_true,decide_false,Nat.le_refl,reduceCtorEq,Nat.add_zero,Nat.zero_add,Nat.reduceEqDiff,Nat.reduceAdd,Nat.reduceLT,Nat.reduceLeDiff,qaA,qaP,h0',hloop,hK,qhu,qhv,qb9,qca]
end
end Go.Abs
set_option linter.unusedVariables false
set_option linter.unusedSimpArgs false
set_option maxRecDepth 100000
set_option maxHeartbeats 4000000
namespace Go.Abs
def qve (n:Int):List Int→List Int
 | []=>[n]
 | m::l=>if n≤m then n::m::l else m::qve n l
def qbY (l:List Int):List Int:=l.foldr qve []
theorem qkA (n:Int):∀ l,(qve n l).Perm (n::l)
 | []=>.refl _
 | m :: l => by
   unfold qve
   split
   ·exact .refl _
   ·exact ((qkA n l).cons m).trans (.swap n m l)
theorem qkB (n:Int):∀ {l:List Int},l.Pairwise (· ≤ ·)→(qve n l).Pairwise (· ≤ ·)
 | [],_=>by simp[qve]
 | m :: l,h => by
   rw[List.pairwise_cons] at h
   unfold qve
   split
   ·rename_i hnm
    rw[List.pairwise_cons]
    refine⟨fun x hx=>?_,List.pairwise_cons.2 h⟩
    rcases List.mem_cons.1 hx with rfl | hx
    ·exact hnm
    ·have:=h.1 x hx;omega
   ·rw[List.pairwise_cons]
    refine⟨fun x hx=>?_,qkB n h.2⟩
    rcases List.mem_cons.1 ((qkA n l).mem_iff.1 hx) with rfl | hx
    ·omega
    ·exact h.1 x hx
theorem qd2:∀ l,(qbY l).Perm l
 | []=>.refl _
 | n::l=>(qkA n (qbY l)).trans ((qd2 l).cons n)
theorem qd3:∀ l,(qbY l).Pairwise (· ≤ ·)
 | []=>.nil
 | n::l=>qkB n (qd3 l)
theorem qol {a b:List Int} (ha:a.Pairwise (· ≤ ·)) (hb:b.Pairwise (· ≤ ·)) (h:a.Perm b):a=b :=
 List.Perm.eq_of_pairwise (le:=fun x y:Int=>x≤y) (fun x y _ _ h1 h2=>by omega) ha hb h
theorem qlm {a b:List Int} (h:a.Perm b):qbY a=qbY b :=
 qol (qd3 a) (qd3 b) ((qd2 a).trans (h.trans (qd2 b).symm))
theorem qfc (l:List Int):(qbY l).length=l.length:=(qd2 l).length_eq
theorem qn5 {α β:Type} (f:α→β):∀ {es:List β} {l:List α},es.Perm (l.map f)→∃ l':List α,l'.Perm l∧es=l'.map f
 | [],l,h => by
   have:=h.symm.eq_nil
   rw[List.map_eq_nil_iff] at this
   exact⟨[],by rw[this],rfl⟩
 | e :: es,l,h => by
   obtain⟨x,hx,rfl⟩:=List.mem_map.1 (h.mem_iff.1 (List.mem_cons_self ..))
   obtain⟨s,t,rfl⟩:=List.append_of_mem hx
   have h1:(f x::es).Perm (f x::(s++t).map f):=by
    refine h.trans ?_
    rw[List.map_append,List.map_cons,List.map_append]
    exact List.perm_middle
   obtain⟨l',h2,rfl⟩:=qn5 f h1.cons_inv
   exact⟨x::l',(h2.cons x).trans List.perm_middle.symm,rfl⟩
theorem qsr {pure:Nat→Bool} {call:CallT} {k:RangeK} {b c:ACode} {s s1:St} {es:List (AVal × AVal)} {r:AExit × St} (hpre:qdm pure call k.pre s=some (.normal,s1)) (hes:qep k.str (opd s1.tm k.m) s1.h=some es)
  (hall:∀ es',qdt k.str es es'→qdy (qdm pure call) k (qbQ pure call b) (qbQ pure call c) s s1 es'=some r):qbQ pure call (.range k b c) s=some r:=by
 rw[qbQ,qgF,hpre]
 dsimp only
 rw[hes]
 exact (qd6 (qcU _ _)).2 hall
def qfs {β:Type} (m:IM β):List Int:=m.map (·.1)
def qif (t:CTree):List Int:=qbY (qfs (qfh t ([],[])).2)
def qs4 (acc:List Int):AVal:=if acc=[] then .list [] (some none) else .vec 3 acc.length
def qs3 (acc:List Int):Heap:=if acc=[] then [] else [.vec (acc.map qa4) 1]
def qs2 (b:IM Int) (acc:List Int):St:=⟨kt [4,12] [qs4 acc,.ptr (some (2,0))],[.gone,.map (encB b),.gone]++qs3 acc⟩
theorem qtP (id n:Nat):qgw (.vec id n)=false:=rfl
theorem qwn:qgw (.list [] (some none))=true:=rfl
theorem qlZ (pure:Nat→Bool) (call:CallT) (sz bytes:Nat) (x y:Opd) (tm:Tmps) (h:Heap):qlq pure call (.append sz bytes x y) tm h =
  if qgw (opd tm x)=true then (match qfF h sz (opd tm x) (opd tm y) with | some (v,h')=>some (.val v,h') | none=>none) else aOp pure call (.append sz bytes x y) tm h:=rfl
theorem qhr (pure:Nat→Bool) (call:CallT) (sz:Nat) (ps:List Opd) (tm:Tmps) (h:Heap):qlq pure call (.buildSlice sz ps) tm h=aOp pure call (.buildSlice sz ps) tm h:=rfl
section
variable {L:Lib} (hL:Plain L)
theorem quh (b:IM Int) (acc:List Int) (hl:acc.length<2 ^ 30) (k:Int) :
  (qcm (qdm L.pure (call L)) 2 fn167_k0 (qbQ L.pure (call L) qg2) (.int .i64 k,.agg []) (qs2 b acc)).map (fun r=>(r.1,gc 3 fn167_k0.kr r.2))=some (.normal,qs2 b (acc++[k])):=by
 unfold qcm fn167_k0 qg2 qs2
 have hall:=qeD acc
 have hn:acc++[k]≠[]:=by simp
 have e1:qs4 (acc++[k])=.vec 3 (acc.length+1):=by unfold qs4;rw[if_neg hn];simp
 have e2:qs3 (acc++[k])=[.vec ((acc++[k]).map qa4) 1]:=by unfold qs3;rw[if_neg hn]
 rw[e1,e2]
 by_cases hz:acc=[]
 ·subst hz
  have e3:qs4 []=.list [] (some none):=rfl
  have e4:qs3 []=[]:=rfl
  rw[e3,e4]
  simp -implicitDefEqProofs only[qnm,qqb,qn3,qqa,qac,qah,aOp,opd,qak,qaB,qag,leaf,qaJ,qaX,qaf,qaF,qas,qaH,qaG,qa5,ren,renC,qbb,qbT,qb2,qcj,qbw,qaq,qbe,beq_self_eq_true,Option.map_some,Option.getD_some,List.map_cons,List.map_nil,List.flatMap_cons,List.flatMap_nil,List.length_cons,List.length_nil,List.cons_append,List.nil_append,List.append_nil,List.getElem?_cons_zero,List.getElem?_cons_succ,List.take_succ_cons,List.take_zero,List.all_cons,List.all_nil,List.mem_cons,List.not_mem_nil,↓reduceIte,Bool.and_true,Bool.false_eq_true,and_true,or_false,not_false_eq_true,decide_true,decide_false,and_self,Nat.le_refl,Nat.zero_add,Nat.reduceEqDiff,Nat.reduceAdd,Nat.reduceLT,Nat.reduceLeDiff,List.cons_ne_nil,qck,qa0,qbM,qce,qcA,qrX,qff,qln,qlZ,qhr,qwn,qfF,qhu,qhv]
 ·have e3:qs4 acc=.vec 3 acc.length:=by unfold qs4;rw[if_neg hz]
  have e4:qs3 acc=[.vec (acc.map qa4) 1]:=by unfold qs3;rw[if_neg hz]
  have hle:acc.length+1≤1073741824:=by omega
  rw[e3,e4]
  simp -implicitDefEqProofs only[qnm,qqb,qn3,qqa,qac,qah,aOp,opd,qak,qaB,qag,leaf,qaJ,qaX,qaf,qaF,qas,qaH,qaG,qa5,ren,renC,qbb,qbT,qb2,qcj,qcg,qbw,qaq,qbe,beq_self_eq_true,Option.map_some,Option.getD_some,List.map_cons,List.map_nil,List.flatMap_cons,List.flatMap_nil,List.length_cons,List.length_nil,List.length_map,List.cons_append,List.nil_append,List.append_nil,List.getElem?_cons_zero,List.getElem?_cons_succ,List.set_cons_zero,List.set_cons_succ,List.take_succ_cons,List.take_zero,List.all_cons,List.all_nil,List.mem_cons,List.not_mem_nil,↓reduceIte,Bool.and_true,Bool.false_eq_true,and_true,or_false,not_false_eq_true,decide_true,decide_false,and_self,Nat.zero_add,Nat.reduceEqDiff,Nat.reduceAdd,Nat.reduceLT,Nat.reduceLeDiff,List.cons_ne_nil,qck,List.map_append,qa0,qbM,qce,qcA,qcO,Nat.mul_one,qrX,qff,qln,qlZ,qhr,qtP,hle,qhu,qhv]
def qxJ (b:IM Int) (acc:List Int):St:=⟨upd (upd (qs2 b acc).tm (some 13) (.tuple [.bool false])) (some 14) (.bool false),(qs2 b acc).h⟩
theorem qw3 (b:IM Int) (acc:List Int):qcN (qdm L.pure (call L)) 2 fn167_k0 (qs2 b acc)=some (.normal,qxJ b acc):=by
 unfold qcN fn167_k0 qxJ qs2
 simp -implicitDefEqProofs only[qac,qah,aOp,opd,qak,qaB,qag,beq_self_eq_true,List.cons_append,List.nil_append,List.getElem?_cons_zero,↓reduceIte,Bool.and_true,Nat.reduceEqDiff,qrX]
theorem quH (b:IM Int):∀ (o':IM Unit) (acc:List Int) (s:St),acc.length+o'.length<2 ^ 30→gc 3 fn167_k0.kr s=qs2 b acc →
  qcp (qdm L.pure (call L)) 2 fn167_k0 (qbQ L.pure (call L) qg2) (encU o') s=some (.normal,qxJ b (acc++qfs o'))
 | [],acc,s,_,hs => by
   show qcN _ 2 fn167_k0 (gc 3 fn167_k0.kr s)=_
   rw[hs]
   have:acc++qfs ([]:IM Unit)=acc:=by simp[qfs]
   rw[this]
   exact qw3 b acc
 | e :: o',acc,s,hl,hs => by
   rw[List.length_cons] at hl
   have hr:=quh (L:=L) b acc (by omega) e.1
   rw[← hs] at hr
   obtain⟨⟨x,s'⟩,h1,h2⟩:=Option.map_eq_some_iff.1 hr
   simp only[Prod.mk.injEq] at h2
   obtain⟨rfl,h2⟩:=h2
   show (match qcm _ 2 fn167_k0 _ (.int .i64 e.1,.agg []) (gc 3 fn167_k0.kr s) with | some (.normal,s')=>qcp _ 2 fn167_k0 _ (encU o') s' | r=>qff fn167_k0.id r)=_
   rw[h1]
   have:=quH b o' (acc++[e.1]) s' (by simp;omega) h2
   rw[List.append_assoc] at this
   exact this
include hL
theorem qrM (hP:CPrims L qbY) (h236:L.fns 236=some fn236) (h196:L.fns 196=some fn196) (h167:L.fns 167=some fn167) (t:CTree) (hf:TFit t) (hh:hgt t<2 ^ 30) (hn:(qfh t ([],[])).2.length<2 ^ 30) (h:Heap) :
  pcall L 167 [qa1 t] h=some (.val (.list ((qif t).map qa4) none),h):=by
 have hp:=hL.pure
 have hfree:=qu9 hL h236 h196 t hf 0 [] [] (by omega) (by omega) (fun v=>by simp[qiI,qc8])
 refine qbL hL h167 (by rw[qaa];exact qaA _) ?_ h
 unfold qif
 generalize qfh t ([],[])=r at *
 obtain⟨b,o⟩:=r
 dsimp only at hfree hn ⊢
 have hrange:∀ (tm:Tmps),tm 3=.map (some 0)→tm 4=.list [] (some none)→qbQ L.pure (call L) (.range fn167_k0 qg2 qjM) ⟨tm,[.map (encU o),.map (encB b)]⟩ =
   some (.ret,⟨kt [2] [.list ((qbY (qfs o)).map qa4) (if qbY (qfs o)=[] then some none else none)],[.map (encU o),.map (encB b)]⟩):=by
  intro tm h3 h4
  refine qsr (s1:=⟨upd tm (some 11) (.map (some 0)),[.map (encU o),.map (encB b)]⟩) (es:=encU o) ?_ ?_ ?_
  ·unfold fn167_k0
   simp -implicitDefEqProofs only[qac,qah,aOp,opd,h3]
  ·unfold fn167_k0
   simp -implicitDefEqProofs only[opd,qak,List.getElem?_cons_zero,↓reduceIte,qep,qnX,h3]
  ·intro es' hes
   have hes':es'.Perm (o.map fun p=>((.int .i64 p.1:AVal),AVal.agg [])):=hes
   obtain⟨o',hpm,rfl⟩:=qn5 _ hes'
   have hrun:=quH (L:=L) b o' [] ⟨upd (upd tm (some 11) (.map (some 0))) (some 12) (.ptr (some (2,0))),[.gone,.map (encB b),.gone]⟩ (by rw[List.length_nil,hpm.length_eq];omega) ?_
   ·rw[List.nil_append] at hrun
    have hsort:qbY (qfs o')=qbY (qfs o):=qlm (hpm.map _)
    rw[← hsort]
    have hlen:(qfs o').length=o.length:=by unfold qfs;rw[List.length_map,hpm.length_eq]
    generalize qfs o'=ks at *
    unfold qdy
    have hh:qoG (opd (upd tm (some 11) (.map (some 0))) fn167_k0.m) [.map (encU o),.map (encB b)]=[.gone,.map (encB b),.gone]:=rfl
    have h15:fn167_k0.it=12:=rfl
    dsimp only
    rw[hh,h15]
    simp only[List.length_cons,List.length_nil]
    show Option.map _ (match qcp _ 2 _ _ (encU o') _ with | some (.normal,s2)=>_ | some (e,s2)=>_ | none=>_)=_
    rw[hrun]
    dsimp only
    have hm2:opd (upd tm (some 11) (.map (some 0))) fn167_k0.m=.map (some 0):=rfl
    have hk:fn167_k0.keep=[2]:=rfl
    rw[hm2,hk]
    have hs0:=hP.sort0
    unfold qxJ qs2 qjM
    by_cases hz:ks=[]
    ·subst hz
     have e3:qs4 []=.list [] (some none):=rfl
     have e4:qs3 []=[]:=rfl
     have e5:qbY []=[]:=rfl
     rw[e3,e4,e5]
     simp -implicitDefEqProofs only[qad,qae,qar,qac,qah,aOp,opd,qak,qaB,gcE,qaX,qaf,qaF,qas,qaG,qa5,ren,renC,qbT,qb2,qbx,qaa,qbV,qav,qat,Option.map_some,Option.getD_some,List.map_cons,List.map_nil,List.flatMap_cons,List.flatMap_nil,List.length_cons,List.length_nil,List.nil_append,List.append_nil,List.getElem?_cons_zero,List.set_cons_zero,List.take_succ_cons,List.take_zero,↓reduceIte,Bool.and_true,Bool.false_eq_true,decide_false,Nat.zero_add,Nat.reduceEqDiff,Nat.reduceAdd,Nat.reduceLeDiff,qa0,qch,qco,qew,hs0,qhu,qhv,qb9,qca,qaK L hp,hp]
    ·have e3:qs4 ks=.vec 3 ks.length:=by unfold qs4;rw[if_neg hz]
     have e4:qs3 ks=[.vec (ks.map qa4) 1]:=by unfold qs3;rw[if_neg hz]
     have hs1:=hP.sort ks hz (by omega)
     have hzs:¬ qbY ks=[]:=fun h=>hz (by have:=qfc ks;rw[h] at this;exact List.length_eq_zero_iff.1 this.symm)
     have hsl:=qfc ks
     have hdS:=qaA (qbY ks)
     have hwS:((qbY ks).map qa4).map wipeCell=(qbY ks).map qa4:=by rw[List.map_map];rfl
     have hlS:((qbY ks).map qa4).all leaf=true:=by
      rw[List.all_eq_true]
      intro x hx
      obtain⟨y,_,rfl⟩:=List.mem_map.1 hx
      rfl
     generalize qbY ks=ss at *
     rw[e3,e4]
     simp -implicitDefEqProofs only[qad,qae,qar,qac,qah,aOp,opd,qak,qaB,gcE,qaX,qaf,qaF,qas,qaH,qaG,qa5,ren,renC,qbT,qb2,qaa,qgv,qav,qat,Option.map_some,Option.getD_some,List.map_cons,List.map_nil,List.flatMap_cons,List.flatMap_nil,List.length_cons,List.length_nil,List.length_map,List.cons_append,List.nil_append,List.append_nil,List.getElem?_cons_zero,List.getElem?_cons_succ,List.set_cons_zero,List.set_cons_succ,List.take_succ_cons,List.take_zero,List.take_nil,List.all_cons,List.all_nil,List.not_mem_nil,↓reduceIte,Bool.and_true,Bool.false_eq_true,true_and,false_and,not_false_eq_true,decide_true,decide_false,and_self,Nat.zero_le,reduceCtorEq,Nat.zero_add,Nat.reduceEqDiff,Nat.reduceAdd,Nat.reduceLT,Nat.reduceLeDiff,qa0,qch,qco,qcM,qds,frz,frzC,qla,qfa,qdM,qgu,qdN,qer,qdL,qjq,qe1,qdh,quu,qce,qcH,qcA,qdb,qcO,Nat.mul_one,qew,hs1,hsl,hzs,hdS,hwS,hlS,qhu,qhv,qb9,qca,qaK L hp,hp]
   ·unfold qs2 fn167_k0
    have e3:qs4 []=.list [] (some none):=rfl
    have e4:qs3 []=[]:=rfl
    rw[e3,e4]
    simp -implicitDefEqProofs only[qak,qaX,qaf,qaF,qas,qaH,qaG,qa5,ren,renC,qbb,qbT,qb2,qcj,qbV,qbe,qav,List.map_cons,List.map_nil,List.flatMap_cons,List.flatMap_nil,List.length_cons,List.length_nil,List.nil_append,List.append_nil,List.take_succ_cons,List.take_nil,List.not_mem_nil,↓reduceIte,Bool.false_eq_true,and_true,not_false_eq_true,decide_false,Nat.le_refl,Nat.zero_add,Nat.reduceEqDiff,Nat.reduceAdd,Nat.reduceLT,Nat.reduceLeDiff,h4,qhu,qhv]
 obtain⟨tc,htc,hdt⟩:=qdT t
 have hn0:encB []=[]:=rfl
 have hn1:encU []=[]:=rfl
 rw[hn0,hn1] at hfree
 rw[htc] at hfree ⊢
 generalize (if qbY (qfs o)=[] then some none else none:Option (Option Nat))=ow at *
 unfold fn167
 generalize fn167_k0=kk at *
 generalize qg2=bb at *
 generalize qjM=aa at *
 simp -implicitDefEqProofs only[qad,qae,qac,qah,aOp,opd,qak,qal,qaB,qaS,qao,qaw,qaI,qas,qaH,qa5,ren,renC,qiz,qbT,qb2,qio,qct,qbv,qqn,qgv,qaQ,qcd,qav,qat,Option.getD_some,List.map_cons,List.map_nil,List.flatMap_cons,List.flatMap_nil,List.length_cons,List.length_nil,List.cons_append,List.nil_append,List.append_nil,List.getElem?_cons_zero,List.getElem?_cons_succ,List.take_succ_cons,List.take_nil,List.all_cons,List.all_nil,List.mem_cons,List.not_mem_nil,↓reduceIte,Bool.and_true,Bool.and_false,Bool.false_eq_true,or_false,not_false_eq_true,decide_true,and_self,Nat.le_refl,Nat.zero_le,reduceCtorEq,Nat.zero_add,Nat.reduceEqDiff,Nat.reduceAdd,Nat.reduceLT,qfa,qdM,qgu,qdN,qer,qdL,qjq,qe1,qdh,qaD,hfree,hrange,hdt,qhu,qhv,qb9,qca,qaK L hp,hp]
end
end Go.Abs
