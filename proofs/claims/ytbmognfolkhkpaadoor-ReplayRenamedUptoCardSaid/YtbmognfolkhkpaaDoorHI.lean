/-
  PARTS OF A PROOF, joined: an abstract machine for quiet code, its evaluation, and what the seat's functions answer on it. Conditions: none.
-/
import Derived.Test.YtbmognfolkhkpaaDoorHF
import Derived.Test.YtbmognfolkhkpaaDoorW
set_option linter.unusedVariables false
set_option linter.unusedSimpArgs false
set_option maxRecDepth 100000
set_option maxHeartbeats 4000000
namespace Go.Abs
theorem HT.lt {H:Heap} {t:CTree} {p:Nat} {fp:List Nat} (h:HT H t p fp):∀ q∈fp,q<H.length:=by
 induction h with
 | mk op n binds kids alts p bv fb ps ow fks avs oa fa hbox hb ha hl1 hl2 hk ih =>
   intro q hq
   rcases List.mem_cons.1 hq with rfl | hq
   ·exact hlt hbox
   ·rcases List.mem_append.1 hq with hq | hq
    ·exact hb.lt q hq
    ·rcases List.mem_append.1 hq with hq | hq
     ·exact ha.lt q hq
     ·obtain⟨f,hf,hq⟩:=List.mem_flatten.1 hq
      obtain⟨i,hi,rfl⟩:=List.getElem_of_mem hf
      exact ih i (by omega) q hq
mutual
theorem qmJ:∀ (t:CTree) (s:RS),hgt (qdF t s).1=hgt t
 | .mk op n binds kids alts,s=>by rw[qdF,hgt,hgt,qn5]
theorem qn5:∀ (ts:List CTree) (s:RS),qrU (qbO ts s).1=qrU ts
 | [],s=>by rw[qbO]
 | t::ts,s=>by rw[qbO,qrU,qrU,qmJ t,qn5 ts]
end
mutual
theorem qkU:∀ (t:CTree) (s:RS),qbR (qdF t s).1=qbR t
 | .mk op n binds kids alts,s=>by rw[qdF,qbR,qbR,ql0]
theorem ql0:∀ (ts:List CTree) (s:RS),qbd (qbO ts s).1=qbd ts
 | [],s=>by rw[qbO]
 | t::ts,s=>by rw[qbO,qbd,qbd,qkU t,ql0 ts]
end
theorem qtY (as:List CAlt):∀ s:RS,((frA as s).1.flatMap (·.binds)).length=(as.flatMap (·.binds)).length:=by
 induction as with
 | nil=>intro s;rfl
 | cons a as ih =>
   intro s
   rw[frA,List.flatMap_cons,List.flatMap_cons,List.length_append,List.length_append,ih,qdD]
theorem qkT (op:Int) (binds:List Int) (s:RS):(qh4 op binds s).length=binds.length:=by
 unfold qh4
 split
 ·rfl
 ·exact qdD _ _
theorem qn6:∀ (ks:List CTree) (s:RS),∀ k'∈(qbO ks s).1,∃ k∈ks,∃ s',k'=(qdF k s').1
 | [],s,k',h=>by rw[qbO] at h;cases h
 | k :: ks,s,k',h => by
   rw[qbO] at h
   rcases List.mem_cons.1 h with h | h
   ·exact⟨k,by simp,s,h⟩
   ·obtain⟨q,hq,s',he⟩:=qn6 ks _ k' h
    exact⟨q,by simp[hq],s',he⟩
theorem qp9 (t:CTree) (h:TFit t):∀ s:RS,TFit (qdF t s).1:=by
 induction t using CTree.ind with
 | h op n binds kids alts ih =>
   intro s
   cases h with
   | mk _ _ _ _ _ hb hk ha hfk =>
   rw[qdF]
   refine .mk _ _ _ _ _ ?_ (by rw[qg0];exact hk) (by rw[qoT];exact ha) ?_
   ·rw[List.length_append] at hb ⊢
    rw[qtY,qkT]
    exact hb
   ·intro k' hk'
    obtain⟨k,hk,s',rfl⟩:=qn6 _ _ _ hk'
    exact ih k hk (hfk k hk) s'
theorem qyL {A l:Heap} {o o2 o3 b:AObj} {n:Nat} (h:n=A.length+2):(A++o::o2::o3::l).set n b=A++o::o2::b::l:=by subst h;simp
theorem qyM {A l:Heap} {o o2 o3 o4 b:AObj} {n:Nat} (h:n=A.length+3):(A++o::o2::o3::o4::l).set n b=A++o::o2::o3::b::l:=by subst h;simp
theorem qyK {A l:Heap} {o o2 o3 o4:AObj} {n:Nat} (h:n=A.length+3):(A++o::o2::o3::o4::l)[n]? = some o4:=by subst h;simp
theorem qu0 (tm:Tmps) (h:Heap):qop ⟨tm,h⟩=⟨fun i=>viewV h (tm i),h.map fun _=>.gone⟩:=rfl
section
variable {L:Lib}
theorem qsF (hL:Plain L) (h171:L.fns 171=some fn171) (h207:L.fns 207=some fn207) (h208:L.fns 208=some fn208) (t:CTree) (hf:TFit t) (H:Heap) (p:Nat) (fp:List Nat) (hT:HT H t p fp) (hnd:fp.Nodup) (a:Int) (ha:0≤a) (hb:(qdF t ([],a)).2.2<2 ^ 50) :
  ∃ H',call L 171 [qbq p,.int .i64 a] H=some (.val (.int .i64 (qdF t ([],a)).2.2),H')∧HT H' (qdF t ([],a)).1 p fp:=by
 have hlt':=hT.lt
 have hE:RE (H++[.box [.int .i64 a],.map [],.box [.map (some (H.length+1))],.box [.func 207 [] [qbq (H.length+2),qbq H.length,qbq (H.length+3)]]]) (H.length+2) H.length (H.length+3) (H.length+1) ([],a) :=
  ⟨qyr rfl,hgl rfl,by simp,qtb rfl⟩
 obtain⟨H',c1,c2,c3,c4,c5⟩:=qx1 hL h207 h208 t hf _ p fp ([],a) _ _ _ _ (hT.frame fun q hq=>hga (hlt' q hq)) hnd hE (fun h=>by have:=hlt' _ h;omega) (fun h=>by have:=hlt' _ h;omega) (fun h=>by have:=hlt' _ h;omega) (fun h=>by have:=hlt' _ h;omega) ha hb
 refine⟨H',?_,c3⟩
 refine qd6 (hL.summ 171 (by rw[h171];simp)) h171 ?_
 have g1:=c2.f
 unfold qbq at *
 unfold fn171
 simp -implicitDefEqProofs only[qad,qae,qax,qab,qah,aOp,opd,qai,qa1,qan,qag,qaV,qaF,qbC,leaf,qaW,qqe,qj9,qaT,qaR,qas,qaB,qaI,Option.getD_some,List.map_cons,List.map_nil,List.length_cons,List.length_nil,List.length_append,List.cons_append,List.nil_append,List.append_nil,List.append_assoc,List.getElem?_cons_zero,List.getElem?_cons_succ,List.take_zero,List.drop_succ_cons,List.drop_nil,List.all_cons,List.all_nil,↓reduceIte,Bool.and_true,and_self,Nat.le_refl,reduceCtorEq,Nat.zero_add,Nat.reduceEqDiff,Nat.reduceAdd,c1,g1,hgl,qtb,qyr,qyK,hsl,qyI,qyL,qyM,hga]
theorem qqz (hL:Plain L) (hP:MPrims L) (h160:L.fns 160=some fm160) (e:List CExpr) (h:Heap) (hl:e.length<2 ^ 30) (hf:∀ x∈e,NodeFit x) (hT:TreeL e) (hh:hgt (qb2 e)≤400) :
  pcall L 160 [.list (e.map qaH) none] h=some (.val (qaX (qb2 e)),h):=by
 obtain⟨H,p,fp,h1,h2,_⟩:=qp0 hL hP h160 e hl hf hT []
 have hv:=h2.look (by omega)
 obtain⟨tc,htc,hdt⟩:=qc0 (qb2 e)
 refine qdz h1 ?_ (qgN _) h
 unfold qgB
 rw[if_neg (by simp[qbq,wipeR,wipe,wipeCell,qa2]),hv,htc,qdE]
def qdb (e:List CExpr) (a:Int):List CExpr × Int :=
 if qbi e=0 then (if a<0∨1048576<a then ([],4) else if 1048576<(qdF (qb2 e) ([],a)).2.2 then ([],4) else (qbU (qdF (qb2 e) ([],a)).1,0)) else ([],qbi e)
end
theorem qpH (as:List CAlt):∀ s:RS,(frA as s).2.2=s.2+(as.flatMap (·.binds)).length:=by
 induction as with
 | nil=>intro s;simp[frA]
 | cons a as ih =>
   intro s
   rw[frA,List.flatMap_cons,List.length_append]
   have:=ih (frL a.binds s)
   rw[qde] at this
   show (frA as (frL a.binds s)).2.2=_
   omega
mutual
theorem qn3:∀ (t:CTree) (s:RS),(qdF t s).2.2≤s.2+((qcx t).map fun l=>(l.binds++l.alts.flatMap (·.binds)).length).sum
 | .mk op n binds kids alts,s => by
   rw[qdF,qcx]
   have h1:=qlY kids (frA alts (qdC op binds s)).2
   have h2:=qpH alts (qdC op binds s)
   have h3:(qdC op binds s).2≤s.2+binds.length:=by
    unfold qdC
    split
    ·omega
    ·rw[qde];omega
   simp only[List.map_append,List.sum_append,List.map_cons,List.map_nil,List.sum_cons,List.sum_nil,List.length_append] at h1 ⊢
   omega
theorem qlY:∀ (ts:List CTree) (s:RS),(qbO ts s).2.2≤s.2+((qcl ts).map fun l=>(l.binds++l.alts.flatMap (·.binds)).length).sum
 | [],s=>by rw[qbO,qcl];simp
 | t :: ts,s => by
   rw[qbO,qcl]
   have h1:=qn3 t s
   have h2:=qlY ts (qdF t s).2
   simp only[List.map_append,List.sum_append] at h1 h2 ⊢
   omega
end
theorem qx3 (l:List Nat) (b:Nat) (h:∀ x∈l,x≤b):l.sum≤l.length*b:=by
 induction l with
 | nil=>simp
 | cons x l ih =>
   rw[List.sum_cons,List.length_cons,Nat.add_mul,Nat.one_mul]
   have h1:=h x (by simp)
   have h2:=ih fun y hy=>h y (by simp[hy])
   omega
theorem qqY (t:CTree) (h:TFit t):∀ l∈qcx t,(l.binds++l.alts.flatMap (·.binds)).length<2 ^ 30:=by
 induction t using CTree.ind with
 | h op n binds kids alts ih =>
   intro l hl
   cases h with
   | mk _ _ _ _ _ hb hk ha hfk =>
   rw[qcx] at hl
   rcases List.mem_append.1 hl with hl | hl
   ·have key:∀ ks:List CTree,(∀ k∈ks,k∈kids)→∀ l∈qcl ks,(l.binds++l.alts.flatMap (·.binds)).length<2 ^ 30:=by
     intro ks
     induction ks with
     | nil=>intro _ l hl;rw[qcl] at hl;cases hl
     | cons k ks ih2 =>
       intro hks l hl
       rw[qcl] at hl
       rcases List.mem_append.1 hl with hl | hl
       ·exact ih k (hks k (by simp)) (hfk k (hks k (by simp))) l hl
       ·exact ih2 (fun q hq=>hks q (by simp[hq])) l hl
    exact key kids (fun k hk=>hk) l hl
   ·rw[List.mem_singleton.1 hl]
    exact hb
theorem qsE {t:CTree} (hf:TFit t) (hs:qbR t≤4096) (a:Int) (ha:a≤2 ^ 40):(qdF t ([],a)).2.2<2 ^ 50:=by
 have h1:=qn3 t ([],a)
 have h2:=qx3 ((qcx t).map fun l=>(l.binds++l.alts.flatMap (·.binds)).length) (2 ^ 30) fun x hx=>by
  obtain⟨l,hl,rfl⟩:=List.mem_map.1 hx
  exact Nat.le_of_lt (qqY t hf l hl)
 rw[List.length_map,qiK] at h2
 have h3:qbR t*2 ^ 30≤4096*2 ^ 30:=Nat.mul_le_mul_right _ hs
 dsimp only at h1
 omega
section
variable {L:Lib} (hC:CLib2 L)
include hC
theorem quM (hP:MPrims L) (h160:L.fns 160=some fm160) (h171:L.fns 171=some fn171) (h207:L.fns 207=some fn207) (h208:L.fns 208=some fn208) (h140:L.fns 140=some fn140) (e:List CExpr) (hl:e.length<2 ^ 30) (hf:∀ x∈e,NodeFit x) (a:Int) (h:Heap) :
  pcall L 140 [.list (e.map qaH) none,.int .i64 a] h=some (.val (.tuple [.list ((qdb e a).1.map qaH) none,.int .i64 (qdb e a).2]),h):=by
 have hL:=hC.plain
 have hp:=hL.pure
 have hdE:=qa3 e
 have hck:=qfp hC.toCLib e hl hf
 refine qbH hL h140 (by simp only[qa2,qaZ,qa3,Bool.and_self]) ?_ h
 unfold qdb
 by_cases hz:qbi e=0
 ·rw[if_pos hz]
  obtain⟨hT,hn,hdp,_⟩:=qcG hz
  obtain⟨hft,hsz⟩:=qfF hz hf
  rw[hz] at hck
  obtain⟨H,p,fp,g1,g2,g3,_⟩:=qp0 hL hP h160 e hl hf hT []
  have hs4:qbR (qb2 e)≤4096:=by rw[qf0 e hT];exact hn
  by_cases hr:a<0∨1048576<a
  ·rw[if_pos hr]
   by_cases h0:a<0
   ·unfold qbq at *
    unfold fn140
    simp -implicitDefEqProofs only[qaq,qad,qae,qaf,qax,qab,qaC,qah,aOp,opd,qai,qan,qag,qbh,qbg,qaj,qaA,qaR,qas,qaB,qaI,qbc,qby,qc4,qaa,qap,qak,qdj,beq_self_eq_true,Option.getD_some,List.map_cons,List.map_nil,List.nil_append,List.append_nil,List.getElem?_cons_zero,List.getElem?_cons_succ,↓reduceIte,Bool.and_true,Bool.not_true,Bool.false_eq_true,decide_true,and_self,reduceCtorEq,Nat.reduceEqDiff,qa4,qaD,hck,g1,h0,hdE,qaJ L hp,hp,bne,List.map_nil]
   ·have h1:1048576<a:=by omega
    unfold qbq at *
    unfold fn140
    simp -implicitDefEqProofs only[qaq,qad,qae,qaf,qax,qab,qaC,qah,aOp,opd,qai,qan,qag,qbh,qbg,qaj,qaA,qaR,qas,qaB,qaI,qbc,qby,qc4,qaa,qap,qak,beq_self_eq_true,Option.getD_some,List.map_cons,List.map_nil,List.nil_append,List.append_nil,List.getElem?_cons_zero,List.getElem?_cons_succ,↓reduceIte,Bool.and_true,Bool.not_true,Bool.false_eq_true,decide_true,decide_false,and_self,reduceCtorEq,Nat.reduceEqDiff,gt_iff_lt,qa4,qaD,hck,g1,h0,h1,hdE,qaJ L hp,hp,bne,List.map_nil]
  ·rw[if_neg hr]
   have h0:¬ a<0:=by omega
   have h1:¬ 1048576<a:=by omega
   obtain⟨H',k1,k2⟩:=qsF hL h171 h207 h208 (qb2 e) hft H p fp g2 g3 a (by omega) (qsE hft hs4 a (by omega))
   by_cases h2:1048576<(qdF (qb2 e) ([],a)).2.2
   ·rw[if_pos h2]
    generalize (qdF (qb2 e) ([],a)).2.2=q at *
    unfold qbq at *
    unfold fn140
    simp -implicitDefEqProofs only[qaq,qad,qae,qaf,qax,qab,qaC,qah,aOp,opd,qai,qan,qag,qbh,qbg,qaj,qaA,qaR,qas,qaB,qaI,qbc,qby,qc4,qaa,qap,qak,beq_self_eq_true,Option.getD_some,List.map_cons,List.map_nil,List.nil_append,List.append_nil,List.getElem?_cons_zero,List.getElem?_cons_succ,↓reduceIte,Bool.and_true,Bool.not_true,Bool.false_eq_true,decide_true,decide_false,and_self,reduceCtorEq,Nat.reduceEqDiff,gt_iff_lt,qa4,qaD,hck,g1,k1,h0,h1,h2,hdE,qaJ L hp,hp,bne,List.map_nil]
   ·rw[if_neg h2]
    generalize hq:(qdF (qb2 e) ([],a)).2.2=q at *
    have hft':=qp9 (qb2 e) hft ([],a)
    have hsz':=qkU (qb2 e) ([],a)
    have hh':=qmJ (qb2 e) ([],a)
    have hv:=k2.look (by omega)
    have hls:=hC.list (qdF (qb2 e) ([],a)).1 hft' (by omega)
    generalize (qdF (qb2 e) ([],a)).1=t' at *
    have hdL:=qa3 (qbU t')
    obtain⟨tc,htc,hdt⟩:=qc0 t'
    rw[htc] at hv hls
    unfold qbq at *
    unfold fn140
    simp -implicitDefEqProofs only[qaq,qad,qae,qaf,qax,qab,qaC,qah,aOp,opd,qai,qan,qag,qbh,qbg,qaj,qaA,qaR,qas,qaB,qaI,qbc,qby,qc4,qbS,qaa,qaN,qap,qak,beq_self_eq_true,Option.getD_some,List.map_cons,List.map_nil,List.nil_append,List.append_nil,List.getElem?_cons_zero,List.getElem?_cons_succ,↓reduceIte,Bool.and_true,Bool.not_true,Bool.false_eq_true,decide_false,and_self,reduceCtorEq,Nat.reduceEqDiff,gt_iff_lt,qrw,qa4,qaD,hck,g1,k1,h0,h1,h2,hdE,qaJ L hp,hp,bne,qu0,hv,hls,hdt,hdL,qbS]
 ·have hne:(qbi e != 0)=true:=by simpa using hz
  rw[if_neg hz]
  dsimp only
  generalize qbi e=r at *
  unfold fn140
  simp -implicitDefEqProofs only[qad,qae,qaf,qax,qab,qah,aOp,opd,qai,qan,qag,qbh,qbg,qaj,qaR,qas,qaB,qaI,qbc,qby,qc4,qaa,qap,qak,Option.getD_some,List.map_cons,List.map_nil,List.getElem?_cons_zero,↓reduceIte,Bool.and_true,Bool.false_eq_true,and_self,reduceCtorEq,Nat.reduceEqDiff,qa4,qaD,hck,hne,hdE,qaJ L hp,hp,List.map_nil]
end
theorem qfi (a:Int) (n m:Nat):qfX a (n+m)=qfX a n++qfX (a+n) m:=by
 unfold qfX
 rw[List.range_add,List.map_append,List.map_map]
 congr 1
 refine List.map_congr_left fun i _=>?_
 simp only[Function.comp]
 omega
theorem qoa (a:Int) (n:Nat):qfX a (n+1)=a::qfX (a+1) n:=by
 rw[Nat.add_comm,qfi]
 show [a+((0:Nat):Int)]++qfX (a+1) n=_
 simp
theorem qpZ {a y:Int} {n:Nat}:y∈qfX a n↔a≤y∧y<a+n:=by
 unfold qfX
 rw[List.mem_map]
 constructor
 ·rintro ⟨i,hi,rfl⟩
  have:=List.mem_range.1 hi
  omega
 ·intro h
  exact⟨(y-a).toNat,List.mem_range.2 (by omega),by omega⟩
theorem qvH (l:List Int):∀ s:RS,(frL l s).1=qiM l (qfX s.2 l.length) s.1:=by
 induction l with
 | nil=>intro s;rfl
 | cons v l ih =>
   intro s
   rw[qhr,ih,List.length_cons,qoa]
   rfl
theorem qnk (as:List CAlt):∀ s:RS,(frA as s).2=frL (as.flatMap (·.binds)) s:=by
 induction as with
 | nil=>intro s;rfl
 | cons a as ih=>intro s;rw[frA,List.flatMap_cons,qek];exact ih _
theorem qnj (as:List CAlt):∀ s:RS,(frA as s).1.flatMap (·.binds)=qfX s.2 (as.flatMap (·.binds)).length:=by
 induction as with
 | nil=>intro s;rfl
 | cons a as ih =>
   intro s
   rw[frA,List.flatMap_cons,List.flatMap_cons,List.length_append,qfi,ih,qde]
def BG (op:Int) (binds:List Int):Prop:=op≠9→qdH op=false→binds=[]
def qvb (op:Int) (binds:List Int):List Int:=if qdH op=true then binds else []
theorem qfE (op:Int) (binds:List Int) (as:List CAlt):qbt op binds as=qvb op binds++as.flatMap (·.binds):=rfl
theorem qmI {op:Int} {binds:List Int} (h:BG op binds) (s:RS):qdC op binds s=frL (qvb op binds) s:=by
 unfold qdC qvb
 by_cases h9:op=9
 ·subst h9
  rfl
 ·rw[if_neg h9]
  cases ho:qdH op with
  | true=>rfl
  | false=>rw[h h9 ho];rfl
theorem qff {op:Int} {binds:List Int} (h:BG op binds) (as:List CAlt) (s:RS):(frA as (qdC op binds s)).2=frL (qbt op binds as) s:=by
 rw[qnk,qmI h,qfE,qek]
theorem qkW {op:Int} {binds:List Int} (h:BG op binds) (as:List CAlt) (s:RS):qbt op (qh4 op binds s) (frA as (qdC op binds s)).1=qfX s.2 (qbt op binds as).length:=by
 rw[qfE,qfE,qnj,qmI h,List.length_append,qfi,qde]
 congr 1
 unfold qvb qh4
 cases ho:qdH op with
 | true =>
   rw[if_pos rfl,if_pos rfl,if_neg]
   rintro rfl
   cases ho
 | false=>rfl
inductive BGt:CTree→Prop
 | mk (op n:Int) (binds:List Int) (kids:List CTree) (alts:List CAlt) (hb:BG op binds) (h0:op=0→kids=[]∧alts=[]) (h:∀ k∈kids,BGt k):BGt (.mk op n binds kids alts)
theorem qrj (as:List CAlt) (s:RS):qgF as (frA as s).1=false:=by
 unfold qgF
 have key:∀ (as cs:List CAlt) (s:RS) (pre:List CAlt),cs=pre++(frA as s).1→qbr (fun i a=>if qhN cs i a=true then some () else none) as pre.length=none:=by
  intro as
  induction as with
  | nil=>intro cs s pre h;rfl
  | cons a as ih =>
    intro cs s pre h
    rw[qbr]
    have h1:qhN cs pre.length a=false:=by
     unfold qhN
     rw[h,frA,List.getElem?_append_right (Nat.le_refl _),Nat.sub_self]
     simp[qdD]
    rw[h1]
    have:=ih cs (frL a.binds s) (pre++[⟨a.tag,qfX s.2 a.binds.length⟩]) (by rw[h,frA];simp)
    rw[List.length_append] at this
    exact this
 have:=key as (frA as s).1 s [] rfl
 rw[List.length_nil] at this
 rw[this]
 rfl
theorem quL (t:CTree) (h:BGt t):∀ s:RS,qh5 t (qdF t s).1 s.1=(true,(qdF t s).2.1):=by
 induction t using CTree.ind with
 | h op n binds kids alts ih =>
   intro s
   cases h with
   | mk _ _ _ _ _ hb hz hk =>
   rw[qdF,qh5,if_neg (by simp[qg0,qoT,qkT])]
   by_cases h0:op=0
   ·obtain⟨k0,a0⟩:=hz h0
    subst k0
    subst a0
    subst h0
    rw[if_pos rfl,qbO,qff hb]
    have:qbt 0 binds []=[]:=rfl
    rw[this,qoU]
    unfold qpj qq4
    cases qce n s.1 with
    | none=>simp
    | some x=>simp
   ·rw[if_neg h0]
    have hn:qq4 op n s.1=n:=by
     unfold qq4
     cases qce n s.1 with
     | none=>rfl
     | some x=>exact if_neg h0
    rw[hn,if_neg,if_neg (by rw[qrj];simp),qkW hb,← qvH,qff hb]
    ·generalize frL (qbt op binds alts) s=s2
     clear hb hz hn
     induction kids generalizing s2 with
     | nil=>rw[qbO,qeF]
     | cons k ks ih2 =>
       rw[qbO,qeF,ih k (by simp) (hk k (by simp)) s2]
       exact ih2 (fun q hq=>ih q (by simp[hq])) (fun q hq=>hk q (by simp[hq])) _
    ·rintro (h | ⟨h9,h⟩)
     ·exact h rfl
     ·refine h ?_
      unfold qh4
      rw[if_pos h9]
theorem qn7 (t:CTree) (h:BGt t):∀ s:RS,(qdF t s).2.2=s.2+((qcx t).flatMap qcL).length∧((qcx (qdF t s).1).flatMap qcL).Perm (qfX s.2 ((qcx t).flatMap qcL).length):=by
 induction t using CTree.ind with
 | h op n binds kids alts ih =>
   intro s
   cases h with
   | mk _ _ _ _ _ hb hz hk =>
   have key:∀ (ks:List CTree),(∀ k∈ks,k∈kids)→∀ s:RS,(qbO ks s).2.2=s.2+((qcl ks).flatMap qcL).length∧((qcl (qbO ks s).1).flatMap qcL).Perm (qfX s.2 ((qcl ks).flatMap qcL).length):=by
    intro ks
    induction ks with
    | nil=>intro _ s;rw[qbO,qcl];exact⟨by simp,List.Perm.refl _⟩
    | cons k ks ih2 =>
      intro hks s
      obtain⟨a1,a2⟩:=ih k (hks k (by simp)) (hk k (hks k (by simp))) s
      obtain⟨b1,b2⟩:=ih2 (fun q hq=>hks q (by simp[hq])) (qdF k s).2
      rw[qbO,qcl,qcl,List.flatMap_append,List.flatMap_append,List.length_append,qfi]
      refine⟨?_,?_⟩
      ·show (qbO ks (qdF k s).2).2.2=_
       omega
      ·rw[a1] at b2
       exact a2.append b2
   obtain⟨c1,c2⟩:=key kids (fun k hk=>hk) (frA alts (qdC op binds s)).2
   rw[qdF,qcx,qcx,List.flatMap_append,List.flatMap_append,List.flatMap_cons,List.flatMap_cons,List.flatMap_nil,List.append_nil,List.append_nil,List.length_append]
   have e1:qcL ⟨op,n,binds,kids.map qhI,alts⟩=qbt op binds alts:=rfl
   have e2:∀ ro,qcL ⟨op,qq4 op n s.1,qh4 op binds s,ro,(frA alts (qdC op binds s)).1⟩=qfX s.2 (qbt op binds alts).length:=fun ro=>qkW hb alts s
   rw[e1,e2]
   rw[qff hb,qde] at c1
   rw[qff hb] at c2 ⊢
   rw[qde] at c2
   refine⟨?_,?_⟩
   ·show (qbO kids (frL (qbt op binds alts) s)).2.2=_
    omega
   ·rw[Nat.add_comm,qfi]
    exact List.perm_append_comm.trans (List.Perm.append_left _ c2)
theorem qkA (x:Int) (l:List Int):∀ s:RS,x∉l→qce x (frL l s).1=qce x s.1:=by
 induction l with
 | nil=>intro s _;rfl
 | cons v l ih =>
   intro s h
   rw[qhr,ih _ (fun hm=>h (by simp[hm])),qe8,if_neg (fun e=>h (by simp[e]))]
theorem qu7 (x:Int) (l:List Int):∀ s:RS,l.Nodup→x∈l→∃ y,qce x (frL l s).1=some y∧y∈qfX s.2 l.length:=by
 induction l with
 | nil=>intro s _ h;cases h
 | cons v l ih =>
   intro s hn h
   rw[qhr,List.length_cons,qoa]
   rw[List.nodup_cons] at hn
   by_cases hx:x=v
   ·subst hx
    exact⟨s.2,by rw[qkA x l _ hn.1,qe8,if_pos rfl],by simp⟩
   ·have hm:x∈l:=by
     rcases List.mem_cons.1 h with h | h
     ·exact absurd h hx
     ·exact h
    obtain⟨y,h1,h2⟩:=ih (qlV v s.2 s.1,s.2+1) hn.2 hm
    exact⟨y,h1,List.mem_cons_of_mem _ h2⟩
def qeu (t:CTree):List Int:=(qcx t).flatMap qcL
def qdn (ts:List CTree):List Int:=(qcl ts).flatMap qcL
theorem qe4 (op n:Int) (binds:List Int) (kids:List CTree) (alts:List CAlt):qeu (.mk op n binds kids alts)=qdn kids++qbt op binds alts:=by
 unfold qeu qdn
 rw[qcx,List.flatMap_append,List.flatMap_cons,List.flatMap_nil,List.append_nil]
 rfl
theorem qdI (k:CTree) (ks:List CTree):qdn (k::ks)=qeu k++qdn ks:=by
 unfold qeu qdn
 rw[qcl,List.flatMap_append]
theorem qmi {k:CTree} {ks:List CTree} (h:k∈ks):(qeu k).Sublist (qdn ks):=by
 induction ks with
 | nil=>cases h
 | cons a ks ih =>
   rw[qdI]
   rcases List.mem_cons.1 h with h | h
   ·subst h;exact List.sublist_append_left _ _
   ·exact (ih h).trans (List.sublist_append_right _ _)
theorem quI (x:Int) (t:CTree) (h:BGt t):∀ s:RS,x∉qeu t→qce x (qdF t s).2.1=qce x s.1:=by
 induction t using CTree.ind with
 | h op n binds kids alts ih =>
   intro s hx
   cases h with
   | mk _ _ _ _ _ hb hz hk =>
   rw[qe4,List.mem_append] at hx
   rw[qdF,qff hb]
   have key:∀ ks:List CTree,(∀ k∈ks,k∈kids)→∀ s:RS,x∉qdn ks→qce x (qbO ks s).2.1=qce x s.1:=by
    intro ks
    induction ks with
    | nil=>intro _ s _;rw[qbO]
    | cons k ks ih2 =>
      intro hks s hx
      rw[qdI,List.mem_append] at hx
      rw[qbO]
      show qce x (qbO ks (qdF k s).2).2.1=_
      rw[ih2 (fun q hq=>hks q (by simp[hq])) _ (fun h=>hx (.inr h)),ih k (hks k (by simp)) (hk k (hks k (by simp))) s (fun h=>hx (.inl h))]
   show qce x (qbO kids (frL (qbt op binds alts) s)).2.1=_
   rw[key kids (fun k hk=>hk) _ (fun h=>hx (.inl h)),qkA x _ s (fun h=>hx (.inr h))]
theorem qsD (x:Int) (ks:List CTree) (h:∀ k∈ks,BGt k):∀ s:RS,x∉qdn ks→qce x (qbO ks s).2.1=qce x s.1:=by
 induction ks with
 | nil=>intro s _;rw[qbO]
 | cons k ks ih =>
   intro s hx
   rw[qdI,List.mem_append] at hx
   rw[qbO]
   show qce x (qbO ks (qdF k s).2).2.1=_
   rw[ih (fun q hq=>h q (by simp[hq])) _ (fun h=>hx (.inr h)),quI x k (h k (by simp)) s (fun h=>hx (.inl h))]
theorem qn4:∀ (ks:List CTree) (s:RS) (j:Nat) (hj:j<ks.length),(qbO ks s).1[j]'(by rw[qg0];exact hj)=(qdF ks[j] (qbO (ks.take j) s).2).1
 | [],s,j,hj=>absurd hj (by simp)
 | k::ks,s,0,hj=>by simp only[qbO,List.take_zero,List.getElem_cons_zero]
 | k :: ks,s,j + 1,hj => by
   have:=qn4 ks (qdF k s).2 j (by simpa using hj)
   simp only[qbO,List.take_succ_cons,List.getElem_cons_succ]
   exact this
theorem qlg {x:Int} {ks:List CTree} (j:Nat) (h:x∈qdn (ks.take j)):x∈qdn ks:=by
 induction ks generalizing j with
 | nil=>simpa using h
 | cons k ks ih =>
   cases j with
   | zero=>rw[List.take_zero] at h;cases h
   | succ j =>
     rw[List.take_succ_cons,qdI,List.mem_append] at h
     rw[qdI,List.mem_append]
     exact h.imp id (ih j)
theorem qm7 {op:Int} {binds:List Int} {alts:List CAlt} {j:Nat} {x:Int} (h:x∈qcq op binds alts j):x∈qbt op binds alts:=by
 unfold qcq at h
 rw[qfE,List.mem_append]
 split at h
 ·rename_i ho
  refine .inl ?_
  unfold qvb
  have:qdH op=true:=by
   unfold qdH
   rcases ho with rfl | rfl | ⟨rfl,_⟩<;>rfl
  rw[if_pos this]
  exact h
 ·split at h
  ·split at h
   ·rename_i a ha
    exact .inr (List.mem_flatMap.2 ⟨a,List.mem_of_getElem? ha,h⟩)
   ·cases h
  ·cases h
theorem qrP:∀ (as:List CAlt) (s:RS) (j:Nat) (a:CAlt),as[j]? = some a→(frA as s).1[j]? = some ⟨a.tag,qfX (frA (as.take j) s).2.2 a.binds.length⟩
 | [],s,j,a,h=>by simp at h
 | b :: as,s,0,a,h => by
   simp at h
   subst h
   rw[frA,List.take_zero]
   rfl
 | b :: as,s,j + 1,a,h => by
   have:=qrP as (frL b.binds s) j a (by simpa using h)
   rw[frA,List.take_succ_cons,frA]
   simpa using this
theorem qrn {op:Int} {binds:List Int} (hb:BG op binds) (alts:List CAlt) (s:RS) (hn:(qbt op binds alts).Nodup) {j:Nat} {x:Int} (h:x∈qcq op binds alts j) :
  ∃ y,qce x (frL (qbt op binds alts) s).1=some y∧y∈qcq op (qh4 op binds s) (frA alts (qdC op binds s)).1 j:=by
 rw[qfE] at hn ⊢
 rw[List.nodup_append] at hn
 obtain⟨n1,n2,n3⟩:=hn
 unfold qcq at h ⊢
 split at h
 ·rename_i ho
  have hob:qdH op=true:=by
   unfold qdH
   rcases ho with rfl | rfl | ⟨rfl,_⟩<;>rfl
  have hnb:qvb op binds=binds:=by unfold qvb;rw[if_pos hob]
  rw[hnb] at n1 n3 ⊢
  rw[if_pos ho,qek]
  obtain⟨y,y1,y2⟩:=qu7 x binds s n1 h
  refine⟨y,?_,?_⟩
  ·rw[qkA x _ _ (fun hm=>n3 x h x hm rfl)]
   exact y1
  ·unfold qh4
   rw[if_neg (by rintro rfl;cases hob)]
   exact y2
 ·rename_i ho
  split at h
  ·rename_i hj
   split at h
   ·rename_i a ha
    rw[if_neg ho,if_pos hj,qrP alts _ _ a ha]
    dsimp only
    obtain⟨hlen,rfl⟩:=List.getElem?_eq_some_iff.1 ha
    have hsplit:alts.flatMap (·.binds)=(alts.take (j-1)).flatMap (·.binds)++(alts[j-1].binds++(alts.drop (j-1+1)).flatMap (·.binds)):=by
     conv=>lhs;rw[← List.take_append_drop (j-1) alts,List.drop_eq_getElem_cons hlen]
     rw[List.flatMap_append,List.flatMap_cons]
    rw[hsplit] at n2 n3 ⊢
    rw[List.nodup_append] at n2
    obtain⟨m1,m2,m3⟩:=n2
    rw[List.nodup_append] at m2
    obtain⟨q1,q2,q3⟩:=m2
    rw[qek,qek,qek,qnk,qmI hb]
    obtain⟨y,y1,y2⟩:=qu7 x alts[j-1].binds (frL ((alts.take (j-1)).flatMap (·.binds)) (frL (qvb op binds) s)) q1 h
    refine⟨y,?_,y2⟩
    rw[qkA x _ _ (fun hm=>q3 x h x hm rfl)]
    exact y1
   ·cases h
  ·cases h
theorem quK (t:CTree) (h:BGt t):∀ s:RS,(qeu t).Nodup→(∀ x,qeJ x t→x∉qeu t)→∀ y,qeJ y (qdF t s).1→∃ x,qeJ x t∧y=(qce x s.1).getD x:=by
 induction t using CTree.ind with
 | h op n binds kids alts ih =>
   intro s hn hD y hy
   cases h with
   | mk _ _ _ _ _ hb hz hk =>
   rw[qe4] at hn
   have hn':=hn
   rw[List.nodup_append] at hn
   obtain⟨n1,n2,n3⟩:=hn
   rw[qdF,qeJ] at hy
   rcases hy with ⟨h0,hy⟩ | hy
   ·refine⟨n,by rw[qeJ];exact .inl ⟨h0,rfl⟩,?_⟩
    rw[← hy]
    unfold qq4
    cases qce n s.1 with
    | none=>rfl
    | some x =>
      show (if op=0 then x else n)=x
      exact if_pos h0
   ·rw[qeB] at hy
    obtain⟨j,hj,h1,h2⟩:=hy
    have hj':j<kids.length:=by rw[qg0] at hj;exact hj
    rw[qn4 _ _ _ hj'] at h1
    rw[Nat.zero_add] at h2
    have hmem:=List.getElem_mem hj'
    have hsub:=qmi hmem
    have hD':∀ x,qeJ x kids[j]→x∉qeu kids[j]:=by
     intro x hx hm
     by_cases hbd:x∈qcq op binds alts j
     ·exact n3 x (hsub.subset hm) x (qm7 hbd) rfl
     ·refine hD x ?_ ?_
      ·rw[qeJ,qeB]
       exact .inr ⟨j,hj',hx,by rw[Nat.zero_add];exact hbd⟩
      ·rw[qe4]
       exact List.mem_append.2 (.inl (hsub.subset hm))
    obtain⟨x,hx,hyx⟩:=ih kids[j] hmem (hk _ hmem) _ (n1.sublist hsub) hD' y h1
    have hout:x∉qdn kids:=by
     intro hm
     by_cases hbd:x∈qcq op binds alts j
     ·exact n3 x hm x (qm7 hbd) rfl
     ·refine hD x ?_ ?_
      ·rw[qeJ,qeB]
       exact .inr ⟨j,hj',hx,by rw[Nat.zero_add];exact hbd⟩
      ·rw[qe4]
       exact List.mem_append.2 (.inl hm)
    rw[qsD x (kids.take j) (fun k hkm=>hk k (List.mem_of_mem_take hkm)) _ (fun hm=>hout (qlg j hm)),qff hb] at hyx
    by_cases hbd:x∈qcq op binds alts j
    ·obtain⟨z,z1,z2⟩:=qrn hb alts s n2 hbd
     rw[z1] at hyx
     exact absurd (by rw[hyx];exact z2) h2
    ·have hfree:qeJ x (.mk op n binds kids alts):=by
      rw[qeJ,qeB]
      exact .inr ⟨j,hj',hx,by rw[Nat.zero_add];exact hbd⟩
     refine⟨x,hfree,?_⟩
     have:=hD x hfree
     rw[qe4,List.mem_append] at this
     rw[hyx,qkA x _ s (fun hm=>this (.inr hm))]
theorem qqP {t:CTree} (h:BGt t) (hn:(qeu t).Nodup) (hc:qeL t=[]) (a:Int):qeL (qdF t ([],a)).1=[]:=by
 refine List.eq_nil_iff_forall_not_mem.2 fun y hy=>?_
 have hno:∀ x,¬ qeJ x t:=fun x hx=>by
  have:=(qlC t x).2 hx
  rw[hc] at this
  cases this
 obtain⟨x,hx,_⟩:=quK t h ([],a) hn (fun x hx=>absurd hx (hno x)) y ((qlC _ y).1 hy)
 exact hno x hx
end Go.Abs
