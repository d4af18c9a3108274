/-
  PARTS OF A PROOF, joined: an abstract machine for quiet code, its evaluation, and what the seat's functions answer on it. Conditions: none.
-/
import Derived.Test.YtbmognfolkhkpaaDoorCQ
set_option linter.unusedVariables false
set_option linter.unusedSimpArgs false
set_option maxRecDepth 100000
set_option maxHeartbeats 4000000
namespace Go.Abs
section
end
def qiD (b:List Int) (i:Nat) (x:Int):Bool := !(x==b.getD i 0)
theorem qvQ {a b:List Int} (h:a.length=b.length):(qbr (fun i x=>if qiD b i x=true then some () else none) a 0).isSome = !decide (a=b):=by
 rw[Bool.eq_iff_iff,qim (qiD b) a 0]
 simp only[Bool.not_eq_true',decide_eq_false_iff_not]
 constructor
 ·rintro ⟨i,hi,hn⟩ e
  subst e
  unfold qiD at hn
  rw[Nat.zero_add,List.getD_eq_getElem?_getD,List.getElem?_eq_getElem hi] at hn
  simp at hn
 ·intro hne
  refine Classical.byContradiction fun hx=>hne ?_
  refine List.ext_getElem h fun i h1 h2=>?_
  refine Classical.byContradiction fun hd=>hx ⟨i,h1,?_⟩
  unfold qiD
  rw[Nat.zero_add,List.getD_eq_getElem?_getD,List.getElem?_eq_getElem h2]
  simpa using hd
section
variable {L:Lib} (hL:Plain L)
include hL
theorem qrG (hf:L.fns 139=some fn139) (a b:List Int) (ha:a.length<2 ^ 30) (h:Heap):pcall L 139 [.list (a.map qaP) none,.list (b.map qaP) none] h=some (.val (.bool (decide (a=b))),h):=by
 refine qbH hL hf rfl ?_ h
 by_cases hl:a.length=b.length
 ·have hs:=qvQ hl
  have hround:∀ (i:Nat) (hi:i<a.length),qch L.pure (call L) 0 [0,1,12,13] [4] qio ⟨kt [0,1,12,13] [.list (a.map qaP) none,.list (b.map qaP) none,.int .i64 a.length,.int .i64 i],[]⟩ =
    some (if qiD b i a[i]=true then (.ret,⟨kt [4] [.bool false],[]⟩) else (.normal,⟨kt [0,1,12,13] [.list (a.map qaP) none,.list (b.map qaP) none,.int .i64 a.length,.int .i64 ((i+1:Nat):Int)],[]⟩)):=by
   intro i hi
   obtain⟨h1,h2,h3⟩:=qbE qaP a ha i hi
   have h4:(b.map qaP)[i]? = some (qaP (b.getD i 0)):=by
    have:i<b.length:=by omega
    simp[this]
   unfold qiD
   generalize a[i]=x at *
   generalize b.getD i 0=y at *
   cases hq:(x==y)<;>unfold qio<;>simp -implicitDefEqProofs only[qaq,qad,qa5,qae,qaf,qao,qax,qab,qah,aOp,opd,qai,qav,qag,qbh,qbg,qaE,qaj,qaA,qaF,qaW,gcE,qaS,qac,qay,qam,qaz,qaU,ren,renC,qbp,qbW,qca,qbz,qbo,qa7,qbx,qaa,qbI,qal,Option.getD_none,List.map_cons,List.map_nil,List.flatMap_cons,List.flatMap_nil,List.length_cons,List.length_nil,List.nil_append,List.append_nil,List.getElem?_nil,List.getElem?_cons_zero,List.take_nil,↓reduceIte,Bool.not_true,Bool.not_false,Bool.false_eq_true,decide_true,decide_false,Nat.le_refl,reduceCtorEq,Nat.zero_add,Nat.reduceEqDiff,Int.toNat_natCast,Int.natCast_nonneg,qau,qaO,qa6,qaQ,qb0,qar,h1,h2,h3,h4,hq,bne]
  have hloop:=qd1 (pure:=L.pure) (call:=call L) (b:=0) (keep:=[0,1,12,13]) (fk:=[4]) (id:=0) (body:=qio) a (fun i x=>if qiD b i x=true then some () else none)
   (fun i=>⟨kt [0,1,12,13] [.list (a.map qaP) none,.list (b.map qaP) none,.int .i64 a.length,.int .i64 i],[]⟩) ⟨kt [4] [.junk],[]⟩ (fun _=>⟨kt [4] [.bool false],[]⟩)
   (by
    intro i hi hq
    rw[hround i hi,if_neg]
    intro hx
    simp[hx] at hq)
   (by
    intro i hi r hq
    cases hx:qiD b i a[i] with
    | false=>simp[hx] at hq
    | true=>rw[hround i hi,if_pos hx])
   (by
    have h0:=qbF a.length
    unfold qio
    simp -implicitDefEqProofs only[qad,qae,qaf,qbl,qab,qah,aOp,opd,qai,qav,qag,qbh,qbg,qaj,gcE,qaS,qac,qay,qam,qaz,qaU,ren,renC,qbp,qbW,qca,qb1,Option.getD_none,List.map_cons,List.map_nil,List.flatMap_cons,List.flatMap_nil,List.length_nil,List.append_nil,List.getElem?_nil,List.take_nil,↓reduceIte,Bool.false_eq_true,decide_false,Nat.le_refl,reduceCtorEq,Nat.reduceEqDiff,qau,qaQ,h0])
  simp only[Int.natCast_zero] at hloop
  have hne:((a.length:Int)==(b.length:Int))=true:=by rw[hl];simp
  cases hq:qbr (fun i x=>if qiD b i x=true then some () else none) a 0 with
  | none =>
    rw[hq] at hs hloop
    have hd:decide (a=b)=true:=by simpa using hs.symm
    rw[hd]
    simp only[qcu] at hloop
    unfold fn139
    simp -implicitDefEqProofs only[qaq,qad,qae,qaf,qax,qab,qah,aOp,opd,qai,qan,qag,qbh,qco,qbg,qaj,qaR,qas,qaB,qaI,qaL,qaS,qac,qay,qam,qaz,qaU,ren,renC,qbp,qbW,qca,qbf,qaa,qal,Option.getD_some,Option.getD_none,List.map_cons,List.map_nil,List.flatMap_cons,List.flatMap_nil,List.length_nil,List.length_map,List.append_nil,List.getElem?_nil,List.getElem?_cons_zero,List.getElem?_cons_succ,List.take_nil,↓reduceIte,Bool.not_true,Bool.false_eq_true,decide_false,Nat.le_refl,reduceCtorEq,Nat.reduceEqDiff,qaD,qar,hne,hloop,bne]
  | some u =>
    rw[hq] at hs hloop
    have hd:decide (a=b)=false:=by simpa using hs.symm
    rw[hd]
    simp only[qcu] at hloop
    unfold fn139
    simp -implicitDefEqProofs only[qaq,qad,qae,qaf,qab,qah,aOp,opd,qai,qan,qav,qag,qbh,qco,qbg,qaj,qaR,qas,qaB,qaI,qaL,qaS,qac,qay,qam,qaz,qaU,ren,renC,qbp,qbW,qca,qbf,qaa,qal,Option.getD_some,Option.getD_none,List.map_cons,List.map_nil,List.flatMap_cons,List.flatMap_nil,List.length_nil,List.length_map,List.append_nil,List.getElem?_nil,List.getElem?_cons_zero,List.getElem?_cons_succ,List.take_nil,↓reduceIte,Bool.not_true,Bool.false_eq_true,decide_false,Nat.le_refl,reduceCtorEq,Nat.reduceEqDiff,qaD,qar,hne,hloop,bne]
 ·have hne:((a.length:Int)==(b.length:Int))=false:=by simp;omega
  have hd:decide (a=b)=false:=by simpa using fun e=>hl (by rw[e])
  rw[hd]
  unfold fn139
  simp -implicitDefEqProofs only[qad,qae,qaf,qax,qab,qah,aOp,opd,qai,qan,qag,qbh,qco,qbg,qaj,qaR,qas,qaB,qaI,qbf,Option.getD_some,List.length_map,List.getElem?_cons_zero,List.getElem?_cons_succ,↓reduceIte,Bool.not_false,Bool.false_eq_true,reduceCtorEq,Nat.reduceEqDiff,qaD,hne,bne]
end
section
def qhN (as:List CAlt) (i:Nat) (a:CAlt):Bool:=match as[i]? with | some c => !(a.tag==c.tag) || !((a.binds.length:Int)==c.binds.length) | none=>false
def qgF (as cs:List CAlt):Bool:=(qbr (fun i a=>if qhN cs i a=true then some () else none) as 0).isSome
def qiM (l l':List Int) (m:IM Int):IM Int:=(l.zip l').foldl (fun m p=>qlV p.1 p.2 m) m
def qpj (n n':Int) (m:IM Int):Bool:=match qce n m with | some x=>x==n' | none=>n==n'
mutual
def qh5:CTree→CTree→IM Int→Bool × IM Int
 | .mk op n binds kids alts,.mk op' n' binds' kids' alts',m =>
   if op≠op'∨kids.length≠kids'.length∨binds.length≠binds'.length∨alts.length≠alts'.length then (false,m)
   else if op=0 then (qpj n n' m,m)
   else if n≠n'∨(op=9∧binds≠binds') then (false,m)
   else if qgF alts alts'=true then (false,m)
   else qeF kids kids' (qiM (qbt op binds alts) (qbt op' binds' alts') m)
def qeF:List CTree→List CTree→IM Int→Bool × IM Int
 | [],_,m=>(true,m)
 | k :: ks,l,m => match l with
   | []=>(true,m)
   | k'::ks'=>(match qh5 k k' m with | (true,m1)=>qeF ks ks' m1 | (false,m1)=>(false,m1))
end
theorem qtf (as cs:List CAlt) (h:qgF as cs=false) (hl:as.length=cs.length):(as.flatMap (·.binds)).length=(cs.flatMap (·.binds)).length:=by
 unfold qgF at h
 have h2:∀ i (hi:i<as.length),qhN cs i as[i]=false:=by
  intro i hi
  cases hq:qhN cs i as[i] with
  | false=>rfl
  | true =>
    have:=(qim (qhN cs) as 0).2 ⟨i,hi,by rw[Nat.zero_add];exact hq⟩
    rw[h] at this
    cases this
 have h3:as.map (fun a=>a.binds.length)=cs.map (fun a=>a.binds.length):=by
  refine List.ext_getElem (by simpa using hl) fun i h4 h5=>?_
  have hi:i<as.length:=by simpa using h4
  have:=h2 i hi
  unfold qhN at this
  rw[List.getElem?_eq_getElem (by omega)] at this
  simp at this ⊢
  omega
 rw[List.length_flatMap,List.length_flatMap]
 exact congrArg List.sum h3
variable {L:Lib}
theorem qxg (op n:Int) (binds:List Int) (kids:List CTree) (alts:List CAlt) (op' n':Int) (binds':List Int) (kids':List CTree) (alts':List CAlt) (ha:alts.length<2 ^ 30) (hl:alts.length=alts'.length) (m:IM Int) :
  qcg L.pure (call L) 1 [0,1,2,134,135] [0,1,2,6] 1 qge ⟨kt [0,1,2,134,135] [.vptr [.int .i64 op,.int .i64 n,.list (binds.map qaP) none,.list (kids.map qaX) none,.list (alts.map qaM) none] 0,.vptr [.int .i64 op',.int .i64 n',.list (binds'.map qaP) none,.list (kids'.map qaX) none,.list (alts'.map qaM) none] 0,.map (some 0),.int .i64 alts.length,.int .i64 ((0:Nat):Int)],[.map (encB m)]⟩ =
   some (if qgF alts alts'=true then (.ret,⟨kt [0,1,2,6] [.vptr [.int .i64 op,.int .i64 n,.list (binds.map qaP) none,.list (kids.map qaX) none,.list (alts.map qaM) none] 0,.vptr [.int .i64 op',.int .i64 n',.list (binds'.map qaP) none,.list (kids'.map qaX) none,.list (alts'.map qaM) none] 0,.map (some 0),.bool false],[.map (encB m)]⟩) else (.normal,⟨kt [0,1,2,6] [.vptr [.int .i64 op,.int .i64 n,.list (binds.map qaP) none,.list (kids.map qaX) none,.list (alts.map qaM) none] 0,.vptr [.int .i64 op',.int .i64 n',.list (binds'.map qaP) none,.list (kids'.map qaX) none,.list (alts'.map qaM) none] 0,.map (some 0),.junk],[.map (encB m)]⟩)):=by
 have hdA:=qaG alts
 have hdA':=qaG alts'
 have hdT:=qcV kids
 have hdT':=qcV kids'
 have hround:∀ (i:Nat) (hi:i<alts.length),qch L.pure (call L) 1 [0,1,2,134,135] [0,1,2,6] qge ⟨kt [0,1,2,134,135] [.vptr [.int .i64 op,.int .i64 n,.list (binds.map qaP) none,.list (kids.map qaX) none,.list (alts.map qaM) none] 0,.vptr [.int .i64 op',.int .i64 n',.list (binds'.map qaP) none,.list (kids'.map qaX) none,.list (alts'.map qaM) none] 0,.map (some 0),.int .i64 alts.length,.int .i64 i],[.map (encB m)]⟩ =
   some (if qhN alts' i alts[i]=true then (.ret,⟨kt [0,1,2,6] [.vptr [.int .i64 op,.int .i64 n,.list (binds.map qaP) none,.list (kids.map qaX) none,.list (alts.map qaM) none] 0,.vptr [.int .i64 op',.int .i64 n',.list (binds'.map qaP) none,.list (kids'.map qaX) none,.list (alts'.map qaM) none] 0,.map (some 0),.bool false],[.map (encB m)]⟩)
    else (.normal,⟨kt [0,1,2,134,135] [.vptr [.int .i64 op,.int .i64 n,.list (binds.map qaP) none,.list (kids.map qaX) none,.list (alts.map qaM) none] 0,.vptr [.int .i64 op',.int .i64 n',.list (binds'.map qaP) none,.list (kids'.map qaX) none,.list (alts'.map qaM) none] 0,.map (some 0),.int .i64 alts.length,.int .i64 ((i+1:Nat):Int)],[.map (encB m)]⟩)):=by
  intro i hi
  obtain⟨h1,h2,h3⟩:=qbE qaM alts ha i hi
  have hi':i<alts'.length:=by omega
  have h4:(alts'.map qaM)[i]? = some (qaM alts'[i]):=by simp[hi']
  have hv:qhN alts' i alts[i]=(!(alts[i].tag==alts'[i].tag) || !((alts[i].binds.length:Int)==alts'[i].binds.length)):=by
   unfold qhN
   rw[List.getElem?_eq_getElem hi']
  generalize qhN alts' i alts[i]=v at *
  generalize alts[i]=a at *
  generalize alts'[i]=c at *
  subst hv
  cases e1:(a.tag==c.tag) with
  | false=>unfold qge;simp -implicitDefEqProofs only[qaq,qad,qa5,qae,qaf,qao,qax,qab,qah,aOp,opd,qai,qav,qag,qbh,qbg,qaE,qaj,qaA,qaF,qaK,qaw,gcE,qaS,qac,qay,qam,qat,qaz,qaU,ren,renC,qbW,qca,qbz,qbo,qa7,qbx,qaa,qbI,qal,qaN,qbv,qap,qak,qdj,List.map_cons,List.map_nil,List.flatMap_cons,List.flatMap_nil,List.length_cons,List.length_nil,List.nil_append,List.append_nil,List.getElem?_cons_zero,List.getElem?_cons_succ,List.take_succ_cons,List.take_nil,List.not_mem_nil,↓reduceIte,Bool.and_true,Bool.true_or,Bool.not_false,Bool.false_eq_true,and_true,not_false_eq_true,decide_true,decide_false,Nat.le_refl,reduceCtorEq,Nat.add_zero,Nat.zero_add,Nat.reduceEqDiff,Nat.reduceAdd,Nat.reduceLT,Nat.reduceLeDiff,Int.toNat_natCast,Int.natCast_nonneg,qau,qaO,qa6,qaQ,qbD,qar,h1,h2,h3,h4,e1,hdA,hdA',hdT,hdT',qc9,qda,bne]
  | true=>cases e2:((a.binds.length:Int)==c.binds.length)<;>unfold qge<;>simp -implicitDefEqProofs only[qaq,qad,qa5,qae,qaf,qao,qax,qab,qah,aOp,opd,qai,qav,qag,qbh,qco,qbg,qaE,qaj,qaA,qaF,qaK,qaw,gcE,qaS,qac,qay,qam,qat,qaz,qaU,ren,renC,qbW,qca,qbz,qbo,qa7,qbx,qaa,qbI,qal,qaN,qbv,qap,qak,beq_self_eq_true,List.map_cons,List.map_nil,List.flatMap_cons,List.flatMap_nil,List.length_cons,List.length_nil,List.length_map,List.nil_append,List.append_nil,List.getElem?_cons_zero,List.getElem?_cons_succ,List.take_succ_cons,List.take_nil,List.not_mem_nil,↓reduceIte,Bool.and_true,Bool.or_true,Bool.or_false,Bool.not_true,Bool.not_false,Bool.false_eq_true,and_true,not_false_eq_true,decide_true,decide_false,Nat.le_refl,reduceCtorEq,Nat.add_zero,Nat.zero_add,Nat.reduceEqDiff,Nat.reduceAdd,Nat.reduceLT,Nat.reduceLeDiff,Int.toNat_natCast,Int.natCast_nonneg,qau,qaO,qa6,qaQ,qbD,qar,h1,h2,h3,h4,e1,e2,hdA,hdA',hdT,hdT',qc9,qda,bne]
 have hloop:=qd1 (pure:=L.pure) (call:=call L) (b:=1) (keep:=[0,1,2,134,135]) (fk:=[0,1,2,6]) (id:=1) (body:=qge) alts (fun i a=>if qhN alts' i a=true then some () else none)
  (fun i=>⟨kt [0,1,2,134,135] [.vptr [.int .i64 op,.int .i64 n,.list (binds.map qaP) none,.list (kids.map qaX) none,.list (alts.map qaM) none] 0,.vptr [.int .i64 op',.int .i64 n',.list (binds'.map qaP) none,.list (kids'.map qaX) none,.list (alts'.map qaM) none] 0,.map (some 0),.int .i64 alts.length,.int .i64 i],[.map (encB m)]⟩)
  ⟨kt [0,1,2,6] [.vptr [.int .i64 op,.int .i64 n,.list (binds.map qaP) none,.list (kids.map qaX) none,.list (alts.map qaM) none] 0,.vptr [.int .i64 op',.int .i64 n',.list (binds'.map qaP) none,.list (kids'.map qaX) none,.list (alts'.map qaM) none] 0,.map (some 0),.junk],[.map (encB m)]⟩ (fun _=>⟨kt [0,1,2,6] [.vptr [.int .i64 op,.int .i64 n,.list (binds.map qaP) none,.list (kids.map qaX) none,.list (alts.map qaM) none] 0,.vptr [.int .i64 op',.int .i64 n',.list (binds'.map qaP) none,.list (kids'.map qaX) none,.list (alts'.map qaM) none] 0,.map (some 0),.bool false],[.map (encB m)]⟩)
  (by
   intro i hi hq
   rw[hround i hi,if_neg]
   intro hx
   simp[hx] at hq)
  (by
   intro i hi r hq
   cases hx:qhN alts' i alts[i] with
   | false=>simp[hx] at hq
   | true=>rw[hround i hi,if_pos hx])
  (by
   have h0:=qbF alts.length
   unfold qge
   simp -implicitDefEqProofs only[qad,qae,qaf,qbl,qab,qah,aOp,opd,qai,qav,qag,qbh,qbg,qaj,gcE,qaS,qac,qay,qam,qat,qaz,qaU,ren,renC,qbW,qca,qaa,qal,qaN,qbv,qb1,qap,qak,List.map_cons,List.map_nil,List.flatMap_cons,List.flatMap_nil,List.length_cons,List.length_nil,List.nil_append,List.append_nil,List.take_succ_cons,List.take_nil,List.not_mem_nil,↓reduceIte,Bool.and_true,Bool.false_eq_true,and_true,not_false_eq_true,decide_false,Nat.le_refl,reduceCtorEq,Nat.zero_add,Nat.reduceEqDiff,Nat.reduceLT,Nat.reduceLeDiff,qau,qaQ,qar,h0,hdA,hdA',hdT,hdT',qc9,qda])
 rw[hloop]
 unfold qgF
 cases qbr (fun i a=>if qhN alts' i a=true then some () else none) alts 0<;>simp[qcu]
theorem qxh (A B:AVal) (hA:qa2 A=true) (hB:qa2 B=true) (l l':List Int) (hl:l.length<2 ^ 30) (hll:l.length=l'.length) (m:IM Int) :
  qcg L.pure (call L) 1 [0,1,2,10,11,182,183] [0,1,2] 3 qjQ ⟨kt [0,1,2,10,11,182,183] [A,B,.map (some 0),.list (l.map qaP) none,.list (l'.map qaP) none,.int .i64 l.length,.int .i64 ((0:Nat):Int)],[.map (encB m)]⟩ =
   some (.normal,⟨kt [0,1,2] [A,B,.map (some 0)],[.map (encB (qiM l l' m))]⟩):=by
 have hz:(l.zip l').length=l.length:=by rw[List.length_zip];omega
 unfold qiM
 refine (qe1 (pure:=L.pure) (call:=call L) (l.zip l') (fun m p=>qlV p.1 p.2 m) (fun m i=>⟨kt [0,1,2,10,11,182,183] [A,B,.map (some 0),.list (l.map qaP) none,.list (l'.map qaP) none,.int .i64 l.length,.int .i64 i],[.map (encB m)]⟩)
  (fun m=>⟨kt [0,1,2] [A,B,.map (some 0)],[.map (encB m)]⟩) (fun _ _=>True) m trivial ?_ ?_).2
 ·intro i hi m _
  have hi1:i<l.length:=by omega
  have hi2:i<l'.length:=by omega
  obtain⟨h1,h2,h3⟩:=qbE qaP l hl i hi1
  have h4:(l'.map qaP)[i]? = some (qaP l'[i]):=by simp[hi2]
  refine⟨?_,trivial⟩
  rw[List.getElem_zip]
  generalize l[i]=x at *
  generalize l'[i]=y at *
  have hup:=fun (h:Heap) (hr:h[0]? = some (.map (encB m)))=>qyf h 0 x y m hr
  unfold qjQ
  simp -implicitDefEqProofs only[qaq,qad,qa5,qae,qaf,qao,qab,qah,aOp,opd,qai,qa1,qav,qag,qaV,qbh,qbg,qaE,qaj,qaA,qaF,qaW,qaS,qac,qay,qam,qat,qaz,qaU,ren,renC,qbW,qca,qbz,qbo,qa7,qbx,qaa,qal,qbv,List.map_cons,List.map_nil,List.flatMap_cons,List.flatMap_nil,List.length_cons,List.length_nil,List.cons_append,List.nil_append,List.append_nil,List.getElem?_cons_zero,List.set_cons_zero,List.take_succ_cons,List.take_nil,List.not_mem_nil,↓reduceIte,Bool.false_eq_true,and_true,not_false_eq_true,decide_true,decide_false,Nat.le_refl,reduceCtorEq,Nat.zero_add,Nat.reduceEqDiff,Nat.reduceLT,Nat.reduceLeDiff,Int.toNat_natCast,Int.natCast_nonneg,qau,qaO,qa6,qaQ,qb0,qar,h1,h2,h3,h4,hup,hA,hB,qc9,qda]
 ·intro m _
  have h0:=qbF l.length
  rw[hz]
  unfold qjQ
  simp -implicitDefEqProofs only[qad,qae,qaf,qbl,qab,qah,aOp,opd,qai,qav,qag,qbh,qbg,qaj,gcE,qaS,qac,qay,qam,qat,qaz,qaU,ren,renC,qbW,qca,qbv,List.map_cons,List.map_nil,List.flatMap_cons,List.flatMap_nil,List.length_cons,List.length_nil,List.nil_append,List.append_nil,List.take_succ_cons,List.take_nil,List.not_mem_nil,↓reduceIte,Bool.false_eq_true,and_true,not_false_eq_true,decide_false,Nat.le_refl,reduceCtorEq,Nat.zero_add,Nat.reduceEqDiff,Nat.reduceLT,Nat.reduceLeDiff,qau,qaQ,h0,hA,hB,qc9,qda]
def qq7 (L:Lib) (t t':CTree):Prop:=∀ m:IM Int,call L 189 [qaX t,qaX t',.map (some 0)] [.map (encB m)]=some (.val (.bool (qh5 t t' m).1),[.map (encB (qh5 t t' m).2)])
def qsL (_:Nat) (m:IM Int) (p:CTree × CTree):Except (IM Int) (IM Int):=match qh5 p.1 p.2 m with | (true,m1)=>.ok m1 | (false,m1)=>.error m1
theorem qk1:∀ (ks ks':List CTree) (i:Nat) (m:IM Int),qcr qsL (ks.zip ks') i m=match qeF ks ks' m with | (true,m1)=>.ok m1 | (false,m1)=>.error m1
 | [],_,i,m=>by rw[List.zip_nil_left,qeF];rfl
 | k::ks,[],i,m=>by rw[List.zip_nil_right,qeF];rfl
 | k :: ks,k' :: ks',i,m => by
   rw[List.zip_cons_cons,qcr,qeF]
   unfold qsL
   dsimp only
   rcases hq:qh5 k k' m with ⟨b,m1⟩
   cases b with
   | false=>rfl
   | true=>exact qk1 ks ks' (i+1) m1
variable (hL:Plain L)
include hL
theorem qxi (op n:Int) (binds:List Int) (kids:List CTree) (alts:List CAlt) (op' n':Int) (binds':List Int) (kids':List CTree) (alts':List CAlt) (hk:kids.length<2 ^ 30) (hl:kids.length=kids'.length) (ih:∀ p∈kids.zip kids',qq7 L p.1 p.2) (m:IM Int) :
  qcg L.pure (call L) 1 [0,1,2,200,201] [6] 5 qhk ⟨kt [0,1,2,200,201] [.vptr [.int .i64 op,.int .i64 n,.list (binds.map qaP) none,.list (kids.map qaX) none,.list (alts.map qaM) none] 0,.vptr [.int .i64 op',.int .i64 n',.list (binds'.map qaP) none,.list (kids'.map qaX) none,.list (alts'.map qaM) none] 0,.map (some 0),.int .i64 kids.length,.int .i64 ((0:Nat):Int)],[.map (encB m)]⟩ =
   some (if (qeF kids kids' m).1=true then (.normal,⟨kt [6] [.junk],[.map (encB (qeF kids kids' m).2)]⟩) else (.ret,⟨kt [6] [.bool false],[.map (encB (qeF kids kids' m).2)]⟩)):=by
 have hp:=hL.pure
 have hdA:=qaG alts
 have hdA':=qaG alts'
 have hdT:=qcV kids
 have hdT':=qcV kids'
 have hz:(kids.zip kids').length=kids.length:=by rw[List.length_zip];omega
 have key:=qds (pure:=L.pure) (call:=call L) (b:=1) (keep:=[0,1,2,200,201]) (fk:=[6]) (id:=5) (body:=qhk) (kids.zip kids') qsL
  (fun m i=>⟨kt [0,1,2,200,201] [.vptr [.int .i64 op,.int .i64 n,.list (binds.map qaP) none,.list (kids.map qaX) none,.list (alts.map qaM) none] 0,.vptr [.int .i64 op',.int .i64 n',.list (binds'.map qaP) none,.list (kids'.map qaX) none,.list (alts'.map qaM) none] 0,.map (some 0),.int .i64 kids.length,.int .i64 i],[.map (encB m)]⟩) (fun m=>⟨kt [6] [.junk],[.map (encB m)]⟩)
  (fun e R=>R=⟨kt [6] [.bool false],[.map (encB e)]⟩) (fun _ _=>True) m trivial ?_ ?_ ?_
 ·have hf:=qk1 kids kids' 0 m
  rcases hq:qeF kids kids' m with ⟨b,m1⟩
  rw[hq] at hf
  cases b with
  | true=>exact (key.1 m1 hf).2
  | false =>
    obtain⟨R,rfl,h⟩:=key.2 m1 hf
    exact h
 ·intro i hi m m1 _ hq
  have hi1:i<kids.length:=by omega
  have hi2:i<kids'.length:=by omega
  obtain⟨h1,h2,h3⟩:=qbE qaX kids hk i hi1
  have h4:(kids'.map qaX)[i]? = some (qaX kids'[i]):=by simp[hi2]
  have hs:=ih (kids.zip kids')[i] (List.getElem_mem hi) m
  refine⟨?_,trivial⟩
  unfold qsL at hq
  rw[List.getElem_zip] at hq hs
  dsimp only at hq hs
  generalize kids[i]=k at *
  generalize kids'[i]=k' at *
  rcases hr:qh5 k k' m with ⟨b,m2⟩
  rw[hr] at hq hs
  cases b with
  | false=>cases hq
  | true =>
    injection hq with hq
    subst hq
    obtain⟨tc,htc,hdt⟩:=qc0 k
    obtain⟨tc',htc',hdt'⟩:=qc0 k'
    rw[htc,htc'] at hs
    unfold qhk
    simp -implicitDefEqProofs only[qaq,qad,qa5,qae,qaf,qao,qab,qah,aOp,opd,qai,qav,qag,qbh,qbg,aUn,qaE,qaj,qaA,qaF,qaK,qdm,qaS,qac,qay,qam,qat,qaz,qaU,ren,renC,qbW,qca,qbz,qbo,qa7,qbx,qbS,qiQ,qaa,qbI,qal,qaN,qbv,qap,qak,Option.getD_some,List.map_cons,List.map_nil,List.flatMap_cons,List.flatMap_nil,List.length_cons,List.length_nil,List.cons_append,List.nil_append,List.append_nil,List.getElem?_cons_zero,List.getElem?_cons_succ,List.take_succ_cons,List.take_nil,List.all_cons,List.all_nil,List.not_mem_nil,↓reduceIte,Bool.and_true,Bool.and_false,Bool.not_true,Bool.false_eq_true,and_true,not_false_eq_true,decide_true,decide_false,and_self,Nat.le_refl,reduceCtorEq,Nat.zero_add,Nat.reduceEqDiff,Nat.reduceLT,Nat.reduceLeDiff,Int.toNat_natCast,Int.natCast_nonneg,qau,qaO,qa6,qaQ,qee,qcX,qe9,qcY,qdt,qcW,qgV,qed,qcC,qar,h1,h2,h3,h4,htc,htc',hdt,hdt',hs,hdA,hdA',hdT,hdT',qc9,qda,qaJ L hp,hp]
 ·intro i hi m e _ hq
  have hi1:i<kids.length:=by omega
  have hi2:i<kids'.length:=by omega
  obtain⟨h1,h2,h3⟩:=qbE qaX kids hk i hi1
  have h4:(kids'.map qaX)[i]? = some (qaX kids'[i]):=by simp[hi2]
  have hs:=ih (kids.zip kids')[i] (List.getElem_mem hi) m
  refine⟨_,rfl,?_⟩
  unfold qsL at hq
  rw[List.getElem_zip] at hq hs
  dsimp only at hq hs
  generalize kids[i]=k at *
  generalize kids'[i]=k' at *
  rcases hr:qh5 k k' m with ⟨b,m2⟩
  rw[hr] at hq hs
  cases b with
  | true=>cases hq
  | false =>
    injection hq with hq
    subst hq
    obtain⟨tc,htc,hdt⟩:=qc0 k
    obtain⟨tc',htc',hdt'⟩:=qc0 k'
    rw[htc,htc'] at hs
    unfold qhk
    simp -implicitDefEqProofs only[qaq,qad,qa5,qae,qaf,qao,qax,qab,qah,aOp,opd,qai,qav,qag,qbh,qbg,aUn,qaE,qaj,qaA,qaF,qaK,qdm,gcE,qaS,qac,qay,qam,qat,qaz,qaU,ren,renC,qbW,qca,qbz,qbo,qa7,qbx,qbS,qiQ,qbI,qaN,qbv,qap,qak,Option.getD_some,List.map_cons,List.map_nil,List.flatMap_cons,List.flatMap_nil,List.length_cons,List.length_nil,List.cons_append,List.nil_append,List.append_nil,List.getElem?_cons_zero,List.getElem?_cons_succ,List.take_succ_cons,List.take_nil,List.all_cons,List.all_nil,List.not_mem_nil,↓reduceIte,Bool.and_true,Bool.and_false,Bool.not_false,Bool.false_eq_true,not_false_eq_true,decide_true,decide_false,and_self,Nat.le_refl,reduceCtorEq,Nat.zero_add,Nat.reduceEqDiff,Nat.reduceLT,Int.toNat_natCast,Int.natCast_nonneg,qau,qaO,qa6,qaQ,qee,qcX,qe9,qcY,qdt,qcW,qgV,qed,qcC,h1,h2,h3,h4,htc,htc',hdt,hdt',hs,hdA,hdA',hdT,hdT',qc9,qda,qaJ L hp,hp]
 ·intro m _
  have h0:=qbF kids.length
  rw[hz]
  unfold qhk
  simp -implicitDefEqProofs only[qad,qae,qaf,qbl,qab,qah,aOp,opd,qai,qav,qag,qbh,qbg,qaj,gcE,qaS,qac,qay,qam,qaz,qaU,ren,renC,qbW,qca,qb1,List.map_cons,List.map_nil,List.flatMap_cons,List.flatMap_nil,List.length_cons,List.length_nil,List.append_nil,List.take_succ_cons,List.take_nil,↓reduceIte,Bool.false_eq_true,decide_false,Nat.le_refl,reduceCtorEq,Nat.zero_add,Nat.reduceEqDiff,qau,qaQ,h0,hdA,hdA',hdT,hdT',qc9,qda]
end
theorem qoG {op:Int} {binds binds':List Int} {alts alts':List CAlt} (hb:binds.length=binds'.length) (ha:alts.length=alts'.length) (h:qgF alts alts'=false):(qbt op binds alts).length=(qbt op binds' alts').length:=by
 unfold qbt
 rw[List.length_append,List.length_append,qtf alts alts' h ha]
 split
 ·rw[hb]
 ·rfl
section
variable {L:Lib} (hL:Plain L)
include hL
theorem qsN (h232:L.fns 232=some fn232) (op n:Int) (binds:List Int) (kids:List CTree) (alts:List CAlt) (n':Int) (binds':List Int) (kids':List CTree) (alts':List CAlt)
  (ha:alts.length<2 ^ 30) (hk:kids.length<2 ^ 30) (hbf:(binds++alts.flatMap (·.binds)).length<2 ^ 30) (hbf':(binds'++alts'.flatMap (·.binds)).length<2 ^ 30) (ha':alts'.length<2 ^ 30) (hlk:kids.length=kids'.length) (hlb:binds.length=binds'.length) (hla:alts.length=alts'.length)
  (ih:∀ p∈kids.zip kids',qq7 L p.1 p.2) (m:IM Int) (tm:Tmps) (h0:tm 0=.vptr [.int .i64 op,.int .i64 n,.list (binds.map qaP) none,.list (kids.map qaX) none,.list (alts.map qaM) none] 0) (h1:tm 1=.vptr [.int .i64 op,.int .i64 n',.list (binds'.map qaP) none,.list (kids'.map qaX) none,.list (alts'.map qaM) none] 0) (h2:tm 2=.map (some 0)) :
  qaR [.tmp 6] (qbJ L.pure (call L) qgf ⟨tm,[.map (encB m)]⟩) =
   some (.val (.bool (if qgF alts alts'=true then (false,m) else qeF kids kids' (qiM (qbt op binds alts) (qbt op binds' alts') m)).1),[.map (encB (if qgF alts alts'=true then (false,m) else qeF kids kids' (qiM (qbt op binds alts) (qbt op binds' alts') m)).2)]):=by
 have hp:=hL.pure
 have hdA:=qaG alts
 have hdA':=qaG alts'
 have hdT:=qcV kids
 have hdT':=qcV kids'
 have hl0:=qxg (L:=L) op n binds kids alts op n' binds' kids' alts' ha hla m
 simp only[Int.natCast_zero] at hl0
 cases ha1:qgF alts alts' with
 | true =>
   simp only[ha1,if_true] at hl0
   unfold qgf
   simp -implicitDefEqProofs only[qad,qae,qab,qah,aOp,opd,qai,qav,qag,qco,qaF,qaK,qaR,qas,qaB,qaI,qaL,qaS,qac,qay,qam,qat,qaz,qaU,ren,renC,qbW,qca,qaa,qal,qaN,qbv,qap,qak,List.map_cons,List.map_nil,List.flatMap_cons,List.flatMap_nil,List.length_cons,List.length_nil,List.length_map,List.nil_append,List.append_nil,List.getElem?_cons_zero,List.getElem?_cons_succ,List.take_succ_cons,List.take_nil,List.not_mem_nil,↓reduceIte,Bool.and_true,Bool.false_eq_true,and_true,not_false_eq_true,decide_false,Nat.le_refl,reduceCtorEq,Nat.zero_add,Nat.reduceEqDiff,Nat.reduceLT,Nat.reduceLeDiff,qar,h0,h1,h2,hl0,hdA,hdA',hdT,hdT',qc9,qda]
 | false =>
   simp only[ha1,Bool.false_eq_true,if_false] at hl0 ⊢
   have hb1:=qg8 hL h232 op n binds (.list (kids.map qaX) none) (by rw[qaa];exact hdT) alts ha (by omega)
   have hb2:=qg8 hL h232 op n' binds' (.list (kids'.map qaX) none) (by rw[qaa];exact hdT') alts' ha' (by omega)
   have hbl:=qoG (op:=op) hlb hla ha1
   have hbl1:=qmE op binds alts
   have hdB1:=qar (qbt op binds alts)
   have hdB2:=qar (qbt op binds' alts')
   generalize qbt op binds alts=l at *
   generalize qbt op binds' alts'=l' at *
   have hl1:=qxh (L:=L) (.vptr [.int .i64 op,.int .i64 n,.list (binds.map qaP) none,.list (kids.map qaX) none,.list (alts.map qaM) none] 0) (.vptr [.int .i64 op,.int .i64 n',.list (binds'.map qaP) none,.list (kids'.map qaX) none,.list (alts'.map qaM) none] 0) (by simp only[qa2,qaZ,qar,hdT,hdA,Bool.and_self]) (by simp only[qa2,qaZ,qar,hdT',hdA',Bool.and_self]) l l' (by omega) hbl m
   have hl2:=qxi hL op n binds kids alts op n' binds' kids' alts' hk hlk ih (qiM l l' m)
   simp only[Int.natCast_zero] at hl1 hl2
   generalize qiM l l' m=m1 at *
   rcases hq:qeF kids kids' m1 with ⟨b,m2⟩
   rw[hq] at hl2
   cases b with
   | true =>
     simp only[if_true] at hl2
     unfold qgf
     simp -implicitDefEqProofs only[qad,qae,qax,qab,qah,aOp,opd,qai,qav,qag,qco,qaF,qaK,qaR,qas,qaB,qaI,qaL,qaS,qac,qay,qam,qat,qaz,qaU,ren,renC,qbW,qca,qbS,qaa,qal,qaN,qbv,qap,qak,List.map_cons,List.map_nil,List.flatMap_cons,List.flatMap_nil,List.length_cons,List.length_nil,List.length_map,List.nil_append,List.append_nil,List.getElem?_cons_zero,List.getElem?_cons_succ,List.take_succ_cons,List.take_nil,List.not_mem_nil,↓reduceIte,Bool.and_true,Bool.false_eq_true,and_true,not_false_eq_true,decide_false,Nat.le_refl,reduceCtorEq,Nat.zero_add,Nat.reduceEqDiff,Nat.reduceLT,Nat.reduceLeDiff,qaQ,qar,h0,h1,h2,hl0,hb1,hb2,hl1,hl2,hdA,hdA',hdT,hdT',qc9,qda,qaJ L hp,hp]
   | false =>
     simp only[Bool.false_eq_true,if_false] at hl2
     unfold qgf
     simp -implicitDefEqProofs only[qad,qae,qab,qah,aOp,opd,qai,qav,qag,qco,qaF,qaK,qaR,qas,qaB,qaI,qaL,qaS,qac,qay,qam,qat,qaz,qaU,ren,renC,qbW,qca,qbS,qaa,qal,qaN,qbv,qap,qak,List.map_cons,List.map_nil,List.flatMap_cons,List.flatMap_nil,List.length_cons,List.length_nil,List.length_map,List.nil_append,List.append_nil,List.getElem?_cons_zero,List.getElem?_cons_succ,List.take_succ_cons,List.take_nil,List.not_mem_nil,↓reduceIte,Bool.and_true,Bool.false_eq_true,and_true,not_false_eq_true,decide_false,Nat.le_refl,reduceCtorEq,Nat.zero_add,Nat.reduceEqDiff,Nat.reduceLT,Nat.reduceLeDiff,qaQ,qar,h0,h1,h2,hl0,hb1,hb2,hl1,hl2,hdA,hdA',hdT,hdT',qc9,qda,qaJ L hp,hp]
theorem qxj (h139:L.fns 139=some fn139) (h232:L.fns 232=some fn232) (h189:L.fns 189=some fn189) (t:CTree) (hf:TFit t):∀ t',TFit t'→qq7 L t t':=by
 have hp:=hL.pure
 have hs:L.summ 189=none:=hL.summ 189 (by rw[h189];exact fun hx=>by cases hx)
 induction t using CTree.ind with
 | h op n binds kids alts ih =>
   intro t' hf' m
   cases hf with
   | mk _ _ _ _ _ hb hk ha hfk =>
   cases hf' with
   | mk op' n' binds' kids' alts' hb' hk' ha' hfk' =>
   refine qd6 hs h189 ?_
   rw[qc6,qc6]
   have hdA:=qaG alts
   have hdA':=qaG alts'
   have hdT:=qcV kids
   have hdT':=qcV kids'
   rw[qh5]
   by_cases e1:op=op'
   case neg =>
    have e1':(op==op')=false:=by simpa using e1
    rw[if_pos (.inl e1)]
    unfold fn189
    simp -implicitDefEqProofs only[qad,qa5,qae,qaf,qax,qab,qah,aOp,opd,qai,qan,qag,qbh,qbg,qaj,qaA,qaF,qaK,qaR,qas,qaB,qaI,qbz,qbo,qa7,qbx,qdj,Option.getD_some,List.nil_append,List.getElem?_cons_zero,List.getElem?_cons_succ,↓reduceIte,Bool.not_false,Bool.false_eq_true,reduceCtorEq,Nat.add_zero,Nat.reduceEqDiff,qaO,qa6,e1',hdA,hdA',hdT,hdT',qc9,qda,bne]
   subst e1
   by_cases e2:kids.length=kids'.length
   case neg =>
    have e2':((kids.length:Int)==kids'.length)=false:=by simp;omega
    rw[if_pos (.inr (.inl e2))]
    unfold fn189
    simp -implicitDefEqProofs only[qad,qa5,qae,qaf,qax,qab,qah,aOp,opd,qai,qan,qag,qbh,qco,qbg,qaj,qaA,qaF,qaK,qaR,qas,qaB,qaI,qbz,qbo,qa7,qbx,qdj,beq_self_eq_true,Option.getD_some,List.length_map,List.nil_append,List.getElem?_cons_zero,List.getElem?_cons_succ,↓reduceIte,Bool.not_true,Bool.not_false,Bool.false_eq_true,reduceCtorEq,Nat.add_zero,Nat.zero_add,Nat.reduceEqDiff,qaO,qa6,e2',hdA,hdA',hdT,hdT',qc9,qda,bne]
   have e2':((kids.length:Int)==kids'.length)=true:=by simp;omega
   by_cases e3:binds.length=binds'.length
   case neg =>
    have e3':((binds.length:Int)==binds'.length)=false:=by simp;omega
    rw[if_pos (.inr (.inr (.inl e3)))]
    unfold fn189
    simp -implicitDefEqProofs only[qad,qa5,qae,qaf,qax,qab,qah,aOp,opd,qai,qan,qag,qbh,qco,qbg,qaj,qaA,qaF,qaK,qaR,qas,qaB,qaI,qbz,qbo,qa7,qbx,qdj,beq_self_eq_true,Option.getD_some,List.length_map,List.nil_append,List.getElem?_cons_zero,List.getElem?_cons_succ,↓reduceIte,Bool.not_true,Bool.not_false,Bool.false_eq_true,reduceCtorEq,Nat.add_zero,Nat.zero_add,Nat.reduceEqDiff,qaO,qa6,e2',e3',hdA,hdA',hdT,hdT',qc9,qda,bne]
   have e3':((binds.length:Int)==binds'.length)=true:=by simp;omega
   by_cases e4:alts.length=alts'.length
   case neg =>
    have e4':((alts.length:Int)==alts'.length)=false:=by simp;omega
    rw[if_pos (.inr (.inr (.inr e4)))]
    unfold fn189
    simp -implicitDefEqProofs only[qad,qa5,qae,qaf,qax,qab,qah,aOp,opd,qai,qan,qag,qbh,qco,qbg,qaj,qaA,qaF,qaK,qaR,qas,qaB,qaI,qbz,qbo,qa7,qbx,beq_self_eq_true,Option.getD_some,List.length_map,List.nil_append,List.getElem?_cons_zero,List.getElem?_cons_succ,↓reduceIte,Bool.not_true,Bool.not_false,Bool.false_eq_true,reduceCtorEq,Nat.add_zero,Nat.zero_add,Nat.reduceEqDiff,qaO,qa6,e2',e3',e4',hdA,hdA',hdT,hdT',qc9,qda,bne]
   have e4':((alts.length:Int)==alts'.length)=true:=by simp;omega
   rw[if_neg (by simp[e2,e3,e4])]
   by_cases h0:op=0
   ·subst h0
    rw[if_pos rfl]
    unfold qpj
    have hlk:=fun (h:Heap) (hr:h[0]? = some (.map (encB m)))=>qoY qaP h 0 (.int .i64 0) true n m hr
    cases hq:qce n m with
    | some x =>
      rw[hq] at hlk
      cases hx:(x==n')<;>unfold fn189<;>simp -implicitDefEqProofs only[qaq,qad,qa5,qae,qaf,qao,qax,qab,qah,aOp,opd,qai,qan,qag,qbh,qco,qbg,aUn,qaj,qaA,qaF,qaK,qaR,qas,qaB,qaI,qbz,qbo,qa7,qbx,qdj,qcI,beq_self_eq_true,Option.getD_some,List.length_map,List.nil_append,List.getElem?_cons_zero,List.getElem?_cons_succ,↓reduceIte,Bool.not_true,Bool.false_eq_true,reduceCtorEq,Nat.add_zero,Nat.zero_add,Nat.reduceEqDiff,qaO,qa6,qb0,e2',e3',e4',hlk,hx,hdA,hdA',hdT,hdT',qc9,qda,bne]
    | none =>
      rw[hq] at hlk
      cases hx:(n==n')<;>unfold fn189<;>simp -implicitDefEqProofs only[qaq,qad,qa5,qae,qaf,qao,qax,qab,qah,aOp,opd,qai,qan,qag,qbh,qco,qbg,aUn,qaj,qaA,qaF,qaK,qaR,qas,qaB,qaI,qbz,qbo,qa7,qbx,qcI,beq_self_eq_true,Option.getD_some,List.length_map,List.nil_append,List.getElem?_cons_zero,List.getElem?_cons_succ,↓reduceIte,Bool.not_true,Bool.not_false,Bool.false_eq_true,reduceCtorEq,Nat.add_zero,Nat.zero_add,Nat.reduceEqDiff,qaO,qa6,e2',e3',e4',hlk,hx,hdA,hdA',hdT,hdT',qc9,qda,bne]
   have h0':(op==0)=false:=by simpa using h0
   rw[if_neg h0]
   have T:=qsN hL h232 op n binds kids alts n' binds' kids' alts' ha hk hb hb' ha' e2 e3 e4 (fun p hp'=>by
    obtain⟨h1,h2⟩:=List.of_mem_zip (a:=p.1) (b:=p.2) hp'
    exact ih p.1 h1 (hfk p.1 h1) p.2 (hfk' p.2 h2)) m
   by_cases h5:n=n'
   case neg =>
    have h5':(n==n')=false:=by simpa using h5
    rw[if_pos (.inl h5)]
    unfold fn189
    generalize qgf=tl at *
    simp -implicitDefEqProofs only[qaq,qad,qa5,qae,qaf,qao,qax,qab,qah,aOp,opd,qai,qan,qag,qbh,qco,qbg,qaj,qaA,qaF,qaK,qaR,qas,qaB,qaI,qbz,qbo,qa7,qbx,qdj,beq_self_eq_true,Option.getD_some,List.length_map,List.nil_append,List.getElem?_cons_zero,List.getElem?_cons_succ,↓reduceIte,Bool.not_true,Bool.not_false,Bool.false_eq_true,reduceCtorEq,Nat.add_zero,Nat.zero_add,Nat.reduceEqDiff,qaO,qa6,e2',e3',e4',h0',h5',hdA,hdA',hdT,hdT',qc9,qda,bne]
   subst h5
   by_cases h9:op=9
   ·subst h9
    have hq:=qrG hL h139 binds binds' (by rw[List.length_append] at hb;omega)
    by_cases hbb:binds=binds'
    ·have hd:decide (binds=binds')=true:=by simpa using hbb
     rw[hd] at hq
     rw[if_neg (by simp[hbb])]
     unfold fn189
     generalize qgf=tl at *
     simp -implicitDefEqProofs only[qaq,qad,qa5,qae,qaf,qao,qab,qah,aOp,opd,qai,qan,qag,qbh,qco,qbg,aUn,qaj,qaA,qaF,qaK,qaR,qas,qaB,qaI,qbz,qbo,qa7,qbx,qbc,qaa,qap,qak,beq_self_eq_true,Option.getD_some,List.map_cons,List.map_nil,List.length_map,List.nil_append,List.getElem?_cons_zero,List.getElem?_cons_succ,↓reduceIte,Bool.and_true,Bool.not_true,Bool.false_eq_true,and_self,reduceCtorEq,Nat.add_zero,Nat.zero_add,Nat.reduceEqDiff,qaO,qa6,Int.reduceBEq,qa4,qar,e2',e3',e4',hq,hdA,hdA',hdT,hdT',qc9,qda,bne,qaJ L hp,hp]
     exact T _ (by simp -implicitDefEqProofs only[qai,qan,Option.getD_some,List.getElem?_cons_zero,↓reduceIte,reduceCtorEq]) (by simp -implicitDefEqProofs only[qai,qan,Option.getD_some,List.getElem?_cons_zero,List.getElem?_cons_succ,↓reduceIte,Nat.reduceEqDiff]) (by simp -implicitDefEqProofs only[qai,qan,Option.getD_some,List.getElem?_cons_zero,List.getElem?_cons_succ,↓reduceIte,Nat.reduceEqDiff])
    ·have hd:decide (binds=binds')=false:=by simpa using hbb
     rw[hd] at hq
     rw[if_pos (.inr ⟨rfl,hbb⟩)]
     unfold fn189
     generalize qgf=tl at *
     simp -implicitDefEqProofs only[qaq,qad,qa5,qae,qaf,qao,qax,qab,qah,aOp,opd,qai,qan,qag,qbh,qco,qbg,aUn,qaj,qaA,qaF,qaK,qaR,qas,qaB,qaI,qbz,qbo,qa7,qbx,qbc,qaa,qap,qak,beq_self_eq_true,Option.getD_some,List.map_cons,List.map_nil,List.length_map,List.nil_append,List.getElem?_cons_zero,List.getElem?_cons_succ,↓reduceIte,Bool.and_true,Bool.not_true,Bool.not_false,Bool.false_eq_true,and_self,reduceCtorEq,Nat.add_zero,Nat.zero_add,Nat.reduceEqDiff,qaO,qa6,Int.reduceBEq,qa4,qar,e2',e3',e4',hq,hdA,hdA',hdT,hdT',qc9,qda,bne,qaJ L hp,hp]
   ·have h9':(op==9)=false:=by simpa using h9
    rw[if_neg (by simp[h9])]
    unfold fn189
    generalize qgf=tl at *
    simp -implicitDefEqProofs only[qaq,qad,qa5,qae,qaf,qao,qab,qah,aOp,opd,qai,qan,qag,qbh,qco,qbg,qaj,qaA,qaF,qaK,qaR,qas,qaB,qaI,qbz,qbo,qa7,qbx,qcI,beq_self_eq_true,Option.getD_some,List.length_map,List.nil_append,List.getElem?_cons_zero,List.getElem?_cons_succ,↓reduceIte,Bool.not_true,Bool.false_eq_true,reduceCtorEq,Nat.add_zero,Nat.zero_add,Nat.reduceEqDiff,qaO,qa6,e2',e3',e4',h0',h9',hdA,hdA',hdT,hdT',qc9,qda,bne,qaJ L hp,hp]
    exact T _ (by simp -implicitDefEqProofs only[qai,qan,Option.getD_some,List.getElem?_cons_zero,↓reduceIte,reduceCtorEq]) (by simp -implicitDefEqProofs only[qai,qan,Option.getD_some,List.getElem?_cons_zero,List.getElem?_cons_succ,↓reduceIte,Nat.reduceEqDiff]) (by simp -implicitDefEqProofs only[qai,qan,Option.getD_some,List.getElem?_cons_zero,List.getElem?_cons_succ,↓reduceIte,Nat.reduceEqDiff])
theorem qpc (h139:L.fns 139=some fn139) (h232:L.fns 232=some fn232) (h189:L.fns 189=some fn189) (h164:L.fns 164=some fn164) (t t':CTree) (hf:TFit t) (hf':TFit t') (h:Heap) :
  pcall L 164 [qaX t,qaX t'] h=some (.val (.bool (qh5 t t' []).1),h):=by
 have hp:=hL.pure
 have hs:=qxj hL h139 h232 h189 t hf t' hf' []
 refine qbH hL h164 rfl ?_ h
 obtain⟨tc,htc,hdt⟩:=qc0 t
 obtain⟨tc',htc',hdt'⟩:=qc0 t'
 have hn:encB []=[]:=rfl
 rw[hn] at hs
 rw[htc,htc'] at hs ⊢
 unfold fn164
 simp -implicitDefEqProofs only[qad,qae,qax,qab,qah,aOp,opd,qai,qan,qaR,qas,qaB,qaI,qam,qat,qaU,ren,renC,qg1,qbW,qca,qgR,qbf,qbS,qiQ,qbI,qaN,qbv,qap,qak,Option.getD_some,List.map_cons,List.map_nil,List.flatMap_cons,List.flatMap_nil,List.length_cons,List.length_nil,List.nil_append,List.append_nil,List.getElem?_cons_zero,List.getElem?_cons_succ,List.take_succ_cons,List.take_nil,List.all_cons,List.all_nil,List.not_mem_nil,↓reduceIte,Bool.and_true,Bool.and_false,Bool.false_eq_true,not_false_eq_true,decide_true,and_self,Nat.le_refl,reduceCtorEq,Nat.zero_add,Nat.reduceEqDiff,Nat.reduceLT,qee,qcX,qe9,qcY,qdt,qcW,qgV,qed,qcC,qaD,hs,hdt,hdt',qc9,qda,qaJ L hp,hp]
end
end Go.Abs
