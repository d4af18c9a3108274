/-
  PARTS OF A PROOF, joined: an abstract machine for quiet code, its evaluation, and what the seat's functions answer on it. Conditions: none.
-/
import Derived.Test.YtbmognfolkhkpaaDoorCQ
set_option linter.unusedVariables false
set_option linter.unusedSimpArgs false
set_option maxRecDepth 100000
set_option maxHeartbeats 4000000
namespace Go.Abs
section
end
def qiF (b:List Int) (i:Nat) (x:Int):Bool := !(x==b.getD i 0)
theorem qwb {a b:List Int} (h:a.length=b.length):(qbw (fun i x=>if qiF b i x=true then some () else none) a 0).isSome = !decide (a=b):=by
 rw[Bool.eq_iff_iff,qim (qiF b) a 0]
 simp only[Bool.not_eq_true',decide_eq_false_iff_not]
 constructor
 ·rintro ⟨i,hi,hn⟩ e
  subst e
  unfold qiF at hn
  rw[Nat.zero_add,List.getD_eq_getElem?_getD,List.getElem?_eq_getElem hi] at hn
  simp at hn
 ·intro hne
  refine Classical.byContradiction fun hx=>hne ?_
  refine List.ext_getElem h fun i h1 h2=>?_
  refine Classical.byContradiction fun hd=>hx ⟨i,h1,?_⟩
  unfold qiF
  rw[Nat.zero_add,List.getD_eq_getElem?_getD,List.getElem?_eq_getElem h2]
  simpa using hd
section
variable {L:Lib} (hL:Plain L)
include hL
theorem qsg (hf:L.fns 139=some fn139) (a b:List Int) (ha:a.length<2 ^ 30) (h:Heap):pcall L 139 [.list (a.map qaY) none,.list (b.map qaY) none] h=some (.val (.bool (decide (a=b))),h):=by
 refine qbK hL hf rfl ?_ h
 by_cases hl:a.length=b.length
 ·have hs:=qwb hl
  have hround:∀ (i:Nat) (hi:i<a.length),qb6 L.pure (call L) 0 [0,1,12,13] [4] qio ⟨kt [0,1,12,13] [.list (a.map qaY) none,.list (b.map qaY) none,.int .i64 a.length,.int .i64 i],[]⟩ =
    some (if qiF b i a[i]=true then (.ret,⟨kt [4] [.bool false],[]⟩) else (.normal,⟨kt [0,1,12,13] [.list (a.map qaY) none,.list (b.map qaY) none,.int .i64 a.length,.int .i64 ((i+1:Nat):Int)],[]⟩)):=by
   intro i hi
   obtain⟨h1,h2,h3⟩:=qbz qaY a ha i hi
   have h4:(b.map qaY)[i]? = some (qaY (b.getD i 0)):=by
    have:i<b.length:=by omega
    simp[this]
   unfold qiF
   generalize a[i]=x at *
   generalize b.getD i 0=y at *
   cases hq:(x==y)<;>unfold qio<;>simp -implicitDefEqProofs only[qam,qad,qaJ,qae,qab,qal,qap,qac,qah,aOp,opd,qai,qaB,qag,qbb,qba,qas,qaj,qaw,qaA,qaM,gcE,qa0,qaf,qaE,qat,qaF,qa5,ren,renC,qbm,qbU,qcd,qa2,qaR,qaL,qa8,qaa,qbJ,qaq,Option.getD_none,List.map_cons,List.map_nil,List.flatMap_cons,List.flatMap_nil,List.length_cons,List.length_nil,List.nil_append,List.append_nil,List.getElem?_nil,List.getElem?_cons_zero,List.take_nil,↓reduceIte,Bool.not_true,Bool.not_false,Bool.false_eq_true,decide_true,decide_false,Nat.le_refl,reduceCtorEq,Nat.zero_add,Nat.reduceEqDiff,Int.toNat_natCast,Int.natCast_nonneg,qaz,qaC,qaK,qa1,qb1,qay,h1,h2,h3,h4,hq,bne]
  have hloop:=qdA (pure:=L.pure) (call:=call L) (b:=0) (keep:=[0,1,12,13]) (fk:=[4]) (id:=0) (body:=qio) a (fun i x=>if qiF b i x=true then some () else none)
   (fun i=>⟨kt [0,1,12,13] [.list (a.map qaY) none,.list (b.map qaY) none,.int .i64 a.length,.int .i64 i],[]⟩) ⟨kt [4] [.junk],[]⟩ (fun _=>⟨kt [4] [.bool false],[]⟩)
   (by
    intro i hi hq
    rw[hround i hi,if_neg]
    intro hx
    simp[hx] at hq)
   (by
    intro i hi r hq
    cases hx:qiF b i a[i] with
    | false=>simp[hx] at hq
    | true=>rw[hround i hi,if_pos hx])
   (by
    have h0:=qbA a.length
    unfold qio
    simp -implicitDefEqProofs only[qad,qae,qab,qbk,qac,qah,aOp,opd,qai,qaB,qag,qbb,qba,qaj,gcE,qa0,qaf,qaE,qat,qaF,qa5,ren,renC,qbm,qbU,qcd,qbX,Option.getD_none,List.map_cons,List.map_nil,List.flatMap_cons,List.flatMap_nil,List.length_nil,List.append_nil,List.getElem?_nil,List.take_nil,↓reduceIte,Bool.false_eq_true,decide_false,Nat.le_refl,reduceCtorEq,Nat.reduceEqDiff,qaz,qa1,h0])
  simp only[Int.natCast_zero] at hloop
  have hne:((a.length:Int)==(b.length:Int))=true:=by rw[hl];simp
  cases hq:qbw (fun i x=>if qiF b i x=true then some () else none) a 0 with
  | none =>
    rw[hq] at hs hloop
    have hd:decide (a=b)=true:=by simpa using hs.symm
    rw[hd]
    simp only[qcv] at hloop
    unfold fn139
    simp -implicitDefEqProofs only[qam,qad,qae,qab,qap,qac,qah,aOp,opd,qai,qak,qag,qbb,qcg,qba,qaj,qaT,qan,qax,qaH,qaS,qa0,qaf,qaE,qat,qaF,qa5,ren,renC,qbm,qbU,qcd,qbf,qaa,qaq,Option.getD_some,Option.getD_none,List.map_cons,List.map_nil,List.flatMap_cons,List.flatMap_nil,List.length_nil,List.length_map,List.append_nil,List.getElem?_nil,List.getElem?_cons_zero,List.getElem?_cons_succ,List.take_nil,↓reduceIte,Bool.not_true,Bool.false_eq_true,decide_false,Nat.le_refl,reduceCtorEq,Nat.reduceEqDiff,qaI,qay,hne,hloop,bne]
  | some u =>
    rw[hq] at hs hloop
    have hd:decide (a=b)=false:=by simpa using hs.symm
    rw[hd]
    simp only[qcv] at hloop
    unfold fn139
    simp -implicitDefEqProofs only[qam,qad,qae,qab,qac,qah,aOp,opd,qai,qak,qaB,qag,qbb,qcg,qba,qaj,qaT,qan,qax,qaH,qaS,qa0,qaf,qaE,qat,qaF,qa5,ren,renC,qbm,qbU,qcd,qbf,qaa,qaq,Option.getD_some,Option.getD_none,List.map_cons,List.map_nil,List.flatMap_cons,List.flatMap_nil,List.length_nil,List.length_map,List.append_nil,List.getElem?_nil,List.getElem?_cons_zero,List.getElem?_cons_succ,List.take_nil,↓reduceIte,Bool.not_true,Bool.false_eq_true,decide_false,Nat.le_refl,reduceCtorEq,Nat.reduceEqDiff,qaI,qay,hne,hloop,bne]
 ·have hne:((a.length:Int)==(b.length:Int))=false:=by simp;omega
  have hd:decide (a=b)=false:=by simpa using fun e=>hl (by rw[e])
  rw[hd]
  unfold fn139
  simp -implicitDefEqProofs only[qad,qae,qab,qap,qac,qah,aOp,opd,qai,qak,qag,qbb,qcg,qba,qaj,qaT,qan,qax,qaH,qbf,Option.getD_some,List.length_map,List.getElem?_cons_zero,List.getElem?_cons_succ,↓reduceIte,Bool.not_false,Bool.false_eq_true,reduceCtorEq,Nat.reduceEqDiff,qaI,hne,bne]
end
section
def qia (as:List CAlt) (i:Nat) (a:CAlt):Bool:=match as[i]? with | some c => !(a.tag==c.tag) || !((a.binds.length:Int)==c.binds.length) | none=>false
def qgs (as cs:List CAlt):Bool:=(qbw (fun i a=>if qia cs i a=true then some () else none) as 0).isSome
def qjG (l l':List Int) (m:IM Int):IM Int:=(l.zip l').foldl (fun m p=>qo4 p.1 p.2 m) m
def qpQ (n n':Int) (m:IM Int):Bool:=match qcP n m with | some x=>x==n' | none=>n==n'
mutual
def qiQ:CTree→CTree→IM Int→Bool × IM Int
 | .mk op n binds kids alts,.mk op' n' binds' kids' alts',m =>
   if op≠op'∨kids.length≠kids'.length∨binds.length≠binds'.length∨alts.length≠alts'.length then (false,m)
   else if op=0 then (qpQ n n' m,m)
   else if n≠n'∨(op=9∧binds≠binds') then (false,m)
   else if qgs alts alts'=true then (false,m)
   else qeD kids kids' (qjG (qb3 op binds alts) (qb3 op' binds' alts') m)
def qeD:List CTree→List CTree→IM Int→Bool × IM Int
 | [],_,m=>(true,m)
 | k :: ks,l,m => match l with
   | []=>(true,m)
   | k'::ks'=>(match qiQ k k' m with | (true,m1)=>qeD ks ks' m1 | (false,m1)=>(false,m1))
end
theorem qtN (as cs:List CAlt) (h:qgs as cs=false) (hl:as.length=cs.length):(as.flatMap (·.binds)).length=(cs.flatMap (·.binds)).length:=by
 unfold qgs at h
 have h2:∀ i (hi:i<as.length),qia cs i as[i]=false:=by
  intro i hi
  cases hq:qia cs i as[i] with
  | false=>rfl
  | true =>
    have:=(qim (qia cs) as 0).2 ⟨i,hi,by rw[Nat.zero_add];exact hq⟩
    rw[h] at this
    cases this
 have h3:as.map (fun a=>a.binds.length)=cs.map (fun a=>a.binds.length):=by
  refine List.ext_getElem (by simpa using hl) fun i h4 h5=>?_
  have hi:i<as.length:=by simpa using h4
  have:=h2 i hi
  unfold qia at this
  rw[List.getElem?_eq_getElem (by omega)] at this
  simp at this ⊢
  omega
 rw[List.length_flatMap,List.length_flatMap]
 exact congrArg List.sum h3
variable {L:Lib}
theorem qxE (op n:Int) (binds:List Int) (kids:List CTree) (alts:List CAlt) (op' n':Int) (binds':List Int) (kids':List CTree) (alts':List CAlt) (ha:alts.length<2 ^ 30) (hl:alts.length=alts'.length) (m:IM Int) :
  qb7 L.pure (call L) 1 [0,1,2,134,135] [0,1,2,6] 1 qf1 ⟨kt [0,1,2,134,135] [.vptr [.int .i64 op,.int .i64 n,.list (binds.map qaY) none,.list (kids.map qaW) none,.list (alts.map qaU) none] 0,.vptr [.int .i64 op',.int .i64 n',.list (binds'.map qaY) none,.list (kids'.map qaW) none,.list (alts'.map qaU) none] 0,.map (some 0),.int .i64 alts.length,.int .i64 ((0:Nat):Int)],[.map (encB m)]⟩ =
   some (if qgs alts alts'=true then (.ret,⟨kt [0,1,2,6] [.vptr [.int .i64 op,.int .i64 n,.list (binds.map qaY) none,.list (kids.map qaW) none,.list (alts.map qaU) none] 0,.vptr [.int .i64 op',.int .i64 n',.list (binds'.map qaY) none,.list (kids'.map qaW) none,.list (alts'.map qaU) none] 0,.map (some 0),.bool false],[.map (encB m)]⟩) else (.normal,⟨kt [0,1,2,6] [.vptr [.int .i64 op,.int .i64 n,.list (binds.map qaY) none,.list (kids.map qaW) none,.list (alts.map qaU) none] 0,.vptr [.int .i64 op',.int .i64 n',.list (binds'.map qaY) none,.list (kids'.map qaW) none,.list (alts'.map qaU) none] 0,.map (some 0),.junk],[.map (encB m)]⟩)):=by
 have hdA:=qaO alts
 have hdA':=qaO alts'
 have hdT:=qcr kids
 have hdT':=qcr kids'
 have hround:∀ (i:Nat) (hi:i<alts.length),qb6 L.pure (call L) 1 [0,1,2,134,135] [0,1,2,6] qf1 ⟨kt [0,1,2,134,135] [.vptr [.int .i64 op,.int .i64 n,.list (binds.map qaY) none,.list (kids.map qaW) none,.list (alts.map qaU) none] 0,.vptr [.int .i64 op',.int .i64 n',.list (binds'.map qaY) none,.list (kids'.map qaW) none,.list (alts'.map qaU) none] 0,.map (some 0),.int .i64 alts.length,.int .i64 i],[.map (encB m)]⟩ =
   some (if qia alts' i alts[i]=true then (.ret,⟨kt [0,1,2,6] [.vptr [.int .i64 op,.int .i64 n,.list (binds.map qaY) none,.list (kids.map qaW) none,.list (alts.map qaU) none] 0,.vptr [.int .i64 op',.int .i64 n',.list (binds'.map qaY) none,.list (kids'.map qaW) none,.list (alts'.map qaU) none] 0,.map (some 0),.bool false],[.map (encB m)]⟩)
    else (.normal,⟨kt [0,1,2,134,135] [.vptr [.int .i64 op,.int .i64 n,.list (binds.map qaY) none,.list (kids.map qaW) none,.list (alts.map qaU) none] 0,.vptr [.int .i64 op',.int .i64 n',.list (binds'.map qaY) none,.list (kids'.map qaW) none,.list (alts'.map qaU) none] 0,.map (some 0),.int .i64 alts.length,.int .i64 ((i+1:Nat):Int)],[.map (encB m)]⟩)):=by
  intro i hi
  obtain⟨h1,h2,h3⟩:=qbz qaU alts ha i hi
  have hi':i<alts'.length:=by omega
  have h4:(alts'.map qaU)[i]? = some (qaU alts'[i]):=by simp[hi']
  have hv:qia alts' i alts[i]=(!(alts[i].tag==alts'[i].tag) || !((alts[i].binds.length:Int)==alts'[i].binds.length)):=by
   unfold qia
   rw[List.getElem?_eq_getElem hi']
  generalize qia alts' i alts[i]=v at *
  generalize alts[i]=a at *
  generalize alts'[i]=c at *
  subst hv
  cases e1:(a.tag==c.tag) with
  | false=>unfold qf1;simp -implicitDefEqProofs only[qam,qad,qaJ,qae,qab,qal,qap,qac,qah,aOp,opd,qai,qaB,qag,qbb,qba,qas,qaj,qaw,qaA,qaG,qar,gcE,qa0,qaf,qaE,qat,qaD,qaF,qa5,ren,renC,qbU,qcd,qa2,qaR,qaL,qa8,qaa,qbJ,qaq,qaQ,qbB,qav,qao,qc4,List.map_cons,List.map_nil,List.flatMap_cons,List.flatMap_nil,List.length_cons,List.length_nil,List.nil_append,List.append_nil,List.getElem?_cons_zero,List.getElem?_cons_succ,List.take_succ_cons,List.take_nil,List.not_mem_nil,↓reduceIte,Bool.and_true,Bool.true_or,Bool.not_false,Bool.false_eq_true,and_true,not_false_eq_true,decide_true,decide_false,Nat.le_refl,reduceCtorEq,Nat.add_zero,Nat.zero_add,Nat.reduceEqDiff,Nat.reduceAdd,Nat.reduceLT,Nat.reduceLeDiff,Int.toNat_natCast,Int.natCast_nonneg,qaz,qaC,qaK,qa1,qbI,qay,h1,h2,h3,h4,e1,hdA,hdA',hdT,hdT',qdd,qde,bne]
  | true=>cases e2:((a.binds.length:Int)==c.binds.length)<;>unfold qf1<;>simp -implicitDefEqProofs only[qam,qad,qaJ,qae,qab,qal,qap,qac,qah,aOp,opd,qai,qaB,qag,qbb,qcg,qba,qas,qaj,qaw,qaA,qaG,qar,gcE,qa0,qaf,qaE,qat,qaD,qaF,qa5,ren,renC,qbU,qcd,qa2,qaR,qaL,qa8,qaa,qbJ,qaq,qaQ,qbB,qav,qao,beq_self_eq_true,List.map_cons,List.map_nil,List.flatMap_cons,List.flatMap_nil,List.length_cons,List.length_nil,List.length_map,List.nil_append,List.append_nil,List.getElem?_cons_zero,List.getElem?_cons_succ,List.take_succ_cons,List.take_nil,List.not_mem_nil,↓reduceIte,Bool.and_true,Bool.or_true,Bool.or_false,Bool.not_true,Bool.not_false,Bool.false_eq_true,and_true,not_false_eq_true,decide_true,decide_false,Nat.le_refl,reduceCtorEq,Nat.add_zero,Nat.zero_add,Nat.reduceEqDiff,Nat.reduceAdd,Nat.reduceLT,Nat.reduceLeDiff,Int.toNat_natCast,Int.natCast_nonneg,qaz,qaC,qaK,qa1,qbI,qay,h1,h2,h3,h4,e1,e2,hdA,hdA',hdT,hdT',qdd,qde,bne]
 have hloop:=qdA (pure:=L.pure) (call:=call L) (b:=1) (keep:=[0,1,2,134,135]) (fk:=[0,1,2,6]) (id:=1) (body:=qf1) alts (fun i a=>if qia alts' i a=true then some () else none)
  (fun i=>⟨kt [0,1,2,134,135] [.vptr [.int .i64 op,.int .i64 n,.list (binds.map qaY) none,.list (kids.map qaW) none,.list (alts.map qaU) none] 0,.vptr [.int .i64 op',.int .i64 n',.list (binds'.map qaY) none,.list (kids'.map qaW) none,.list (alts'.map qaU) none] 0,.map (some 0),.int .i64 alts.length,.int .i64 i],[.map (encB m)]⟩)
  ⟨kt [0,1,2,6] [.vptr [.int .i64 op,.int .i64 n,.list (binds.map qaY) none,.list (kids.map qaW) none,.list (alts.map qaU) none] 0,.vptr [.int .i64 op',.int .i64 n',.list (binds'.map qaY) none,.list (kids'.map qaW) none,.list (alts'.map qaU) none] 0,.map (some 0),.junk],[.map (encB m)]⟩ (fun _=>⟨kt [0,1,2,6] [.vptr [.int .i64 op,.int .i64 n,.list (binds.map qaY) none,.list (kids.map qaW) none,.list (alts.map qaU) none] 0,.vptr [.int .i64 op',.int .i64 n',.list (binds'.map qaY) none,.list (kids'.map qaW) none,.list (alts'.map qaU) none] 0,.map (some 0),.bool false],[.map (encB m)]⟩)
  (by
   intro i hi hq
   rw[hround i hi,if_neg]
   intro hx
   simp[hx] at hq)
  (by
   intro i hi r hq
   cases hx:qia alts' i alts[i] with
   | false=>simp[hx] at hq
   | true=>rw[hround i hi,if_pos hx])
  (by
   have h0:=qbA alts.length
   unfold qf1
   simp -implicitDefEqProofs only[qad,qae,qab,qbk,qac,qah,aOp,opd,qai,qaB,qag,qbb,qba,qaj,gcE,qa0,qaf,qaE,qat,qaD,qaF,qa5,ren,renC,qbU,qcd,qaa,qaq,qaQ,qbB,qbX,qav,qao,List.map_cons,List.map_nil,List.flatMap_cons,List.flatMap_nil,List.length_cons,List.length_nil,List.nil_append,List.append_nil,List.take_succ_cons,List.take_nil,List.not_mem_nil,↓reduceIte,Bool.and_true,Bool.false_eq_true,and_true,not_false_eq_true,decide_false,Nat.le_refl,reduceCtorEq,Nat.zero_add,Nat.reduceEqDiff,Nat.reduceLT,Nat.reduceLeDiff,qaz,qa1,qay,h0,hdA,hdA',hdT,hdT',qdd,qde])
 rw[hloop]
 unfold qgs
 cases qbw (fun i a=>if qia alts' i a=true then some () else none) alts 0<;>simp[qcv]
theorem qxF (A B:AVal) (hA:qbd A=true) (hB:qbd B=true) (l l':List Int) (hl:l.length<2 ^ 30) (hll:l.length=l'.length) (m:IM Int) :
  qb7 L.pure (call L) 1 [0,1,2,10,11,182,183] [0,1,2] 3 qjZ ⟨kt [0,1,2,10,11,182,183] [A,B,.map (some 0),.list (l.map qaY) none,.list (l'.map qaY) none,.int .i64 l.length,.int .i64 ((0:Nat):Int)],[.map (encB m)]⟩ =
   some (.normal,⟨kt [0,1,2] [A,B,.map (some 0)],[.map (encB (qjG l l' m))]⟩):=by
 have hz:(l.zip l').length=l.length:=by rw[List.length_zip];omega
 unfold qjG
 refine (qeY (pure:=L.pure) (call:=call L) (l.zip l') (fun m p=>qo4 p.1 p.2 m) (fun m i=>⟨kt [0,1,2,10,11,182,183] [A,B,.map (some 0),.list (l.map qaY) none,.list (l'.map qaY) none,.int .i64 l.length,.int .i64 i],[.map (encB m)]⟩)
  (fun m=>⟨kt [0,1,2] [A,B,.map (some 0)],[.map (encB m)]⟩) (fun _ _=>True) m trivial ?_ ?_).2
 ·intro i hi m _
  have hi1:i<l.length:=by omega
  have hi2:i<l'.length:=by omega
  obtain⟨h1,h2,h3⟩:=qbz qaY l hl i hi1
  have h4:(l'.map qaY)[i]? = some (qaY l'[i]):=by simp[hi2]
  refine⟨?_,trivial⟩
  rw[List.getElem_zip]
  generalize l[i]=x at *
  generalize l'[i]=y at *
  have hup:=fun (h:Heap) (hr:h[0]? = some (.map (encB m)))=>qy3 h 0 x y m hr
  unfold qjZ
  simp -implicitDefEqProofs only[qam,qad,qaJ,qae,qab,qal,qac,qah,aOp,opd,qai,qa3,qaB,qag,qaZ,qbb,qba,qas,qaj,qaw,qaA,qaM,qa0,qaf,qaE,qat,qaD,qaF,qa5,ren,renC,qbU,qcd,qa2,qaR,qaL,qa8,qaa,qaq,qbB,List.map_cons,List.map_nil,List.flatMap_cons,List.flatMap_nil,List.length_cons,List.length_nil,List.cons_append,List.nil_append,List.append_nil,List.getElem?_cons_zero,List.set_cons_zero,List.take_succ_cons,List.take_nil,List.not_mem_nil,↓reduceIte,Bool.false_eq_true,and_true,not_false_eq_true,decide_true,decide_false,Nat.le_refl,reduceCtorEq,Nat.zero_add,Nat.reduceEqDiff,Nat.reduceLT,Nat.reduceLeDiff,Int.toNat_natCast,Int.natCast_nonneg,qaz,qaC,qaK,qa1,qb1,qay,h1,h2,h3,h4,hup,hA,hB,qdd,qde]
 ·intro m _
  have h0:=qbA l.length
  rw[hz]
  unfold qjZ
  simp -implicitDefEqProofs only[qad,qae,qab,qbk,qac,qah,aOp,opd,qai,qaB,qag,qbb,qba,qaj,gcE,qa0,qaf,qaE,qat,qaD,qaF,qa5,ren,renC,qbU,qcd,qbB,List.map_cons,List.map_nil,List.flatMap_cons,List.flatMap_nil,List.length_cons,List.length_nil,List.nil_append,List.append_nil,List.take_succ_cons,List.take_nil,List.not_mem_nil,↓reduceIte,Bool.false_eq_true,and_true,not_false_eq_true,decide_false,Nat.le_refl,reduceCtorEq,Nat.zero_add,Nat.reduceEqDiff,Nat.reduceLT,Nat.reduceLeDiff,qaz,qa1,h0,hA,hB,qdd,qde]
def qrG (L:Lib) (t t':CTree):Prop:=∀ m:IM Int,call L 189 [qaW t,qaW t',.map (some 0)] [.map (encB m)]=some (.val (.bool (qiQ t t' m).1),[.map (encB (qiQ t t' m).2)])
def qti (_:Nat) (m:IM Int) (p:CTree × CTree):Except (IM Int) (IM Int):=match qiQ p.1 p.2 m with | (true,m1)=>.ok m1 | (false,m1)=>.error m1
theorem qlg:∀ (ks ks':List CTree) (i:Nat) (m:IM Int),qcx qti (ks.zip ks') i m=match qeD ks ks' m with | (true,m1)=>.ok m1 | (false,m1)=>.error m1
 | [],_,i,m=>by rw[List.zip_nil_left,qeD];rfl
 | k::ks,[],i,m=>by rw[List.zip_nil_right,qeD];rfl
 | k :: ks,k' :: ks',i,m => by
   rw[List.zip_cons_cons,qcx,qeD]
   unfold qti
   dsimp only
   rcases hq:qiQ k k' m with ⟨b,m1⟩
   cases b with
   | false=>rfl
   | true=>exact qlg ks ks' (i+1) m1
variable (hL:Plain L)
include hL
theorem qxG (op n:Int) (binds:List Int) (kids:List CTree) (alts:List CAlt) (op' n':Int) (binds':List Int) (kids':List CTree) (alts':List CAlt) (hk:kids.length<2 ^ 30) (hl:kids.length=kids'.length) (ih:∀ p∈kids.zip kids',qrG L p.1 p.2) (m:IM Int) :
  qb7 L.pure (call L) 1 [0,1,2,200,201] [6] 5 qhd ⟨kt [0,1,2,200,201] [.vptr [.int .i64 op,.int .i64 n,.list (binds.map qaY) none,.list (kids.map qaW) none,.list (alts.map qaU) none] 0,.vptr [.int .i64 op',.int .i64 n',.list (binds'.map qaY) none,.list (kids'.map qaW) none,.list (alts'.map qaU) none] 0,.map (some 0),.int .i64 kids.length,.int .i64 ((0:Nat):Int)],[.map (encB m)]⟩ =
   some (if (qeD kids kids' m).1=true then (.normal,⟨kt [6] [.junk],[.map (encB (qeD kids kids' m).2)]⟩) else (.ret,⟨kt [6] [.bool false],[.map (encB (qeD kids kids' m).2)]⟩)):=by
 have hp:=hL.pure
 have hdA:=qaO alts
 have hdA':=qaO alts'
 have hdT:=qcr kids
 have hdT':=qcr kids'
 have hz:(kids.zip kids').length=kids.length:=by rw[List.length_zip];omega
 have key:=qdt (pure:=L.pure) (call:=call L) (b:=1) (keep:=[0,1,2,200,201]) (fk:=[6]) (id:=5) (body:=qhd) (kids.zip kids') qti
  (fun m i=>⟨kt [0,1,2,200,201] [.vptr [.int .i64 op,.int .i64 n,.list (binds.map qaY) none,.list (kids.map qaW) none,.list (alts.map qaU) none] 0,.vptr [.int .i64 op',.int .i64 n',.list (binds'.map qaY) none,.list (kids'.map qaW) none,.list (alts'.map qaU) none] 0,.map (some 0),.int .i64 kids.length,.int .i64 i],[.map (encB m)]⟩) (fun m=>⟨kt [6] [.junk],[.map (encB m)]⟩)
  (fun e R=>R=⟨kt [6] [.bool false],[.map (encB e)]⟩) (fun _ _=>True) m trivial ?_ ?_ ?_
 ·have hf:=qlg kids kids' 0 m
  rcases hq:qeD kids kids' m with ⟨b,m1⟩
  rw[hq] at hf
  cases b with
  | true=>exact (key.1 m1 hf).2
  | false =>
    obtain⟨R,rfl,h⟩:=key.2 m1 hf
    exact h
 ·intro i hi m m1 _ hq
  have hi1:i<kids.length:=by omega
  have hi2:i<kids'.length:=by omega
  obtain⟨h1,h2,h3⟩:=qbz qaW kids hk i hi1
  have h4:(kids'.map qaW)[i]? = some (qaW kids'[i]):=by simp[hi2]
  have hs:=ih (kids.zip kids')[i] (List.getElem_mem hi) m
  refine⟨?_,trivial⟩
  unfold qti at hq
  rw[List.getElem_zip] at hq hs
  dsimp only at hq hs
  generalize kids[i]=k at *
  generalize kids'[i]=k' at *
  rcases hr:qiQ k k' m with ⟨b,m2⟩
  rw[hr] at hq hs
  cases b with
  | false=>cases hq
  | true =>
    injection hq with hq
    subst hq
    obtain⟨tc,htc,hdt⟩:=qcH k
    obtain⟨tc',htc',hdt'⟩:=qcH k'
    rw[htc,htc'] at hs
    unfold qhd
    simp -implicitDefEqProofs only[qam,qad,qaJ,qae,qab,qal,qac,qah,aOp,opd,qai,qaB,qag,qbb,qba,aUn,qas,qaj,qaw,qaA,qaG,qct,qa0,qaf,qaE,qat,qaD,qaF,qa5,ren,renC,qbU,qcd,qa2,qaR,qaL,qa8,qbD,qiW,qaa,qbJ,qaq,qaQ,qbB,qav,qao,Option.getD_some,List.map_cons,List.map_nil,List.flatMap_cons,List.flatMap_nil,List.length_cons,List.length_nil,List.cons_append,List.nil_append,List.append_nil,List.getElem?_cons_zero,List.getElem?_cons_succ,List.take_succ_cons,List.take_nil,List.all_cons,List.all_nil,List.not_mem_nil,↓reduceIte,Bool.and_true,Bool.and_false,Bool.not_true,Bool.false_eq_true,and_true,not_false_eq_true,decide_true,decide_false,and_self,Nat.le_refl,reduceCtorEq,Nat.zero_add,Nat.reduceEqDiff,Nat.reduceLT,Nat.reduceLeDiff,Int.toNat_natCast,Int.natCast_nonneg,qaz,qaC,qaK,qa1,qec,qc2,qe3,qc3,qdu,qc1,qgN,qeb,qcL,qay,h1,h2,h3,h4,htc,htc',hdt,hdt',hs,hdA,hdA',hdT,hdT',qdd,qde,qaN L hp,hp]
 ·intro i hi m e _ hq
  have hi1:i<kids.length:=by omega
  have hi2:i<kids'.length:=by omega
  obtain⟨h1,h2,h3⟩:=qbz qaW kids hk i hi1
  have h4:(kids'.map qaW)[i]? = some (qaW kids'[i]):=by simp[hi2]
  have hs:=ih (kids.zip kids')[i] (List.getElem_mem hi) m
  refine⟨_,rfl,?_⟩
  unfold qti at hq
  rw[List.getElem_zip] at hq hs
  dsimp only at hq hs
  generalize kids[i]=k at *
  generalize kids'[i]=k' at *
  rcases hr:qiQ k k' m with ⟨b,m2⟩
  rw[hr] at hq hs
  cases b with
  | true=>cases hq
  | false =>
    injection hq with hq
    subst hq
    obtain⟨tc,htc,hdt⟩:=qcH k
    obtain⟨tc',htc',hdt'⟩:=qcH k'
    rw[htc,htc'] at hs
    unfold qhd
    simp -implicitDefEqProofs only[qam,qad,qaJ,qae,qab,qal,qap,qac,qah,aOp,opd,qai,qaB,qag,qbb,qba,aUn,qas,qaj,qaw,qaA,qaG,qct,gcE,qa0,qaf,qaE,qat,qaD,qaF,qa5,ren,renC,qbU,qcd,qa2,qaR,qaL,qa8,qbD,qiW,qbJ,qaQ,qbB,qav,qao,Option.getD_some,List.map_cons,List.map_nil,List.flatMap_cons,List.flatMap_nil,List.length_cons,List.length_nil,List.cons_append,List.nil_append,List.append_nil,List.getElem?_cons_zero,List.getElem?_cons_succ,List.take_succ_cons,List.take_nil,List.all_cons,List.all_nil,List.not_mem_nil,↓reduceIte,Bool.and_true,Bool.and_false,Bool.not_false,Bool.false_eq_true,not_false_eq_true,decide_true,decide_false,and_self,Nat.le_refl,reduceCtorEq,Nat.zero_add,Nat.reduceEqDiff,Nat.reduceLT,Int.toNat_natCast,Int.natCast_nonneg,qaz,qaC,qaK,qa1,qec,qc2,qe3,qc3,qdu,qc1,qgN,qeb,qcL,h1,h2,h3,h4,htc,htc',hdt,hdt',hs,hdA,hdA',hdT,hdT',qdd,qde,qaN L hp,hp]
 ·intro m _
  have h0:=qbA kids.length
  rw[hz]
  unfold qhd
  simp -implicitDefEqProofs only[qad,qae,qab,qbk,qac,qah,aOp,opd,qai,qaB,qag,qbb,qba,qaj,gcE,qa0,qaf,qaE,qat,qaF,qa5,ren,renC,qbU,qcd,qbX,List.map_cons,List.map_nil,List.flatMap_cons,List.flatMap_nil,List.length_cons,List.length_nil,List.append_nil,List.take_succ_cons,List.take_nil,↓reduceIte,Bool.false_eq_true,decide_false,Nat.le_refl,reduceCtorEq,Nat.zero_add,Nat.reduceEqDiff,qaz,qa1,h0,hdA,hdA',hdT,hdT',qdd,qde]
end
theorem qpf {op:Int} {binds binds':List Int} {alts alts':List CAlt} (hb:binds.length=binds'.length) (ha:alts.length=alts'.length) (h:qgs alts alts'=false):(qb3 op binds alts).length=(qb3 op binds' alts').length:=by
 unfold qb3
 rw[List.length_append,List.length_append,qtN alts alts' h ha]
 split
 ·rw[hb]
 ·rfl
section
variable {L:Lib} (hL:Plain L)
include hL
theorem qtj (h232:L.fns 232=some fn232) (op n:Int) (binds:List Int) (kids:List CTree) (alts:List CAlt) (n':Int) (binds':List Int) (kids':List CTree) (alts':List CAlt)
  (ha:alts.length<2 ^ 30) (hk:kids.length<2 ^ 30) (hbf:(binds++alts.flatMap (·.binds)).length<2 ^ 30) (hbf':(binds'++alts'.flatMap (·.binds)).length<2 ^ 30) (ha':alts'.length<2 ^ 30) (hlk:kids.length=kids'.length) (hlb:binds.length=binds'.length) (hla:alts.length=alts'.length)
  (ih:∀ p∈kids.zip kids',qrG L p.1 p.2) (m:IM Int) (tm:Tmps) (h0:tm 0=.vptr [.int .i64 op,.int .i64 n,.list (binds.map qaY) none,.list (kids.map qaW) none,.list (alts.map qaU) none] 0) (h1:tm 1=.vptr [.int .i64 op,.int .i64 n',.list (binds'.map qaY) none,.list (kids'.map qaW) none,.list (alts'.map qaU) none] 0) (h2:tm 2=.map (some 0)) :
  qaT [.tmp 6] (qbL L.pure (call L) qf2 ⟨tm,[.map (encB m)]⟩) =
   some (.val (.bool (if qgs alts alts'=true then (false,m) else qeD kids kids' (qjG (qb3 op binds alts) (qb3 op binds' alts') m)).1),[.map (encB (if qgs alts alts'=true then (false,m) else qeD kids kids' (qjG (qb3 op binds alts) (qb3 op binds' alts') m)).2)]):=by
 have hp:=hL.pure
 have hdA:=qaO alts
 have hdA':=qaO alts'
 have hdT:=qcr kids
 have hdT':=qcr kids'
 have hl0:=qxE (L:=L) op n binds kids alts op n' binds' kids' alts' ha hla m
 simp only[Int.natCast_zero] at hl0
 cases ha1:qgs alts alts' with
 | true =>
   simp only[ha1,if_true] at hl0
   unfold qf2
   simp -implicitDefEqProofs only[qad,qae,qac,qah,aOp,opd,qai,qaB,qag,qcg,qaA,qaG,qaT,qan,qax,qaH,qaS,qa0,qaf,qaE,qat,qaD,qaF,qa5,ren,renC,qbU,qcd,qaa,qaq,qaQ,qbB,qav,qao,List.map_cons,List.map_nil,List.flatMap_cons,List.flatMap_nil,List.length_cons,List.length_nil,List.length_map,List.nil_append,List.append_nil,List.getElem?_cons_zero,List.getElem?_cons_succ,List.take_succ_cons,List.take_nil,List.not_mem_nil,↓reduceIte,Bool.and_true,Bool.false_eq_true,and_true,not_false_eq_true,decide_false,Nat.le_refl,reduceCtorEq,Nat.zero_add,Nat.reduceEqDiff,Nat.reduceLT,Nat.reduceLeDiff,qay,h0,h1,h2,hl0,hdA,hdA',hdT,hdT',qdd,qde]
 | false =>
   simp only[ha1,Bool.false_eq_true,if_false] at hl0 ⊢
   have hb1:=qgZ hL h232 op n binds (.list (kids.map qaW) none) (by rw[qaa];exact hdT) alts ha (by omega)
   have hb2:=qgZ hL h232 op n' binds' (.list (kids'.map qaW) none) (by rw[qaa];exact hdT') alts' ha' (by omega)
   have hbl:=qpf (op:=op) hlb hla ha1
   have hbl1:=qpA op binds alts
   have hdB1:=qay (qb3 op binds alts)
   have hdB2:=qay (qb3 op binds' alts')
   generalize qb3 op binds alts=l at *
   generalize qb3 op binds' alts'=l' at *
   have hl1:=qxF (L:=L) (.vptr [.int .i64 op,.int .i64 n,.list (binds.map qaY) none,.list (kids.map qaW) none,.list (alts.map qaU) none] 0) (.vptr [.int .i64 op,.int .i64 n',.list (binds'.map qaY) none,.list (kids'.map qaW) none,.list (alts'.map qaU) none] 0) (by simp only[qbd,qa4,qay,hdT,hdA,Bool.and_self]) (by simp only[qbd,qa4,qay,hdT',hdA',Bool.and_self]) l l' (by omega) hbl m
   have hl2:=qxG hL op n binds kids alts op n' binds' kids' alts' hk hlk ih (qjG l l' m)
   simp only[Int.natCast_zero] at hl1 hl2
   generalize qjG l l' m=m1 at *
   rcases hq:qeD kids kids' m1 with ⟨b,m2⟩
   rw[hq] at hl2
   cases b with
   | true =>
     simp only[if_true] at hl2
     unfold qf2
     simp -implicitDefEqProofs only[qad,qae,qap,qac,qah,aOp,opd,qai,qaB,qag,qcg,qaA,qaG,qaT,qan,qax,qaH,qaS,qa0,qaf,qaE,qat,qaD,qaF,qa5,ren,renC,qbU,qcd,qbD,qaa,qaq,qaQ,qbB,qav,qao,List.map_cons,List.map_nil,List.flatMap_cons,List.flatMap_nil,List.length_cons,List.length_nil,List.length_map,List.nil_append,List.append_nil,List.getElem?_cons_zero,List.getElem?_cons_succ,List.take_succ_cons,List.take_nil,List.not_mem_nil,↓reduceIte,Bool.and_true,Bool.false_eq_true,and_true,not_false_eq_true,decide_false,Nat.le_refl,reduceCtorEq,Nat.zero_add,Nat.reduceEqDiff,Nat.reduceLT,Nat.reduceLeDiff,qa1,qay,h0,h1,h2,hl0,hb1,hb2,hl1,hl2,hdA,hdA',hdT,hdT',qdd,qde,qaN L hp,hp]
   | false =>
     simp only[Bool.false_eq_true,if_false] at hl2
     unfold qf2
     simp -implicitDefEqProofs only[qad,qae,qac,qah,aOp,opd,qai,qaB,qag,qcg,qaA,qaG,qaT,qan,qax,qaH,qaS,qa0,qaf,qaE,qat,qaD,qaF,qa5,ren,renC,qbU,qcd,qbD,qaa,qaq,qaQ,qbB,qav,qao,List.map_cons,List.map_nil,List.flatMap_cons,List.flatMap_nil,List.length_cons,List.length_nil,List.length_map,List.nil_append,List.append_nil,List.getElem?_cons_zero,List.getElem?_cons_succ,List.take_succ_cons,List.take_nil,List.not_mem_nil,↓reduceIte,Bool.and_true,Bool.false_eq_true,and_true,not_false_eq_true,decide_false,Nat.le_refl,reduceCtorEq,Nat.zero_add,Nat.reduceEqDiff,Nat.reduceLT,Nat.reduceLeDiff,qa1,qay,h0,h1,h2,hl0,hb1,hb2,hl1,hl2,hdA,hdA',hdT,hdT',qdd,qde,qaN L hp,hp]
theorem qxH (h139:L.fns 139=some fn139) (h232:L.fns 232=some fn232) (h189:L.fns 189=some fn189) (t:CTree) (hf:TFit t):∀ t',TFit t'→qrG L t t':=by
 have hp:=hL.pure
 have hs:L.summ 189=none:=hL.summ 189 (by rw[h189];exact fun hx=>by cases hx)
 induction t using CTree.ind with
 | h op n binds kids alts ih =>
   intro t' hf' m
   cases hf with
   | mk _ _ _ _ _ hb hk ha hfk =>
   cases hf' with
   | mk op' n' binds' kids' alts' hb' hk' ha' hfk' =>
   refine qbE hs h189 ?_
   rw[qcB,qcB]
   have hdA:=qaO alts
   have hdA':=qaO alts'
   have hdT:=qcr kids
   have hdT':=qcr kids'
   rw[qiQ]
   by_cases e1:op=op'
   case neg =>
    have e1':(op==op')=false:=by simpa using e1
    rw[if_pos (.inl e1)]
    unfold fn189
    simp -implicitDefEqProofs only[qad,qaJ,qae,qab,qap,qac,qah,aOp,opd,qai,qak,qag,qbb,qba,qaj,qaw,qaA,qaG,qaT,qan,qax,qaH,qa2,qaR,qaL,qa8,qc4,Option.getD_some,List.nil_append,List.getElem?_cons_zero,List.getElem?_cons_succ,↓reduceIte,Bool.not_false,Bool.false_eq_true,reduceCtorEq,Nat.add_zero,Nat.reduceEqDiff,qaC,qaK,e1',hdA,hdA',hdT,hdT',qdd,qde,bne]
   subst e1
   by_cases e2:kids.length=kids'.length
   case neg =>
    have e2':((kids.length:Int)==kids'.length)=false:=by simp;omega
    rw[if_pos (.inr (.inl e2))]
    unfold fn189
    simp -implicitDefEqProofs only[qad,qaJ,qae,qab,qap,qac,qah,aOp,opd,qai,qak,qag,qbb,qcg,qba,qaj,qaw,qaA,qaG,qaT,qan,qax,qaH,qa2,qaR,qaL,qa8,qc4,beq_self_eq_true,Option.getD_some,List.length_map,List.nil_append,List.getElem?_cons_zero,List.getElem?_cons_succ,↓reduceIte,Bool.not_true,Bool.not_false,Bool.false_eq_true,reduceCtorEq,Nat.add_zero,Nat.zero_add,Nat.reduceEqDiff,qaC,qaK,e2',hdA,hdA',hdT,hdT',qdd,qde,bne]
   have e2':((kids.length:Int)==kids'.length)=true:=by simp;omega
   by_cases e3:binds.length=binds'.length
   case neg =>
    have e3':((binds.length:Int)==binds'.length)=false:=by simp;omega
    rw[if_pos (.inr (.inr (.inl e3)))]
    unfold fn189
    simp -implicitDefEqProofs only[qad,qaJ,qae,qab,qap,qac,qah,aOp,opd,qai,qak,qag,qbb,qcg,qba,qaj,qaw,qaA,qaG,qaT,qan,qax,qaH,qa2,qaR,qaL,qa8,qc4,beq_self_eq_true,Option.getD_some,List.length_map,List.nil_append,List.getElem?_cons_zero,List.getElem?_cons_succ,↓reduceIte,Bool.not_true,Bool.not_false,Bool.false_eq_true,reduceCtorEq,Nat.add_zero,Nat.zero_add,Nat.reduceEqDiff,qaC,qaK,e2',e3',hdA,hdA',hdT,hdT',qdd,qde,bne]
   have e3':((binds.length:Int)==binds'.length)=true:=by simp;omega
   by_cases e4:alts.length=alts'.length
   case neg =>
    have e4':((alts.length:Int)==alts'.length)=false:=by simp;omega
    rw[if_pos (.inr (.inr (.inr e4)))]
    unfold fn189
    simp -implicitDefEqProofs only[qad,qaJ,qae,qab,qap,qac,qah,aOp,opd,qai,qak,qag,qbb,qcg,qba,qaj,qaw,qaA,qaG,qaT,qan,qax,qaH,qa2,qaR,qaL,qa8,beq_self_eq_true,Option.getD_some,List.length_map,List.nil_append,List.getElem?_cons_zero,List.getElem?_cons_succ,↓reduceIte,Bool.not_true,Bool.not_false,Bool.false_eq_true,reduceCtorEq,Nat.add_zero,Nat.zero_add,Nat.reduceEqDiff,qaC,qaK,e2',e3',e4',hdA,hdA',hdT,hdT',qdd,qde,bne]
   have e4':((alts.length:Int)==alts'.length)=true:=by simp;omega
   rw[if_neg (by simp[e2,e3,e4])]
   by_cases h0:op=0
   ·subst h0
    rw[if_pos rfl]
    unfold qpQ
    have hlk:=fun (h:Heap) (hr:h[0]? = some (.map (encB m)))=>qrg qaY h 0 (.int .i64 0) true n m hr
    cases hq:qcP n m with
    | some x =>
      rw[hq] at hlk
      cases hx:(x==n')<;>unfold fn189<;>simp -implicitDefEqProofs only[qam,qad,qaJ,qae,qab,qal,qap,qac,qah,aOp,opd,qai,qak,qag,qbb,qcg,qba,aUn,qaj,qaw,qaA,qaG,qaT,qan,qax,qaH,qa2,qaR,qaL,qa8,qc4,qb9,beq_self_eq_true,Option.getD_some,List.length_map,List.nil_append,List.getElem?_cons_zero,List.getElem?_cons_succ,↓reduceIte,Bool.not_true,Bool.false_eq_true,reduceCtorEq,Nat.add_zero,Nat.zero_add,Nat.reduceEqDiff,qaC,qaK,qb1,e2',e3',e4',hlk,hx,hdA,hdA',hdT,hdT',qdd,qde,bne]
    | none =>
      rw[hq] at hlk
      cases hx:(n==n')<;>unfold fn189<;>simp -implicitDefEqProofs only[qam,qad,qaJ,qae,qab,qal,qap,qac,qah,aOp,opd,qai,qak,qag,qbb,qcg,qba,aUn,qaj,qaw,qaA,qaG,qaT,qan,qax,qaH,qa2,qaR,qaL,qa8,qb9,beq_self_eq_true,Option.getD_some,List.length_map,List.nil_append,List.getElem?_cons_zero,List.getElem?_cons_succ,↓reduceIte,Bool.not_true,Bool.not_false,Bool.false_eq_true,reduceCtorEq,Nat.add_zero,Nat.zero_add,Nat.reduceEqDiff,qaC,qaK,e2',e3',e4',hlk,hx,hdA,hdA',hdT,hdT',qdd,qde,bne]
   have h0':(op==0)=false:=by simpa using h0
   rw[if_neg h0]
   have T:=qtj hL h232 op n binds kids alts n' binds' kids' alts' ha hk hb hb' ha' e2 e3 e4 (fun p hp'=>by
    obtain⟨h1,h2⟩:=List.of_mem_zip (a:=p.1) (b:=p.2) hp'
    exact ih p.1 h1 (hfk p.1 h1) p.2 (hfk' p.2 h2)) m
   by_cases h5:n=n'
   case neg =>
    have h5':(n==n')=false:=by simpa using h5
    rw[if_pos (.inl h5)]
    unfold fn189
    generalize qf2=tl at *
    simp -implicitDefEqProofs only[qam,qad,qaJ,qae,qab,qal,qap,qac,qah,aOp,opd,qai,qak,qag,qbb,qcg,qba,qaj,qaw,qaA,qaG,qaT,qan,qax,qaH,qa2,qaR,qaL,qa8,qc4,beq_self_eq_true,Option.getD_some,List.length_map,List.nil_append,List.getElem?_cons_zero,List.getElem?_cons_succ,↓reduceIte,Bool.not_true,Bool.not_false,Bool.false_eq_true,reduceCtorEq,Nat.add_zero,Nat.zero_add,Nat.reduceEqDiff,qaC,qaK,e2',e3',e4',h0',h5',hdA,hdA',hdT,hdT',qdd,qde,bne]
   subst h5
   by_cases h9:op=9
   ·subst h9
    have hq:=qsg hL h139 binds binds' (by rw[List.length_append] at hb;omega)
    by_cases hbb:binds=binds'
    ·have hd:decide (binds=binds')=true:=by simpa using hbb
     rw[hd] at hq
     rw[if_neg (by simp[hbb])]
     unfold fn189
     generalize qf2=tl at *
     simp -implicitDefEqProofs only[qam,qad,qaJ,qae,qab,qal,qac,qah,aOp,opd,qai,qak,qag,qbb,qcg,qba,aUn,qaj,qaw,qaA,qaG,qaT,qan,qax,qaH,qa2,qaR,qaL,qa8,qbo,qaa,qav,qao,beq_self_eq_true,Option.getD_some,List.map_cons,List.map_nil,List.length_map,List.nil_append,List.getElem?_cons_zero,List.getElem?_cons_succ,↓reduceIte,Bool.and_true,Bool.not_true,Bool.false_eq_true,and_self,reduceCtorEq,Nat.add_zero,Nat.zero_add,Nat.reduceEqDiff,qaC,qaK,Int.reduceBEq,qa7,qay,e2',e3',e4',hq,hdA,hdA',hdT,hdT',qdd,qde,bne,qaN L hp,hp]
     exact T _ (by simp -implicitDefEqProofs only[qai,qak,Option.getD_some,List.getElem?_cons_zero,↓reduceIte,reduceCtorEq]) (by simp -implicitDefEqProofs only[qai,qak,Option.getD_some,List.getElem?_cons_zero,List.getElem?_cons_succ,↓reduceIte,Nat.reduceEqDiff]) (by simp -implicitDefEqProofs only[qai,qak,Option.getD_some,List.getElem?_cons_zero,List.getElem?_cons_succ,↓reduceIte,Nat.reduceEqDiff])
    ·have hd:decide (binds=binds')=false:=by simpa using hbb
     rw[hd] at hq
     rw[if_pos (.inr ⟨rfl,hbb⟩)]
     unfold fn189
     generalize qf2=tl at *
     simp -implicitDefEqProofs only[qam,qad,qaJ,qae,qab,qal,qap,qac,qah,aOp,opd,qai,qak,qag,qbb,qcg,qba,aUn,qaj,qaw,qaA,qaG,qaT,qan,qax,qaH,qa2,qaR,qaL,qa8,qbo,qaa,qav,qao,beq_self_eq_true,Option.getD_some,List.map_cons,List.map_nil,List.length_map,List.nil_append,List.getElem?_cons_zero,List.getElem?_cons_succ,↓reduceIte,Bool.and_true,Bool.not_true,Bool.not_false,Bool.false_eq_true,and_self,reduceCtorEq,Nat.add_zero,Nat.zero_add,Nat.reduceEqDiff,qaC,qaK,Int.reduceBEq,qa7,qay,e2',e3',e4',hq,hdA,hdA',hdT,hdT',qdd,qde,bne,qaN L hp,hp]
   ·have h9':(op==9)=false:=by simpa using h9
    rw[if_neg (by simp[h9])]
    unfold fn189
    generalize qf2=tl at *
    simp -implicitDefEqProofs only[qam,qad,qaJ,qae,qab,qal,qac,qah,aOp,opd,qai,qak,qag,qbb,qcg,qba,qaj,qaw,qaA,qaG,qaT,qan,qax,qaH,qa2,qaR,qaL,qa8,qb9,beq_self_eq_true,Option.getD_some,List.length_map,List.nil_append,List.getElem?_cons_zero,List.getElem?_cons_succ,↓reduceIte,Bool.not_true,Bool.false_eq_true,reduceCtorEq,Nat.add_zero,Nat.zero_add,Nat.reduceEqDiff,qaC,qaK,e2',e3',e4',h0',h9',hdA,hdA',hdT,hdT',qdd,qde,bne,qaN L hp,hp]
    exact T _ (by simp -implicitDefEqProofs only[qai,qak,Option.getD_some,List.getElem?_cons_zero,↓reduceIte,reduceCtorEq]) (by simp -implicitDefEqProofs only[qai,qak,Option.getD_some,List.getElem?_cons_zero,List.getElem?_cons_succ,↓reduceIte,Nat.reduceEqDiff]) (by simp -implicitDefEqProofs only[qai,qak,Option.getD_some,List.getElem?_cons_zero,List.getElem?_cons_succ,↓reduceIte,Nat.reduceEqDiff])
theorem qpJ (h139:L.fns 139=some fn139) (h232:L.fns 232=some fn232) (h189:L.fns 189=some fn189) (h164:L.fns 164=some fn164) (t t':CTree) (hf:TFit t) (hf':TFit t') (h:Heap) :
  pcall L 164 [qaW t,qaW t'] h=some (.val (.bool (qiQ t t' []).1),h):=by
 have hp:=hL.pure
 have hs:=qxH hL h139 h232 h189 t hf t' hf' []
 refine qbK hL h164 rfl ?_ h
 obtain⟨tc,htc,hdt⟩:=qcH t
 obtain⟨tc',htc',hdt'⟩:=qcH t'
 have hn:encB []=[]:=rfl
 rw[hn] at hs
 rw[htc,htc'] at hs ⊢
 unfold fn164
 simp -implicitDefEqProofs only[qad,qae,qap,qac,qah,aOp,opd,qai,qak,qaT,qan,qax,qaH,qat,qaD,qa5,ren,renC,qgQ,qbU,qcd,qgF,qbf,qbD,qiW,qbJ,qaQ,qbB,qav,qao,Option.getD_some,List.map_cons,List.map_nil,List.flatMap_cons,List.flatMap_nil,List.length_cons,List.length_nil,List.nil_append,List.append_nil,List.getElem?_cons_zero,List.getElem?_cons_succ,List.take_succ_cons,List.take_nil,List.all_cons,List.all_nil,List.not_mem_nil,↓reduceIte,Bool.and_true,Bool.and_false,Bool.false_eq_true,not_false_eq_true,decide_true,and_self,Nat.le_refl,reduceCtorEq,Nat.zero_add,Nat.reduceEqDiff,Nat.reduceLT,qec,qc2,qe3,qc3,qdu,qc1,qgN,qeb,qcL,qaI,hs,hdt,hdt',qdd,qde,qaN L hp,hp]
end
end Go.Abs
