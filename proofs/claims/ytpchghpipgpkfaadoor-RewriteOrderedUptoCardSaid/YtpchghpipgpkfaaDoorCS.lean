/-
  PARTS OF A PROOF, joined: an abstract machine for quiet code, its evaluation, and what the seat's functions answer on it. Conditions: none.
-/
import Derived.Test.YtpchghpipgpkfaaDoorCQ
set_option linter.unusedVariables false
set_option linter.unusedSimpArgs false
set_option maxRecDepth 100000
set_option maxHeartbeats 4000000
namespace Go.Abs
section
end
def qeM (b:List Int) (i:Nat) (x:Int):Bool := !(x==b.getD i 0)
theorem quS {a b:List Int} (h:a.length=b.length):(qaE (fun i x=>if qeM b i x=true then some () else none) a 0).isSome = !decide (a=b):=by
 rw[Bool.eq_iff_iff,qgS (qeM b) a 0]
 simp only[Bool.not_eq_true',decide_eq_false_iff_not]
 constructor
 ·rintro ⟨i,hi,hn⟩ e
  subst e
  unfold qeM at hn
  rw[Nat.zero_add,List.getD_eq_getElem?_getD,List.getElem?_eq_getElem hi] at hn
  simp at hn
 ·intro hne
  refine Classical.byContradiction fun hx=>hne ?_
  refine List.ext_getElem h fun i h1 h2=>?_
  refine Classical.byContradiction fun hd=>hx ⟨i,h1,?_⟩
  unfold qeM
  rw[Nat.zero_add,List.getD_eq_getElem?_getD,List.getElem?_eq_getElem h2]
  simpa using hd
section
variable {L:Lib} (hL:Plain L)
include hL
theorem quv (hf:L.fns 139=some fn139) (a b:List Int) (ha:a.length<2 ^ 30) (h:Heap):pcall L 139 [.list (a.map qav) none,.list (b.map qav) none] h=some (.val (.bool (decide (a=b))),h):=by
 refine qaX hL hf rfl ?_ h
 by_cases hl:a.length=b.length
 ·have hs:=quS hl
  have hround:∀ (i:Nat) (hi:i<a.length),qbc L.pure (call L) 0 [0,1,12,13] [4] qic ⟨kt [0,1,12,13] [.list (a.map qav) none,.list (b.map qav) none,.int .i64 a.length,.int .i64 i],[]⟩ =
    some (if qeM b i a[i]=true then (.ret,⟨kt [4] [.bool false],[]⟩) else (.normal,⟨kt [0,1,12,13] [.list (a.map qav) none,.list (b.map qav) none,.int .i64 a.length,.int .i64 ((i+1:Nat):Int)],[]⟩)):=by
   intro i hi
   obtain⟨h1,h2,h3⟩:=qaN qav a ha i hi
   have h4:(b.map qav)[i]? = some (qav (b.getD i 0)):=by
    have:i<b.length:=by omega
    simp[this]
   unfold qeM
   generalize a[i]=x at *
   generalize b.getD i 0=y at *
   cases hq:(x==y)<;>unfold qic<;>simp -implicitDefEqProofs only[ev_,aOp,opd,qaa,qaB,qaA,qad,qab,qaf,qag,gcE,qaC,ren,renC,qa9,qbq,qaz,↓reduceIte,reduceCtorEq,Nat.reduceEqDiff,qa1,qah,h1,h2,h3,h4,hq,bne]
  have hloop:=qb6 (pure:=L.pure) (call:=call L) (b:=0) (keep:=[0,1,12,13]) (fk:=[4]) (id:=0) (body:=qic) a (fun i x=>if qeM b i x=true then some () else none)
   (fun i=>⟨kt [0,1,12,13] [.list (a.map qav) none,.list (b.map qav) none,.int .i64 a.length,.int .i64 i],[]⟩) ⟨kt [4] [.junk],[]⟩ (fun _=>⟨kt [4] [.bool false],[]⟩)
   (by
    intro i hi hq
    rw[hround i hi,if_neg]
    intro hx
    simp[hx] at hq)
   (by
    intro i hi r hq
    cases hx:qeM b i a[i] with
    | false=>simp[hx] at hq
    | true=>rw[hround i hi,if_pos hx])
   (by
    have h0:=qaQ a.length
    unfold qic
    simp -implicitDefEqProofs only[ev_,aOp,opd,qaa,qaB,qaA,qab,gcE,qaC,ren,renC,qa9,qbq,↓reduceIte,reduceCtorEq,Nat.reduceEqDiff,h0])
  simp only[Int.natCast_zero] at hloop
  have hne:((a.length:Int)==(b.length:Int))=true:=by rw[hl];simp
  cases hq:qaE (fun i x=>if qeM b i x=true then some () else none) a 0 with
  | none =>
    rw[hq] at hs hloop
    have hd:decide (a=b)=true:=by simpa using hs.symm
    rw[hd]
    simp only[qbh] at hloop
    unfold fn139
    simp -implicitDefEqProofs only[ev_,aOp,opd,qaa,qaB,qbd,qaA,qab,qan,qac,qae,qaj,qaC,ren,renC,qa9,qbq,↓reduceIte,reduceCtorEq,Nat.reduceEqDiff,qak,qah,hne,hloop,bne]
  | some u =>
    rw[hq] at hs hloop
    have hd:decide (a=b)=false:=by simpa using hs.symm
    rw[hd]
    simp only[qbh] at hloop
    unfold fn139
    simp -implicitDefEqProofs only[ev_,aOp,opd,qaa,qaB,qbd,qaA,qab,qan,qac,qae,qaj,qaC,ren,renC,qa9,qbq,↓reduceIte,reduceCtorEq,Nat.reduceEqDiff,qak,qah,hne,hloop,bne]
 ·have hne:((a.length:Int)==(b.length:Int))=false:=by simp;omega
  have hd:decide (a=b)=false:=by simpa using fun e=>hl (by rw[e])
  rw[hd]
  unfold fn139
  simp -implicitDefEqProofs only[ev_,aOp,opd,qaa,qaB,qbd,qaA,qab,qan,qac,qae,qaj,↓reduceIte,reduceCtorEq,Nat.reduceEqDiff,qak,hne,bne]
theorem qkP (hf:L.fns 163=some fn163) (a b:List Int) (ha:a.length<2 ^ 30) (h:Heap):pcall L 163 [.list (a.map qav) none,.list (b.map qav) none] h=some (.val (.bool (decide (a=b))),h):=by
 refine qaX hL hf rfl ?_ h
 by_cases hl:a.length=b.length
 ·have hs:=quS hl
  have hround:∀ (i:Nat) (hi:i<a.length),qbc L.pure (call L) 0 [0,1,12,13] [4] qid ⟨kt [0,1,12,13] [.list (a.map qav) none,.list (b.map qav) none,.int .i64 a.length,.int .i64 i],[]⟩ =
    some (if qeM b i a[i]=true then (.ret,⟨kt [4] [.bool false],[]⟩) else (.normal,⟨kt [0,1,12,13] [.list (a.map qav) none,.list (b.map qav) none,.int .i64 a.length,.int .i64 ((i+1:Nat):Int)],[]⟩)):=by
   intro i hi
   obtain⟨h1,h2,h3⟩:=qaN qav a ha i hi
   have h4:(b.map qav)[i]? = some (qav (b.getD i 0)):=by
    have:i<b.length:=by omega
    simp[this]
   unfold qeM
   generalize a[i]=x at *
   generalize b.getD i 0=y at *
   cases hq:(x==y)<;>unfold qid<;>simp -implicitDefEqProofs only[ev_,aOp,opd,qaa,qaB,qaA,qad,qab,qaf,qag,gcE,qaC,ren,renC,qa9,qbq,qaz,↓reduceIte,reduceCtorEq,Nat.reduceEqDiff,qa1,qah,h1,h2,h3,h4,hq,bne]
  have hloop:=qb6 (pure:=L.pure) (call:=call L) (b:=0) (keep:=[0,1,12,13]) (fk:=[4]) (id:=0) (body:=qid) a (fun i x=>if qeM b i x=true then some () else none)
   (fun i=>⟨kt [0,1,12,13] [.list (a.map qav) none,.list (b.map qav) none,.int .i64 a.length,.int .i64 i],[]⟩) ⟨kt [4] [.junk],[]⟩ (fun _=>⟨kt [4] [.bool false],[]⟩)
   (by
    intro i hi hq
    rw[hround i hi,if_neg]
    intro hx
    simp[hx] at hq)
   (by
    intro i hi r hq
    cases hx:qeM b i a[i] with
    | false=>simp[hx] at hq
    | true=>rw[hround i hi,if_pos hx])
   (by
    have h0:=qaQ a.length
    unfold qid
    simp -implicitDefEqProofs only[ev_,aOp,opd,qaa,qaB,qaA,qab,gcE,qaC,ren,renC,qa9,qbq,↓reduceIte,reduceCtorEq,Nat.reduceEqDiff,h0])
  simp only[Int.natCast_zero] at hloop
  have hne:((a.length:Int)==(b.length:Int))=true:=by rw[hl];simp
  cases hq:qaE (fun i x=>if qeM b i x=true then some () else none) a 0 with
  | none =>
    rw[hq] at hs hloop
    have hd:decide (a=b)=true:=by simpa using hs.symm
    rw[hd]
    simp only[qbh] at hloop
    unfold fn163
    simp -implicitDefEqProofs only[ev_,aOp,opd,qaa,qaB,qbd,qaA,qab,qan,qac,qae,qaj,qaC,ren,renC,qa9,qbq,↓reduceIte,reduceCtorEq,Nat.reduceEqDiff,qak,qah,hne,hloop,bne]
  | some u =>
    rw[hq] at hs hloop
    have hd:decide (a=b)=false:=by simpa using hs.symm
    rw[hd]
    simp only[qbh] at hloop
    unfold fn163
    simp -implicitDefEqProofs only[ev_,aOp,opd,qaa,qaB,qbd,qaA,qab,qan,qac,qae,qaj,qaC,ren,renC,qa9,qbq,↓reduceIte,reduceCtorEq,Nat.reduceEqDiff,qak,qah,hne,hloop,bne]
 ·have hne:((a.length:Int)==(b.length:Int))=false:=by simp;omega
  have hd:decide (a=b)=false:=by simpa using fun e=>hl (by rw[e])
  rw[hd]
  unfold fn163
  simp -implicitDefEqProofs only[ev_,aOp,opd,qaa,qaB,qbd,qaA,qab,qan,qac,qae,qaj,↓reduceIte,reduceCtorEq,Nat.reduceEqDiff,qak,hne,bne]
end
section
def qgb (as:List CAlt) (i:Nat) (a:CAlt):Bool:=match as[i]? with | some c => !(a.tag==c.tag) || !((a.binds.length:Int)==c.binds.length) | none=>false
def qeW (as cs:List CAlt):Bool:=(qaE (fun i a=>if qgb cs i a=true then some () else none) as 0).isSome
def qd1 (l l':List Int) (m:IM Int):IM Int:=(l.zip l').foldl (fun m p=>qlv p.1 p.2 m) m
def qof (n n':Int) (m:IM Int):Bool:=match qaW n m with | some x=>x==n' | none=>n==n'
mutual
def qf9:CTree→CTree→IM Int→Bool × IM Int
 | .mk op n binds kids alts,.mk op' n' binds' kids' alts',m =>
   if op≠op'∨kids.length≠kids'.length∨binds.length≠binds'.length∨alts.length≠alts'.length then (false,m)
   else if op=0 then (qof n n' m,m)
   else if n≠n'∨(op=9∧binds≠binds') then (false,m)
   else if qeW alts alts'=true then (false,m)
   else qdc kids kids' (qd1 (qaq op binds alts) (qaq op' binds' alts') m)
def qdc:List CTree→List CTree→IM Int→Bool × IM Int
 | [],_,m=>(true,m)
 | k :: ks,l,m => match l with
   | []=>(true,m)
   | k'::ks'=>(match qf9 k k' m with | (true,m1)=>qdc ks ks' m1 | (false,m1)=>(false,m1))
end
theorem qwJ (as cs:List CAlt) (h:qeW as cs=false) (hl:as.length=cs.length):(as.flatMap (·.binds)).length=(cs.flatMap (·.binds)).length:=by
 unfold qeW at h
 have h2:∀ i (hi:i<as.length),qgb cs i as[i]=false:=by
  intro i hi
  cases hq:qgb cs i as[i] with
  | false=>rfl
  | true =>
    have:=(qgS (qgb cs) as 0).2 ⟨i,hi,by rw[Nat.zero_add];exact hq⟩
    rw[h] at this
    cases this
 have h3:as.map (fun a=>a.binds.length)=cs.map (fun a=>a.binds.length):=by
  refine List.ext_getElem (by simpa using hl) fun i h4 h5=>?_
  have hi:i<as.length:=by simpa using h4
  have:=h2 i hi
  unfold qgb at this
  rw[List.getElem?_eq_getElem (by omega)] at this
  simp at this ⊢
  omega
 rw[List.length_flatMap,List.length_flatMap]
 exact congrArg List.sum h3
variable {L:Lib}
theorem qAW (op n:Int) (binds:List Int) (kids:List CTree) (alts:List CAlt) (op' n':Int) (binds':List Int) (kids':List CTree) (alts':List CAlt) (ha:alts.length<2 ^ 30) (hl:alts.length=alts'.length) (m:IM Int) :
  qba L.pure (call L) 1 [0,1,2,134,135] [0,1,2,6] 1 qfC ⟨kt [0,1,2,134,135] [.vptr [.int .i64 op,.int .i64 n,.list (binds.map qav) none,.list (kids.map qao) none,.list (alts.map qas) none] 0,.vptr [.int .i64 op',.int .i64 n',.list (binds'.map qav) none,.list (kids'.map qao) none,.list (alts'.map qas) none] 0,.map (some 0),.int .i64 alts.length,.int .i64 ((0:Nat):Int)],[.map (encB m)]⟩ =
   some (if qeW alts alts'=true then (.ret,⟨kt [0,1,2,6] [.vptr [.int .i64 op,.int .i64 n,.list (binds.map qav) none,.list (kids.map qao) none,.list (alts.map qas) none] 0,.vptr [.int .i64 op',.int .i64 n',.list (binds'.map qav) none,.list (kids'.map qao) none,.list (alts'.map qas) none] 0,.map (some 0),.bool false],[.map (encB m)]⟩) else (.normal,⟨kt [0,1,2,6] [.vptr [.int .i64 op,.int .i64 n,.list (binds.map qav) none,.list (kids.map qao) none,.list (alts.map qas) none] 0,.vptr [.int .i64 op',.int .i64 n',.list (binds'.map qav) none,.list (kids'.map qao) none,.list (alts'.map qas) none] 0,.map (some 0),.junk],[.map (encB m)]⟩)):=by
 have hdA:=qap alts
 have hdA':=qap alts'
 have hdT:=qbi kids
 have hdT':=qbi kids'
 have hround:∀ (i:Nat) (hi:i<alts.length),qbc L.pure (call L) 1 [0,1,2,134,135] [0,1,2,6] qfC ⟨kt [0,1,2,134,135] [.vptr [.int .i64 op,.int .i64 n,.list (binds.map qav) none,.list (kids.map qao) none,.list (alts.map qas) none] 0,.vptr [.int .i64 op',.int .i64 n',.list (binds'.map qav) none,.list (kids'.map qao) none,.list (alts'.map qas) none] 0,.map (some 0),.int .i64 alts.length,.int .i64 i],[.map (encB m)]⟩ =
   some (if qgb alts' i alts[i]=true then (.ret,⟨kt [0,1,2,6] [.vptr [.int .i64 op,.int .i64 n,.list (binds.map qav) none,.list (kids.map qao) none,.list (alts.map qas) none] 0,.vptr [.int .i64 op',.int .i64 n',.list (binds'.map qav) none,.list (kids'.map qao) none,.list (alts'.map qas) none] 0,.map (some 0),.bool false],[.map (encB m)]⟩)
    else (.normal,⟨kt [0,1,2,134,135] [.vptr [.int .i64 op,.int .i64 n,.list (binds.map qav) none,.list (kids.map qao) none,.list (alts.map qas) none] 0,.vptr [.int .i64 op',.int .i64 n',.list (binds'.map qav) none,.list (kids'.map qao) none,.list (alts'.map qas) none] 0,.map (some 0),.int .i64 alts.length,.int .i64 ((i+1:Nat):Int)],[.map (encB m)]⟩)):=by
  intro i hi
  obtain⟨h1,h2,h3⟩:=qaN qas alts ha i hi
  have hi':i<alts'.length:=by omega
  have h4:(alts'.map qas)[i]? = some (qas alts'[i]):=by simp[hi']
  have hv:qgb alts' i alts[i]=(!(alts[i].tag==alts'[i].tag) || !((alts[i].binds.length:Int)==alts'[i].binds.length)):=by
   unfold qgb
   rw[List.getElem?_eq_getElem hi']
  generalize qgb alts' i alts[i]=v at *
  generalize alts[i]=a at *
  generalize alts'[i]=c at *
  subst hv
  cases e1:(a.tag==c.tag) with
  | false=>unfold qfC;simp -implicitDefEqProofs only[ev_,aOp,opd,qaa,qaB,qaA,qad,qab,qaf,qag,qai,gcE,qaC,ren,renC,qa9,qbq,qaz,↓reduceIte,reduceCtorEq,Nat.reduceEqDiff,Nat.reduceAdd,Nat.reduceLT,Nat.reduceLeDiff,qaZ,qah,h1,h2,h3,h4,e1,hdA,hdA',hdT,hdT',qco,qcp,bne]
  | true=>cases e2:((a.binds.length:Int)==c.binds.length)<;>unfold qfC<;>simp -implicitDefEqProofs only[ev_,aOp,opd,qaa,qaB,qbd,qaA,qad,qab,qaf,qag,qai,gcE,qaC,ren,renC,qa9,qbq,qaz,↓reduceIte,reduceCtorEq,Nat.reduceEqDiff,Nat.reduceAdd,Nat.reduceLT,Nat.reduceLeDiff,qaZ,qah,h1,h2,h3,h4,e1,e2,hdA,hdA',hdT,hdT',qco,qcp,bne]
 have hloop:=qb6 (pure:=L.pure) (call:=call L) (b:=1) (keep:=[0,1,2,134,135]) (fk:=[0,1,2,6]) (id:=1) (body:=qfC) alts (fun i a=>if qgb alts' i a=true then some () else none)
  (fun i=>⟨kt [0,1,2,134,135] [.vptr [.int .i64 op,.int .i64 n,.list (binds.map qav) none,.list (kids.map qao) none,.list (alts.map qas) none] 0,.vptr [.int .i64 op',.int .i64 n',.list (binds'.map qav) none,.list (kids'.map qao) none,.list (alts'.map qas) none] 0,.map (some 0),.int .i64 alts.length,.int .i64 i],[.map (encB m)]⟩)
  ⟨kt [0,1,2,6] [.vptr [.int .i64 op,.int .i64 n,.list (binds.map qav) none,.list (kids.map qao) none,.list (alts.map qas) none] 0,.vptr [.int .i64 op',.int .i64 n',.list (binds'.map qav) none,.list (kids'.map qao) none,.list (alts'.map qas) none] 0,.map (some 0),.junk],[.map (encB m)]⟩ (fun _=>⟨kt [0,1,2,6] [.vptr [.int .i64 op,.int .i64 n,.list (binds.map qav) none,.list (kids.map qao) none,.list (alts.map qas) none] 0,.vptr [.int .i64 op',.int .i64 n',.list (binds'.map qav) none,.list (kids'.map qao) none,.list (alts'.map qas) none] 0,.map (some 0),.bool false],[.map (encB m)]⟩)
  (by
   intro i hi hq
   rw[hround i hi,if_neg]
   intro hx
   simp[hx] at hq)
  (by
   intro i hi r hq
   cases hx:qgb alts' i alts[i] with
   | false=>simp[hx] at hq
   | true=>rw[hround i hi,if_pos hx])
  (by
   have h0:=qaQ alts.length
   unfold qfC
   simp -implicitDefEqProofs only[ev_,aOp,opd,qaa,qaB,qaA,qab,gcE,qaC,ren,renC,qa9,qbq,↓reduceIte,reduceCtorEq,Nat.reduceEqDiff,Nat.reduceLT,Nat.reduceLeDiff,qah,h0,hdA,hdA',hdT,hdT',qco,qcp])
 rw[hloop]
 unfold qeW
 cases qaE (fun i a=>if qgb alts' i a=true then some () else none) alts 0<;>simp[qbh]
theorem qAX (A B:AVal) (hA:qaH A=true) (hB:qaH B=true) (l l':List Int) (hl:l.length<2 ^ 30) (hll:l.length=l'.length) (m:IM Int) :
  qba L.pure (call L) 1 [0,1,2,10,11,182,183] [0,1,2] 3 qj4 ⟨kt [0,1,2,10,11,182,183] [A,B,.map (some 0),.list (l.map qav) none,.list (l'.map qav) none,.int .i64 l.length,.int .i64 ((0:Nat):Int)],[.map (encB m)]⟩ =
   some (.normal,⟨kt [0,1,2] [A,B,.map (some 0)],[.map (encB (qd1 l l' m))]⟩):=by
 have hz:(l.zip l').length=l.length:=by rw[List.length_zip];omega
 unfold qd1
 refine (qek (pure:=L.pure) (call:=call L) (l.zip l') (fun m p=>qlv p.1 p.2 m) (fun m i=>⟨kt [0,1,2,10,11,182,183] [A,B,.map (some 0),.list (l.map qav) none,.list (l'.map qav) none,.int .i64 l.length,.int .i64 i],[.map (encB m)]⟩)
  (fun m=>⟨kt [0,1,2] [A,B,.map (some 0)],[.map (encB m)]⟩) (fun _ _=>True) m trivial ?_ ?_).2
 ·intro i hi m _
  have hi1:i<l.length:=by omega
  have hi2:i<l'.length:=by omega
  obtain⟨h1,h2,h3⟩:=qaN qav l hl i hi1
  have h4:(l'.map qav)[i]? = some (qav l'[i]):=by simp[hi2]
  refine⟨?_,trivial⟩
  rw[List.getElem_zip]
  generalize l[i]=x at *
  generalize l'[i]=y at *
  have hup:=fun (h:Heap) (hr:h[0]? = some (.map (encB m)))=>qCc h 0 x y m hr
  unfold qj4
  simp -implicitDefEqProofs only[ev_,aOp,opd,qaa,qay,qaB,qaA,qad,qab,qaf,qag,qaC,ren,renC,qa9,qbq,qaz,↓reduceIte,reduceCtorEq,Nat.reduceEqDiff,Nat.reduceLT,Nat.reduceLeDiff,qa1,qah,h1,h2,h3,h4,hup,hA,hB,qco,qcp]
 ·intro m _
  have h0:=qaQ l.length
  rw[hz]
  unfold qj4
  simp -implicitDefEqProofs only[ev_,aOp,opd,qaa,qaB,qaA,qab,gcE,qaC,ren,renC,qa9,qbq,↓reduceIte,reduceCtorEq,Nat.reduceEqDiff,Nat.reduceLT,Nat.reduceLeDiff,h0,hA,hB,qco,qcp]
def qtD (L:Lib) (t t':CTree):Prop:=∀ m:IM Int,call L 189 [qao t,qao t',.map (some 0)] [.map (encB m)]=some (.val (.bool (qf9 t t' m).1),[.map (encB (qf9 t t' m).2)])
def qv3 (_:Nat) (m:IM Int) (p:CTree × CTree):Except (IM Int) (IM Int):=match qf9 p.1 p.2 m with | (true,m1)=>.ok m1 | (false,m1)=>.error m1
theorem qlI:∀ (ks ks':List CTree) (i:Nat) (m:IM Int),qbJ qv3 (ks.zip ks') i m=match qdc ks ks' m with | (true,m1)=>.ok m1 | (false,m1)=>.error m1
 | [],_,i,m=>by rw[List.zip_nil_left,qdc];rfl
 | k::ks,[],i,m=>by rw[List.zip_nil_right,qdc];rfl
 | k :: ks,k' :: ks',i,m => by
   rw[List.zip_cons_cons,qbJ,qdc]
   unfold qv3
   dsimp only
   rcases hq:qf9 k k' m with ⟨b,m1⟩
   cases b with
   | false=>rfl
   | true=>exact qlI ks ks' (i+1) m1
variable (hL:Plain L)
include hL
theorem qAY (op n:Int) (binds:List Int) (kids:List CTree) (alts:List CAlt) (op' n':Int) (binds':List Int) (kids':List CTree) (alts':List CAlt) (hk:kids.length<2 ^ 30) (hl:kids.length=kids'.length) (ih:∀ p∈kids.zip kids',qtD L p.1 p.2) (m:IM Int) :
  qba L.pure (call L) 1 [0,1,2,200,201] [6] 5 qgY ⟨kt [0,1,2,200,201] [.vptr [.int .i64 op,.int .i64 n,.list (binds.map qav) none,.list (kids.map qao) none,.list (alts.map qas) none] 0,.vptr [.int .i64 op',.int .i64 n',.list (binds'.map qav) none,.list (kids'.map qao) none,.list (alts'.map qas) none] 0,.map (some 0),.int .i64 kids.length,.int .i64 ((0:Nat):Int)],[.map (encB m)]⟩ =
   some (if (qdc kids kids' m).1=true then (.normal,⟨kt [6] [.junk],[.map (encB (qdc kids kids' m).2)]⟩) else (.ret,⟨kt [6] [.bool false],[.map (encB (qdc kids kids' m).2)]⟩)):=by
 have hp:=hL.pure
 have hdA:=qap alts
 have hdA':=qap alts'
 have hdT:=qbi kids
 have hdT':=qbi kids'
 have hz:(kids.zip kids').length=kids.length:=by rw[List.length_zip];omega
 have key:=qcD (pure:=L.pure) (call:=call L) (b:=1) (keep:=[0,1,2,200,201]) (fk:=[6]) (id:=5) (body:=qgY) (kids.zip kids') qv3
  (fun m i=>⟨kt [0,1,2,200,201] [.vptr [.int .i64 op,.int .i64 n,.list (binds.map qav) none,.list (kids.map qao) none,.list (alts.map qas) none] 0,.vptr [.int .i64 op',.int .i64 n',.list (binds'.map qav) none,.list (kids'.map qao) none,.list (alts'.map qas) none] 0,.map (some 0),.int .i64 kids.length,.int .i64 i],[.map (encB m)]⟩) (fun m=>⟨kt [6] [.junk],[.map (encB m)]⟩)
  (fun e R=>R=⟨kt [6] [.bool false],[.map (encB e)]⟩) (fun _ _=>True) m trivial ?_ ?_ ?_
 ·have hf:=qlI kids kids' 0 m
  rcases hq:qdc kids kids' m with ⟨b,m1⟩
  rw[hq] at hf
  cases b with
  | true=>exact (key.1 m1 hf).2
  | false =>
    obtain⟨R,rfl,h⟩:=key.2 m1 hf
    exact h
 ·intro i hi m m1 _ hq
  have hi1:i<kids.length:=by omega
  have hi2:i<kids'.length:=by omega
  obtain⟨h1,h2,h3⟩:=qaN qao kids hk i hi1
  have h4:(kids'.map qao)[i]? = some (qao kids'[i]):=by simp[hi2]
  have hs:=ih (kids.zip kids')[i] (List.getElem_mem hi) m
  refine⟨?_,trivial⟩
  unfold qv3 at hq
  rw[List.getElem_zip] at hq hs
  dsimp only at hq hs
  generalize kids[i]=k at *
  generalize kids'[i]=k' at *
  rcases hr:qf9 k k' m with ⟨b,m2⟩
  rw[hr] at hq hs
  cases b with
  | false=>cases hq
  | true =>
    injection hq with hq
    subst hq
    obtain⟨tc,htc,hdt⟩:=qbC k
    obtain⟨tc',htc',hdt'⟩:=qbC k'
    rw[htc,htc'] at hs
    unfold qgY
    simp -implicitDefEqProofs only[ev_,aOp,opd,qaa,qaB,qaA,aUn,qad,qab,qaf,qag,qai,qaC,ren,renC,qa9,qbq,qaz,↓reduceIte,reduceCtorEq,Nat.reduceEqDiff,Nat.reduceLT,Nat.reduceLeDiff,qah,h1,h2,h3,h4,htc,htc',hdt,hdt',hs,hdA,hdA',hdT,hdT',qco,qcp,qal L hp,hp]
 ·intro i hi m e _ hq
  have hi1:i<kids.length:=by omega
  have hi2:i<kids'.length:=by omega
  obtain⟨h1,h2,h3⟩:=qaN qao kids hk i hi1
  have h4:(kids'.map qao)[i]? = some (qao kids'[i]):=by simp[hi2]
  have hs:=ih (kids.zip kids')[i] (List.getElem_mem hi) m
  refine⟨_,rfl,?_⟩
  unfold qv3 at hq
  rw[List.getElem_zip] at hq hs
  dsimp only at hq hs
  generalize kids[i]=k at *
  generalize kids'[i]=k' at *
  rcases hr:qf9 k k' m with ⟨b,m2⟩
  rw[hr] at hq hs
  cases b with
  | true=>cases hq
  | false =>
    injection hq with hq
    subst hq
    obtain⟨tc,htc,hdt⟩:=qbC k
    obtain⟨tc',htc',hdt'⟩:=qbC k'
    rw[htc,htc'] at hs
    unfold qgY
    simp -implicitDefEqProofs only[ev_,aOp,opd,qaa,qaB,qaA,aUn,qad,qab,qaf,qag,qai,gcE,qaC,ren,renC,qa9,qbq,qaz,↓reduceIte,reduceCtorEq,Nat.reduceEqDiff,Nat.reduceLT,h1,h2,h3,h4,htc,htc',hdt,hdt',hs,hdA,hdA',hdT,hdT',qco,qcp,qal L hp,hp]
 ·intro m _
  have h0:=qaQ kids.length
  rw[hz]
  unfold qgY
  simp -implicitDefEqProofs only[ev_,aOp,opd,qaa,qaB,qaA,qab,gcE,qaC,ren,renC,qa9,qbq,↓reduceIte,reduceCtorEq,Nat.reduceEqDiff,h0,hdA,hdA',hdT,hdT',qco,qcp]
end
theorem qqo {op:Int} {binds binds':List Int} {alts alts':List CAlt} (hb:binds.length=binds'.length) (ha:alts.length=alts'.length) (h:qeW alts alts'=false):(qaq op binds alts).length=(qaq op binds' alts').length:=by
 unfold qaq
 rw[List.length_append,List.length_append,qwJ alts alts' h ha]
 split
 ·rw[hb]
 ·rfl
section
variable {L:Lib} (hL:Plain L)
include hL
theorem qv4 (h232:L.fns 232=some fn232) (op n:Int) (binds:List Int) (kids:List CTree) (alts:List CAlt) (n':Int) (binds':List Int) (kids':List CTree) (alts':List CAlt)
  (ha:alts.length<2 ^ 30) (hk:kids.length<2 ^ 30) (hbf:(binds++alts.flatMap (·.binds)).length<2 ^ 30) (hbf':(binds'++alts'.flatMap (·.binds)).length<2 ^ 30) (ha':alts'.length<2 ^ 30) (hlk:kids.length=kids'.length) (hlb:binds.length=binds'.length) (hla:alts.length=alts'.length)
  (ih:∀ p∈kids.zip kids',qtD L p.1 p.2) (m:IM Int) (tm:Tmps) (h0:tm 0=.vptr [.int .i64 op,.int .i64 n,.list (binds.map qav) none,.list (kids.map qao) none,.list (alts.map qas) none] 0) (h1:tm 1=.vptr [.int .i64 op,.int .i64 n',.list (binds'.map qav) none,.list (kids'.map qao) none,.list (alts'.map qas) none] 0) (h2:tm 2=.map (some 0)) :
  qan [.tmp 6] (qa0 L.pure (call L) qfD ⟨tm,[.map (encB m)]⟩) =
   some (.val (.bool (if qeW alts alts'=true then (false,m) else qdc kids kids' (qd1 (qaq op binds alts) (qaq op binds' alts') m)).1),[.map (encB (if qeW alts alts'=true then (false,m) else qdc kids kids' (qd1 (qaq op binds alts) (qaq op binds' alts') m)).2)]):=by
 have hp:=hL.pure
 have hdA:=qap alts
 have hdA':=qap alts'
 have hdT:=qbi kids
 have hdT':=qbi kids'
 have hl0:=qAW (L:=L) op n binds kids alts op n' binds' kids' alts' ha hla m
 simp only[Int.natCast_zero] at hl0
 cases ha1:qeW alts alts' with
 | true =>
   simp only[ha1,if_true] at hl0
   unfold qfD
   simp -implicitDefEqProofs only[ev_,aOp,opd,qaa,qbd,qag,qai,qan,qac,qae,qaj,qaC,ren,renC,qa9,qbq,↓reduceIte,reduceCtorEq,Nat.reduceEqDiff,Nat.reduceLT,Nat.reduceLeDiff,qah,h0,h1,h2,hl0,hdA,hdA',hdT,hdT',qco,qcp]
 | false =>
   simp only[ha1,Bool.false_eq_true,if_false] at hl0 ⊢
   have hb1:=qe1 hL h232 op n binds (.list (kids.map qao) none) (by rw[qa3];exact hdT) alts ha (by omega)
   have hb2:=qe1 hL h232 op n' binds' (.list (kids'.map qao) none) (by rw[qa3];exact hdT') alts' ha' (by omega)
   have hbl:=qqo (op:=op) hlb hla ha1
   have hbl1:=qnS op binds alts
   have hdB1:=qah (qaq op binds alts)
   have hdB2:=qah (qaq op binds' alts')
   generalize qaq op binds alts=l at *
   generalize qaq op binds' alts'=l' at *
   have hl1:=qAX (L:=L) (.vptr [.int .i64 op,.int .i64 n,.list (binds.map qav) none,.list (kids.map qao) none,.list (alts.map qas) none] 0) (.vptr [.int .i64 op,.int .i64 n',.list (binds'.map qav) none,.list (kids'.map qao) none,.list (alts'.map qas) none] 0) (by simp only[qaH,qax,qah,hdT,hdA,Bool.and_self]) (by simp only[qaH,qax,qah,hdT',hdA',Bool.and_self]) l l' (by omega) hbl m
   have hl2:=qAY hL op n binds kids alts op n' binds' kids' alts' hk hlk ih (qd1 l l' m)
   simp only[Int.natCast_zero] at hl1 hl2
   generalize qd1 l l' m=m1 at *
   rcases hq:qdc kids kids' m1 with ⟨b,m2⟩
   rw[hq] at hl2
   cases b with
   | true =>
     simp only[if_true] at hl2
     unfold qfD
     simp -implicitDefEqProofs only[ev_,aOp,opd,qaa,qbd,qag,qai,qan,qac,qae,qaj,qaC,ren,renC,qa9,qbq,↓reduceIte,reduceCtorEq,Nat.reduceEqDiff,Nat.reduceLT,Nat.reduceLeDiff,qah,h0,h1,h2,hl0,hb1,hb2,hl1,hl2,hdA,hdA',hdT,hdT',qco,qcp,qal L hp,hp]
   | false =>
     simp only[Bool.false_eq_true,if_false] at hl2
     unfold qfD
     simp -implicitDefEqProofs only[ev_,aOp,opd,qaa,qbd,qag,qai,qan,qac,qae,qaj,qaC,ren,renC,qa9,qbq,↓reduceIte,reduceCtorEq,Nat.reduceEqDiff,Nat.reduceLT,Nat.reduceLeDiff,qah,h0,h1,h2,hl0,hb1,hb2,hl1,hl2,hdA,hdA',hdT,hdT',qco,qcp,qal L hp,hp]
theorem qAZ (h139:L.fns 139=some fn139) (h232:L.fns 232=some fn232) (h189:L.fns 189=some fn189) (t:CTree) (hf:TFit t):∀ t',TFit t'→qtD L t t':=by
 have hp:=hL.pure
 have hs:L.summ 189=none:=hL.summ 189 (by rw[h189];exact fun hx=>by cases hx)
 induction t using CTree.ind with
 | h op n binds kids alts ih =>
   intro t' hf' m
   cases hf with
   | mk _ _ _ _ _ hb hk ha hfk =>
   cases hf' with
   | mk op' n' binds' kids' alts' hb' hk' ha' hfk' =>
   refine qaL hs h189 ?_
   rw[qbj,qbj]
   have hdA:=qap alts
   have hdA':=qap alts'
   have hdT:=qbi kids
   have hdT':=qbi kids'
   rw[qf9]
   by_cases e1:op=op'
   case neg =>
    have e1':(op==op')=false:=by simpa using e1
    rw[if_pos (.inl e1)]
    unfold fn189
    simp -implicitDefEqProofs only[ev_,aOp,opd,qaa,qaB,qaA,qab,qaf,qag,qai,qan,qac,qae,qaj,qaz,↓reduceIte,reduceCtorEq,Nat.reduceEqDiff,e1',hdA,hdA',hdT,hdT',qco,qcp,bne]
   subst e1
   by_cases e2:kids.length=kids'.length
   case neg =>
    have e2':((kids.length:Int)==kids'.length)=false:=by simp;omega
    rw[if_pos (.inr (.inl e2))]
    unfold fn189
    simp -implicitDefEqProofs only[ev_,aOp,opd,qaa,qaB,qbd,qaA,qab,qaf,qag,qai,qan,qac,qae,qaj,qaz,↓reduceIte,reduceCtorEq,Nat.reduceEqDiff,e2',hdA,hdA',hdT,hdT',qco,qcp,bne]
   have e2':((kids.length:Int)==kids'.length)=true:=by simp;omega
   by_cases e3:binds.length=binds'.length
   case neg =>
    have e3':((binds.length:Int)==binds'.length)=false:=by simp;omega
    rw[if_pos (.inr (.inr (.inl e3)))]
    unfold fn189
    simp -implicitDefEqProofs only[ev_,aOp,opd,qaa,qaB,qbd,qaA,qab,qaf,qag,qai,qan,qac,qae,qaj,qaz,↓reduceIte,reduceCtorEq,Nat.reduceEqDiff,e2',e3',hdA,hdA',hdT,hdT',qco,qcp,bne]
   have e3':((binds.length:Int)==binds'.length)=true:=by simp;omega
   by_cases e4:alts.length=alts'.length
   case neg =>
    have e4':((alts.length:Int)==alts'.length)=false:=by simp;omega
    rw[if_pos (.inr (.inr (.inr e4)))]
    unfold fn189
    simp -implicitDefEqProofs only[ev_,aOp,opd,qaa,qaB,qbd,qaA,qab,qaf,qag,qai,qan,qac,qae,qaj,qaz,↓reduceIte,reduceCtorEq,Nat.reduceEqDiff,e2',e3',e4',hdA,hdA',hdT,hdT',qco,qcp,bne]
   have e4':((alts.length:Int)==alts'.length)=true:=by simp;omega
   rw[if_neg (by simp[e2,e3,e4])]
   by_cases h0:op=0
   ·subst h0
    rw[if_pos rfl]
    unfold qof
    have hlk:=fun (h:Heap) (hr:h[0]? = some (.map (encB m)))=>qqM qav h 0 (.int .i64 0) true n m hr
    cases hq:qaW n m with
    | some x =>
      rw[hq] at hlk
      cases hx:(x==n')<;>unfold fn189<;>simp -implicitDefEqProofs only[ev_,aOp,opd,qaa,qaB,qbd,qaA,aUn,qab,qaf,qag,qai,qan,qac,qae,qaj,qaz,↓reduceIte,reduceCtorEq,Nat.reduceEqDiff,qa1,e2',e3',e4',hlk,hx,hdA,hdA',hdT,hdT',qco,qcp,bne]
    | none =>
      rw[hq] at hlk
      cases hx:(n==n')<;>unfold fn189<;>simp -implicitDefEqProofs only[ev_,aOp,opd,qaa,qaB,qbd,qaA,aUn,qab,qaf,qag,qai,qan,qac,qae,qaj,qaz,↓reduceIte,reduceCtorEq,Nat.reduceEqDiff,e2',e3',e4',hlk,hx,hdA,hdA',hdT,hdT',qco,qcp,bne]
   have h0':(op==0)=false:=by simpa using h0
   rw[if_neg h0]
   have T:=qv4 hL h232 op n binds kids alts n' binds' kids' alts' ha hk hb hb' ha' e2 e3 e4 (fun p hp'=>by
    obtain⟨h1,h2⟩:=List.of_mem_zip (a:=p.1) (b:=p.2) hp'
    exact ih p.1 h1 (hfk p.1 h1) p.2 (hfk' p.2 h2)) m
   by_cases h5:n=n'
   case neg =>
    have h5':(n==n')=false:=by simpa using h5
    rw[if_pos (.inl h5)]
    unfold fn189
    generalize qfD=tl at *
    simp -implicitDefEqProofs only[ev_,aOp,opd,qaa,qaB,qbd,qaA,qab,qaf,qag,qai,qan,qac,qae,qaj,qaz,↓reduceIte,reduceCtorEq,Nat.reduceEqDiff,e2',e3',e4',h0',h5',hdA,hdA',hdT,hdT',qco,qcp,bne]
   subst h5
   by_cases h9:op=9
   ·subst h9
    have hq:=quv hL h139 binds binds' (by rw[List.length_append] at hb;omega)
    by_cases hbb:binds=binds'
    ·have hd:decide (binds=binds')=true:=by simpa using hbb
     rw[hd] at hq
     rw[if_neg (by simp[hbb])]
     unfold fn189
     generalize qfD=tl at *
     simp -implicitDefEqProofs only[ev_,aOp,opd,qaa,qaB,qbd,qaA,aUn,qab,qaf,qag,qai,qan,qac,qae,qaj,qaz,↓reduceIte,reduceCtorEq,Nat.reduceEqDiff,Int.reduceBEq,qaw,qah,e2',e3',e4',hq,hdA,hdA',hdT,hdT',qco,qcp,bne,qal L hp,hp]
     exact T _ (by simp -implicitDefEqProofs only[ev_,↓reduceIte,reduceCtorEq]) (by simp -implicitDefEqProofs only[ev_,↓reduceIte,Nat.reduceEqDiff]) (by simp -implicitDefEqProofs only[ev_,↓reduceIte,Nat.reduceEqDiff])
    ·have hd:decide (binds=binds')=false:=by simpa using hbb
     rw[hd] at hq
     rw[if_pos (.inr ⟨rfl,hbb⟩)]
     unfold fn189
     generalize qfD=tl at *
     simp -implicitDefEqProofs only[ev_,aOp,opd,qaa,qaB,qbd,qaA,aUn,qab,qaf,qag,qai,qan,qac,qae,qaj,qaz,↓reduceIte,reduceCtorEq,Nat.reduceEqDiff,Int.reduceBEq,qaw,qah,e2',e3',e4',hq,hdA,hdA',hdT,hdT',qco,qcp,bne,qal L hp,hp]
   ·have h9':(op==9)=false:=by simpa using h9
    rw[if_neg (by simp[h9])]
    unfold fn189
    generalize qfD=tl at *
    simp -implicitDefEqProofs only[ev_,aOp,opd,qaa,qaB,qbd,qaA,qab,qaf,qag,qai,qan,qac,qae,qaj,qaz,↓reduceIte,reduceCtorEq,Nat.reduceEqDiff,e2',e3',e4',h0',h9',hdA,hdA',hdT,hdT',qco,qcp,bne,qal L hp,hp]
    exact T _ (by simp -implicitDefEqProofs only[ev_,↓reduceIte,reduceCtorEq]) (by simp -implicitDefEqProofs only[ev_,↓reduceIte,Nat.reduceEqDiff]) (by simp -implicitDefEqProofs only[ev_,↓reduceIte,Nat.reduceEqDiff])
theorem qq4 (h139:L.fns 139=some fn139) (h232:L.fns 232=some fn232) (h189:L.fns 189=some fn189) (h164:L.fns 164=some fn164) (t t':CTree) (hf:TFit t) (hf':TFit t') (h:Heap) :
  pcall L 164 [qao t,qao t'] h=some (.val (.bool (qf9 t t' []).1),h):=by
 have hp:=hL.pure
 have hs:=qAZ hL h139 h232 h189 t hf t' hf' []
 refine qaX hL h164 rfl ?_ h
 obtain⟨tc,htc,hdt⟩:=qbC t
 obtain⟨tc',htc',hdt'⟩:=qbC t'
 have hn:encB []=[]:=rfl
 rw[hn] at hs
 rw[htc,htc'] at hs ⊢
 unfold fn164
 simp -implicitDefEqProofs only[ev_,aOp,opd,qan,qac,qae,qaj,qaC,ren,renC,qa9,qbq,↓reduceIte,reduceCtorEq,Nat.reduceEqDiff,Nat.reduceLT,qak,hs,hdt,hdt',qco,qcp,qal L hp,hp]
end
end Go.Abs
