/-
  PARTS OF A PROOF, joined: an abstract machine for quiet code, its evaluation, and what the seat's functions answer on it. Conditions: none.
-/
import Derived.Test.YtpchghpipgpkfaaDoorCQ
set_option linter.unusedVariables false
set_option linter.unusedSimpArgs false
set_option maxRecDepth 100000
set_option maxHeartbeats 4000000
namespace Go.Abs
section
end
def qhF (b:List Int) (i:Nat) (x:Int):Bool := !(x==b.getD i 0)
theorem qxw {a b:List Int} (h:a.length=b.length):(qaF (fun i x=>if qhF b i x=true then some () else none) a 0).isSome = !decide (a=b):=by
 rw[Bool.eq_iff_iff,qhj (qhF b) a 0]
 simp only[Bool.not_eq_true',decide_eq_false_iff_not]
 constructor
 ·rintro ⟨i,hi,hn⟩ e
  subst e
  unfold qhF at hn
  rw[Nat.zero_add,List.getD_eq_getElem?_getD,List.getElem?_eq_getElem hi] at hn
  simp at hn
 ·intro hne
  refine Classical.byContradiction fun hx=>hne ?_
  refine List.ext_getElem h fun i h1 h2=>?_
  refine Classical.byContradiction fun hd=>hx ⟨i,h1,?_⟩
  unfold qhF
  rw[Nat.zero_add,List.getD_eq_getElem?_getD,List.getElem?_eq_getElem h2]
  simpa using hd
section
variable {L:Lib} (hL:Plain L)
include hL
theorem qtb (hf:L.fns 139=some fn139) (a b:List Int) (ha:a.length<2 ^ 30) (h:Heap):pcall L 139 [.list (a.map qat) none,.list (b.map qat) none] h=some (.val (.bool (decide (a=b))),h):=by
 refine qaV hL hf rfl ?_ h
 by_cases hl:a.length=b.length
 ·have hs:=qxw hl
  have hround:∀ (i:Nat) (hi:i<a.length),qa1 L.pure (call L) 0 [0,1,12,13] [4] qhm ⟨kt [0,1,12,13] [.list (a.map qat) none,.list (b.map qat) none,.int .i64 a.length,.int .i64 i],[]⟩ =
    some (if qhF b i a[i]=true then (.ret,⟨kt [4] [.bool false],[]⟩) else (.normal,⟨kt [0,1,12,13] [.list (a.map qat) none,.list (b.map qat) none,.int .i64 a.length,.int .i64 ((i+1:Nat):Int)],[]⟩)):=by
   intro i hi
   obtain⟨h1,h2,h3⟩:=qaM qat a ha i hi
   have h4:(b.map qat)[i]? = some (qat (b.getD i 0)):=by
    have:i<b.length:=by omega
    simp[this]
   unfold qhF
   generalize a[i]=x at *
   generalize b.getD i 0=y at *
   cases hq:(x==y)<;>unfold qhm<;>simp -implicitDefEqProofs only[ev_,aOp,opd,qaa,qaA,qaz,qad,qab,qae,qag,gcE,qax,ren,renC,qa0,qbb,qay,↓reduceIte,reduceCtorEq,Nat.reduceEqDiff,qaT,qah,h1,h2,h3,h4,hq,bne]
  have hloop:=qbN (pure:=L.pure) (call:=call L) (b:=0) (keep:=[0,1,12,13]) (fk:=[4]) (id:=0) (body:=qhm) a (fun i x=>if qhF b i x=true then some () else none)
   (fun i=>⟨kt [0,1,12,13] [.list (a.map qat) none,.list (b.map qat) none,.int .i64 a.length,.int .i64 i],[]⟩) ⟨kt [4] [.junk],[]⟩ (fun _=>⟨kt [4] [.bool false],[]⟩)
   (by
    intro i hi hq
    rw[hround i hi,if_neg]
    intro hx
    simp[hx] at hq)
   (by
    intro i hi r hq
    cases hx:qhF b i a[i] with
    | false=>simp[hx] at hq
    | true=>rw[hround i hi,if_pos hx])
   (by
    have h0:=qaQ a.length
    unfold qhm
    simp -implicitDefEqProofs only[ev_,aOp,opd,qaa,qaA,qaz,qab,gcE,qax,ren,renC,qa0,qbb,↓reduceIte,reduceCtorEq,Nat.reduceEqDiff,h0])
  simp only[Int.natCast_zero] at hloop
  have hne:((a.length:Int)==(b.length:Int))=true:=by rw[hl];simp
  cases hq:qaF (fun i x=>if qhF b i x=true then some () else none) a 0 with
  | none =>
    rw[hq] at hs hloop
    have hd:decide (a=b)=true:=by simpa using hs.symm
    rw[hd]
    simp only[qbf] at hloop
    unfold fn139
    simp -implicitDefEqProofs only[ev_,aOp,opd,qaa,qaA,qa7,qaz,qab,qap,qac,qaf,qaj,qax,ren,renC,qa0,qbb,↓reduceIte,reduceCtorEq,Nat.reduceEqDiff,qak,qah,hne,hloop,bne]
  | some u =>
    rw[hq] at hs hloop
    have hd:decide (a=b)=false:=by simpa using hs.symm
    rw[hd]
    simp only[qbf] at hloop
    unfold fn139
    simp -implicitDefEqProofs only[ev_,aOp,opd,qaa,qaA,qa7,qaz,qab,qap,qac,qaf,qaj,qax,ren,renC,qa0,qbb,↓reduceIte,reduceCtorEq,Nat.reduceEqDiff,qak,qah,hne,hloop,bne]
 ·have hne:((a.length:Int)==(b.length:Int))=false:=by simp;omega
  have hd:decide (a=b)=false:=by simpa using fun e=>hl (by rw[e])
  rw[hd]
  unfold fn139
  simp -implicitDefEqProofs only[ev_,aOp,opd,qaa,qaA,qa7,qaz,qab,qap,qac,qaf,qaj,↓reduceIte,reduceCtorEq,Nat.reduceEqDiff,qak,hne,bne]
end
section
def qg7 (as:List CAlt) (i:Nat) (a:CAlt):Bool:=match as[i]? with | some c => !(a.tag==c.tag) || !((a.binds.length:Int)==c.binds.length) | none=>false
def qfu (as cs:List CAlt):Bool:=(qaF (fun i a=>if qg7 cs i a=true then some () else none) as 0).isSome
def qiI (l l':List Int) (m:IM Int):IM Int:=(l.zip l').foldl (fun m p=>qjf p.1 p.2 m) m
def qqg (n n':Int) (m:IM Int):Bool:=match qbu n m with | some x=>x==n' | none=>n==n'
mutual
def qhM:CTree→CTree→IM Int→Bool × IM Int
 | .mk op n binds kids alts,.mk op' n' binds' kids' alts',m =>
   if op≠op'∨kids.length≠kids'.length∨binds.length≠binds'.length∨alts.length≠alts'.length then (false,m)
   else if op=0 then (qqg n n' m,m)
   else if n≠n'∨(op=9∧binds≠binds') then (false,m)
   else if qfu alts alts'=true then (false,m)
   else qdq kids kids' (qiI (qaN op binds alts) (qaN op' binds' alts') m)
def qdq:List CTree→List CTree→IM Int→Bool × IM Int
 | [],_,m=>(true,m)
 | k :: ks,l,m => match l with
   | []=>(true,m)
   | k'::ks'=>(match qhM k k' m with | (true,m1)=>qdq ks ks' m1 | (false,m1)=>(false,m1))
end
theorem quZ (as cs:List CAlt) (h:qfu as cs=false) (hl:as.length=cs.length):(as.flatMap (·.binds)).length=(cs.flatMap (·.binds)).length:=by
 unfold qfu at h
 have h2:∀ i (hi:i<as.length),qg7 cs i as[i]=false:=by
  intro i hi
  cases hq:qg7 cs i as[i] with
  | false=>rfl
  | true =>
    have:=(qhj (qg7 cs) as 0).2 ⟨i,hi,by rw[Nat.zero_add];exact hq⟩
    rw[h] at this
    cases this
 have h3:as.map (fun a=>a.binds.length)=cs.map (fun a=>a.binds.length):=by
  refine List.ext_getElem (by simpa using hl) fun i h4 h5=>?_
  have hi:i<as.length:=by simpa using h4
  have:=h2 i hi
  unfold qg7 at this
  rw[List.getElem?_eq_getElem (by omega)] at this
  simp at this ⊢
  omega
 rw[List.length_flatMap,List.length_flatMap]
 exact congrArg List.sum h3
variable {L:Lib}
theorem qyT (op n:Int) (binds:List Int) (kids:List CTree) (alts:List CAlt) (op' n':Int) (binds':List Int) (kids':List CTree) (alts':List CAlt) (ha:alts.length<2 ^ 30) (hl:alts.length=alts'.length) (m:IM Int) :
  qa2 L.pure (call L) 1 [0,1,2,134,135] [0,1,2,6] 1 qeT ⟨kt [0,1,2,134,135] [.vptr [.int .i64 op,.int .i64 n,.list (binds.map qat) none,.list (kids.map qao) none,.list (alts.map qas) none] 0,.vptr [.int .i64 op',.int .i64 n',.list (binds'.map qat) none,.list (kids'.map qao) none,.list (alts'.map qas) none] 0,.map (some 0),.int .i64 alts.length,.int .i64 ((0:Nat):Int)],[.map (encB m)]⟩ =
   some (if qfu alts alts'=true then (.ret,⟨kt [0,1,2,6] [.vptr [.int .i64 op,.int .i64 n,.list (binds.map qat) none,.list (kids.map qao) none,.list (alts.map qas) none] 0,.vptr [.int .i64 op',.int .i64 n',.list (binds'.map qat) none,.list (kids'.map qao) none,.list (alts'.map qas) none] 0,.map (some 0),.bool false],[.map (encB m)]⟩) else (.normal,⟨kt [0,1,2,6] [.vptr [.int .i64 op,.int .i64 n,.list (binds.map qat) none,.list (kids.map qao) none,.list (alts.map qas) none] 0,.vptr [.int .i64 op',.int .i64 n',.list (binds'.map qat) none,.list (kids'.map qao) none,.list (alts'.map qas) none] 0,.map (some 0),.junk],[.map (encB m)]⟩)):=by
 have hdA:=qan alts
 have hdA':=qan alts'
 have hdT:=qbd kids
 have hdT':=qbd kids'
 have hround:∀ (i:Nat) (hi:i<alts.length),qa1 L.pure (call L) 1 [0,1,2,134,135] [0,1,2,6] qeT ⟨kt [0,1,2,134,135] [.vptr [.int .i64 op,.int .i64 n,.list (binds.map qat) none,.list (kids.map qao) none,.list (alts.map qas) none] 0,.vptr [.int .i64 op',.int .i64 n',.list (binds'.map qat) none,.list (kids'.map qao) none,.list (alts'.map qas) none] 0,.map (some 0),.int .i64 alts.length,.int .i64 i],[.map (encB m)]⟩ =
   some (if qg7 alts' i alts[i]=true then (.ret,⟨kt [0,1,2,6] [.vptr [.int .i64 op,.int .i64 n,.list (binds.map qat) none,.list (kids.map qao) none,.list (alts.map qas) none] 0,.vptr [.int .i64 op',.int .i64 n',.list (binds'.map qat) none,.list (kids'.map qao) none,.list (alts'.map qas) none] 0,.map (some 0),.bool false],[.map (encB m)]⟩)
    else (.normal,⟨kt [0,1,2,134,135] [.vptr [.int .i64 op,.int .i64 n,.list (binds.map qat) none,.list (kids.map qao) none,.list (alts.map qas) none] 0,.vptr [.int .i64 op',.int .i64 n',.list (binds'.map qat) none,.list (kids'.map qao) none,.list (alts'.map qas) none] 0,.map (some 0),.int .i64 alts.length,.int .i64 ((i+1:Nat):Int)],[.map (encB m)]⟩)):=by
  intro i hi
  obtain⟨h1,h2,h3⟩:=qaM qas alts ha i hi
  have hi':i<alts'.length:=by omega
  have h4:(alts'.map qas)[i]? = some (qas alts'[i]):=by simp[hi']
  have hv:qg7 alts' i alts[i]=(!(alts[i].tag==alts'[i].tag) || !((alts[i].binds.length:Int)==alts'[i].binds.length)):=by
   unfold qg7
   rw[List.getElem?_eq_getElem hi']
  generalize qg7 alts' i alts[i]=v at *
  generalize alts[i]=a at *
  generalize alts'[i]=c at *
  subst hv
  cases e1:(a.tag==c.tag) with
  | false=>unfold qeT;simp -implicitDefEqProofs only[ev_,aOp,opd,qaa,qaA,qaz,qad,qab,qae,qag,qai,gcE,qax,ren,renC,qa0,qbb,qay,↓reduceIte,reduceCtorEq,Nat.reduceEqDiff,Nat.reduceAdd,Nat.reduceLT,Nat.reduceLeDiff,qaX,qah,h1,h2,h3,h4,e1,hdA,hdA',hdT,hdT',qb6,qb7,bne]
  | true=>cases e2:((a.binds.length:Int)==c.binds.length)<;>unfold qeT<;>simp -implicitDefEqProofs only[ev_,aOp,opd,qaa,qaA,qa7,qaz,qad,qab,qae,qag,qai,gcE,qax,ren,renC,qa0,qbb,qay,↓reduceIte,reduceCtorEq,Nat.reduceEqDiff,Nat.reduceAdd,Nat.reduceLT,Nat.reduceLeDiff,qaX,qah,h1,h2,h3,h4,e1,e2,hdA,hdA',hdT,hdT',qb6,qb7,bne]
 have hloop:=qbN (pure:=L.pure) (call:=call L) (b:=1) (keep:=[0,1,2,134,135]) (fk:=[0,1,2,6]) (id:=1) (body:=qeT) alts (fun i a=>if qg7 alts' i a=true then some () else none)
  (fun i=>⟨kt [0,1,2,134,135] [.vptr [.int .i64 op,.int .i64 n,.list (binds.map qat) none,.list (kids.map qao) none,.list (alts.map qas) none] 0,.vptr [.int .i64 op',.int .i64 n',.list (binds'.map qat) none,.list (kids'.map qao) none,.list (alts'.map qas) none] 0,.map (some 0),.int .i64 alts.length,.int .i64 i],[.map (encB m)]⟩)
  ⟨kt [0,1,2,6] [.vptr [.int .i64 op,.int .i64 n,.list (binds.map qat) none,.list (kids.map qao) none,.list (alts.map qas) none] 0,.vptr [.int .i64 op',.int .i64 n',.list (binds'.map qat) none,.list (kids'.map qao) none,.list (alts'.map qas) none] 0,.map (some 0),.junk],[.map (encB m)]⟩ (fun _=>⟨kt [0,1,2,6] [.vptr [.int .i64 op,.int .i64 n,.list (binds.map qat) none,.list (kids.map qao) none,.list (alts.map qas) none] 0,.vptr [.int .i64 op',.int .i64 n',.list (binds'.map qat) none,.list (kids'.map qao) none,.list (alts'.map qas) none] 0,.map (some 0),.bool false],[.map (encB m)]⟩)
  (by
   intro i hi hq
   rw[hround i hi,if_neg]
   intro hx
   simp[hx] at hq)
  (by
   intro i hi r hq
   cases hx:qg7 alts' i alts[i] with
   | false=>simp[hx] at hq
   | true=>rw[hround i hi,if_pos hx])
  (by
   have h0:=qaQ alts.length
   unfold qeT
   simp -implicitDefEqProofs only[ev_,aOp,opd,qaa,qaA,qaz,qab,gcE,qax,ren,renC,qa0,qbb,↓reduceIte,reduceCtorEq,Nat.reduceEqDiff,Nat.reduceLT,Nat.reduceLeDiff,qah,h0,hdA,hdA',hdT,hdT',qb6,qb7])
 rw[hloop]
 unfold qfu
 cases qaF (fun i a=>if qg7 alts' i a=true then some () else none) alts 0<;>simp[qbf]
theorem qyU (A B:AVal) (hA:qaB A=true) (hB:qaB B=true) (l l':List Int) (hl:l.length<2 ^ 30) (hll:l.length=l'.length) (m:IM Int) :
  qa2 L.pure (call L) 1 [0,1,2,10,11,182,183] [0,1,2] 3 qi2 ⟨kt [0,1,2,10,11,182,183] [A,B,.map (some 0),.list (l.map qat) none,.list (l'.map qat) none,.int .i64 l.length,.int .i64 ((0:Nat):Int)],[.map (encB m)]⟩ =
   some (.normal,⟨kt [0,1,2] [A,B,.map (some 0)],[.map (encB (qiI l l' m))]⟩):=by
 have hz:(l.zip l').length=l.length:=by rw[List.length_zip];omega
 unfold qiI
 refine (qdL (pure:=L.pure) (call:=call L) (l.zip l') (fun m p=>qjf p.1 p.2 m) (fun m i=>⟨kt [0,1,2,10,11,182,183] [A,B,.map (some 0),.list (l.map qat) none,.list (l'.map qat) none,.int .i64 l.length,.int .i64 i],[.map (encB m)]⟩)
  (fun m=>⟨kt [0,1,2] [A,B,.map (some 0)],[.map (encB m)]⟩) (fun _ _=>True) m trivial ?_ ?_).2
 ·intro i hi m _
  have hi1:i<l.length:=by omega
  have hi2:i<l'.length:=by omega
  obtain⟨h1,h2,h3⟩:=qaM qat l hl i hi1
  have h4:(l'.map qat)[i]? = some (qat l'[i]):=by simp[hi2]
  refine⟨?_,trivial⟩
  rw[List.getElem_zip]
  generalize l[i]=x at *
  generalize l'[i]=y at *
  have hup:=fun (h:Heap) (hr:h[0]? = some (.map (encB m)))=>qzZ h 0 x y m hr
  unfold qi2
  simp -implicitDefEqProofs only[ev_,aOp,opd,qaa,qar,qaA,qaz,qad,qab,qae,qag,qax,ren,renC,qa0,qbb,qay,↓reduceIte,reduceCtorEq,Nat.reduceEqDiff,Nat.reduceLT,Nat.reduceLeDiff,qaT,qah,h1,h2,h3,h4,hup,hA,hB,qb6,qb7]
 ·intro m _
  have h0:=qaQ l.length
  rw[hz]
  unfold qi2
  simp -implicitDefEqProofs only[ev_,aOp,opd,qaa,qaA,qaz,qab,gcE,qax,ren,renC,qa0,qbb,↓reduceIte,reduceCtorEq,Nat.reduceEqDiff,Nat.reduceLT,Nat.reduceLeDiff,h0,hA,hB,qb6,qb7]
def qsB (L:Lib) (t t':CTree):Prop:=∀ m:IM Int,call L 189 [qao t,qao t',.map (some 0)] [.map (encB m)]=some (.val (.bool (qhM t t' m).1),[.map (encB (qhM t t' m).2)])
def qur (_:Nat) (m:IM Int) (p:CTree × CTree):Except (IM Int) (IM Int):=match qhM p.1 p.2 m with | (true,m1)=>.ok m1 | (false,m1)=>.error m1
theorem qkD:∀ (ks ks':List CTree) (i:Nat) (m:IM Int),qbx qur (ks.zip ks') i m=match qdq ks ks' m with | (true,m1)=>.ok m1 | (false,m1)=>.error m1
 | [],_,i,m=>by rw[List.zip_nil_left,qdq];rfl
 | k::ks,[],i,m=>by rw[List.zip_nil_right,qdq];rfl
 | k :: ks,k' :: ks',i,m => by
   rw[List.zip_cons_cons,qbx,qdq]
   unfold qur
   dsimp only
   rcases hq:qhM k k' m with ⟨b,m1⟩
   cases b with
   | false=>rfl
   | true=>exact qkD ks ks' (i+1) m1
variable (hL:Plain L)
include hL
theorem qyV (op n:Int) (binds:List Int) (kids:List CTree) (alts:List CAlt) (op' n':Int) (binds':List Int) (kids':List CTree) (alts':List CAlt) (hk:kids.length<2 ^ 30) (hl:kids.length=kids'.length) (ih:∀ p∈kids.zip kids',qsB L p.1 p.2) (m:IM Int) :
  qa2 L.pure (call L) 1 [0,1,2,200,201] [6] 5 qgd ⟨kt [0,1,2,200,201] [.vptr [.int .i64 op,.int .i64 n,.list (binds.map qat) none,.list (kids.map qao) none,.list (alts.map qas) none] 0,.vptr [.int .i64 op',.int .i64 n',.list (binds'.map qat) none,.list (kids'.map qao) none,.list (alts'.map qas) none] 0,.map (some 0),.int .i64 kids.length,.int .i64 ((0:Nat):Int)],[.map (encB m)]⟩ =
   some (if (qdq kids kids' m).1=true then (.normal,⟨kt [6] [.junk],[.map (encB (qdq kids kids' m).2)]⟩) else (.ret,⟨kt [6] [.bool false],[.map (encB (qdq kids kids' m).2)]⟩)):=by
 have hp:=hL.pure
 have hdA:=qan alts
 have hdA':=qan alts'
 have hdT:=qbd kids
 have hdT':=qbd kids'
 have hz:(kids.zip kids').length=kids.length:=by rw[List.length_zip];omega
 have key:=qch (pure:=L.pure) (call:=call L) (b:=1) (keep:=[0,1,2,200,201]) (fk:=[6]) (id:=5) (body:=qgd) (kids.zip kids') qur
  (fun m i=>⟨kt [0,1,2,200,201] [.vptr [.int .i64 op,.int .i64 n,.list (binds.map qat) none,.list (kids.map qao) none,.list (alts.map qas) none] 0,.vptr [.int .i64 op',.int .i64 n',.list (binds'.map qat) none,.list (kids'.map qao) none,.list (alts'.map qas) none] 0,.map (some 0),.int .i64 kids.length,.int .i64 i],[.map (encB m)]⟩) (fun m=>⟨kt [6] [.junk],[.map (encB m)]⟩)
  (fun e R=>R=⟨kt [6] [.bool false],[.map (encB e)]⟩) (fun _ _=>True) m trivial ?_ ?_ ?_
 ·have hf:=qkD kids kids' 0 m
  rcases hq:qdq kids kids' m with ⟨b,m1⟩
  rw[hq] at hf
  cases b with
  | true=>exact (key.1 m1 hf).2
  | false =>
    obtain⟨R,rfl,h⟩:=key.2 m1 hf
    exact h
 ·intro i hi m m1 _ hq
  have hi1:i<kids.length:=by omega
  have hi2:i<kids'.length:=by omega
  obtain⟨h1,h2,h3⟩:=qaM qao kids hk i hi1
  have h4:(kids'.map qao)[i]? = some (qao kids'[i]):=by simp[hi2]
  have hs:=ih (kids.zip kids')[i] (List.getElem_mem hi) m
  refine⟨?_,trivial⟩
  unfold qur at hq
  rw[List.getElem_zip] at hq hs
  dsimp only at hq hs
  generalize kids[i]=k at *
  generalize kids'[i]=k' at *
  rcases hr:qhM k k' m with ⟨b,m2⟩
  rw[hr] at hq hs
  cases b with
  | false=>cases hq
  | true =>
    injection hq with hq
    subst hq
    obtain⟨tc,htc,hdt⟩:=qbz k
    obtain⟨tc',htc',hdt'⟩:=qbz k'
    rw[htc,htc'] at hs
    unfold qgd
    simp -implicitDefEqProofs only[ev_,aOp,opd,qaa,qaA,qaz,aUn,qad,qab,qae,qag,qai,qax,ren,renC,qa0,qbb,qay,↓reduceIte,reduceCtorEq,Nat.reduceEqDiff,Nat.reduceLT,Nat.reduceLeDiff,qah,h1,h2,h3,h4,htc,htc',hdt,hdt',hs,hdA,hdA',hdT,hdT',qb6,qb7,qam L hp,hp]
 ·intro i hi m e _ hq
  have hi1:i<kids.length:=by omega
  have hi2:i<kids'.length:=by omega
  obtain⟨h1,h2,h3⟩:=qaM qao kids hk i hi1
  have h4:(kids'.map qao)[i]? = some (qao kids'[i]):=by simp[hi2]
  have hs:=ih (kids.zip kids')[i] (List.getElem_mem hi) m
  refine⟨_,rfl,?_⟩
  unfold qur at hq
  rw[List.getElem_zip] at hq hs
  dsimp only at hq hs
  generalize kids[i]=k at *
  generalize kids'[i]=k' at *
  rcases hr:qhM k k' m with ⟨b,m2⟩
  rw[hr] at hq hs
  cases b with
  | true=>cases hq
  | false =>
    injection hq with hq
    subst hq
    obtain⟨tc,htc,hdt⟩:=qbz k
    obtain⟨tc',htc',hdt'⟩:=qbz k'
    rw[htc,htc'] at hs
    unfold qgd
    simp -implicitDefEqProofs only[ev_,aOp,opd,qaa,qaA,qaz,aUn,qad,qab,qae,qag,qai,gcE,qax,ren,renC,qa0,qbb,qay,↓reduceIte,reduceCtorEq,Nat.reduceEqDiff,Nat.reduceLT,h1,h2,h3,h4,htc,htc',hdt,hdt',hs,hdA,hdA',hdT,hdT',qb6,qb7,qam L hp,hp]
 ·intro m _
  have h0:=qaQ kids.length
  rw[hz]
  unfold qgd
  simp -implicitDefEqProofs only[ev_,aOp,opd,qaa,qaA,qaz,qab,gcE,qax,ren,renC,qa0,qbb,↓reduceIte,reduceCtorEq,Nat.reduceEqDiff,h0,hdA,hdA',hdT,hdT',qb6,qb7]
end
theorem qpD {op:Int} {binds binds':List Int} {alts alts':List CAlt} (hb:binds.length=binds'.length) (ha:alts.length=alts'.length) (h:qfu alts alts'=false):(qaN op binds alts).length=(qaN op binds' alts').length:=by
 unfold qaN
 rw[List.length_append,List.length_append,quZ alts alts' h ha]
 split
 ·rw[hb]
 ·rfl
section
variable {L:Lib} (hL:Plain L)
include hL
theorem qus (h232:L.fns 232=some fn232) (op n:Int) (binds:List Int) (kids:List CTree) (alts:List CAlt) (n':Int) (binds':List Int) (kids':List CTree) (alts':List CAlt)
  (ha:alts.length<2 ^ 30) (hk:kids.length<2 ^ 30) (hbf:(binds++alts.flatMap (·.binds)).length<2 ^ 30) (hbf':(binds'++alts'.flatMap (·.binds)).length<2 ^ 30) (ha':alts'.length<2 ^ 30) (hlk:kids.length=kids'.length) (hlb:binds.length=binds'.length) (hla:alts.length=alts'.length)
  (ih:∀ p∈kids.zip kids',qsB L p.1 p.2) (m:IM Int) (tm:Tmps) (h0:tm 0=.vptr [.int .i64 op,.int .i64 n,.list (binds.map qat) none,.list (kids.map qao) none,.list (alts.map qas) none] 0) (h1:tm 1=.vptr [.int .i64 op,.int .i64 n',.list (binds'.map qat) none,.list (kids'.map qao) none,.list (alts'.map qas) none] 0) (h2:tm 2=.map (some 0)) :
  qap [.tmp 6] (qaY L.pure (call L) qeU ⟨tm,[.map (encB m)]⟩) =
   some (.val (.bool (if qfu alts alts'=true then (false,m) else qdq kids kids' (qiI (qaN op binds alts) (qaN op binds' alts') m)).1),[.map (encB (if qfu alts alts'=true then (false,m) else qdq kids kids' (qiI (qaN op binds alts) (qaN op binds' alts') m)).2)]):=by
 have hp:=hL.pure
 have hdA:=qan alts
 have hdA':=qan alts'
 have hdT:=qbd kids
 have hdT':=qbd kids'
 have hl0:=qyT (L:=L) op n binds kids alts op n' binds' kids' alts' ha hla m
 simp only[Int.natCast_zero] at hl0
 cases ha1:qfu alts alts' with
 | true =>
   simp only[ha1,if_true] at hl0
   unfold qeU
   simp -implicitDefEqProofs only[ev_,aOp,opd,qaa,qa7,qag,qai,qap,qac,qaf,qaj,qax,ren,renC,qa0,qbb,↓reduceIte,reduceCtorEq,Nat.reduceEqDiff,Nat.reduceLT,Nat.reduceLeDiff,qah,h0,h1,h2,hl0,hdA,hdA',hdT,hdT',qb6,qb7]
 | false =>
   simp only[ha1,Bool.false_eq_true,if_false] at hl0 ⊢
   have hb1:=qem hL h232 op n binds (.list (kids.map qao) none) (by rw[qaS];exact hdT) alts ha (by omega)
   have hb2:=qem hL h232 op n' binds' (.list (kids'.map qao) none) (by rw[qaS];exact hdT') alts' ha' (by omega)
   have hbl:=qpD (op:=op) hlb hla ha1
   have hbl1:=qmW op binds alts
   have hdB1:=qah (qaN op binds alts)
   have hdB2:=qah (qaN op binds' alts')
   generalize qaN op binds alts=l at *
   generalize qaN op binds' alts'=l' at *
   have hl1:=qyU (L:=L) (.vptr [.int .i64 op,.int .i64 n,.list (binds.map qat) none,.list (kids.map qao) none,.list (alts.map qas) none] 0) (.vptr [.int .i64 op,.int .i64 n',.list (binds'.map qat) none,.list (kids'.map qao) none,.list (alts'.map qas) none] 0) (by simp only[qaB,qaw,qah,hdT,hdA,Bool.and_self]) (by simp only[qaB,qaw,qah,hdT',hdA',Bool.and_self]) l l' (by omega) hbl m
   have hl2:=qyV hL op n binds kids alts op n' binds' kids' alts' hk hlk ih (qiI l l' m)
   simp only[Int.natCast_zero] at hl1 hl2
   generalize qiI l l' m=m1 at *
   rcases hq:qdq kids kids' m1 with ⟨b,m2⟩
   rw[hq] at hl2
   cases b with
   | true =>
     simp only[if_true] at hl2
     unfold qeU
     simp -implicitDefEqProofs only[ev_,aOp,opd,qaa,qa7,qag,qai,qap,qac,qaf,qaj,qax,ren,renC,qa0,qbb,↓reduceIte,reduceCtorEq,Nat.reduceEqDiff,Nat.reduceLT,Nat.reduceLeDiff,qah,h0,h1,h2,hl0,hb1,hb2,hl1,hl2,hdA,hdA',hdT,hdT',qb6,qb7,qam L hp,hp]
   | false =>
     simp only[Bool.false_eq_true,if_false] at hl2
     unfold qeU
     simp -implicitDefEqProofs only[ev_,aOp,opd,qaa,qa7,qag,qai,qap,qac,qaf,qaj,qax,ren,renC,qa0,qbb,↓reduceIte,reduceCtorEq,Nat.reduceEqDiff,Nat.reduceLT,Nat.reduceLeDiff,qah,h0,h1,h2,hl0,hb1,hb2,hl1,hl2,hdA,hdA',hdT,hdT',qb6,qb7,qam L hp,hp]
theorem qyW (h139:L.fns 139=some fn139) (h232:L.fns 232=some fn232) (h189:L.fns 189=some fn189) (t:CTree) (hf:TFit t):∀ t',TFit t'→qsB L t t':=by
 have hp:=hL.pure
 have hs:L.summ 189=none:=hL.summ 189 (by rw[h189];exact fun hx=>by cases hx)
 induction t using CTree.ind with
 | h op n binds kids alts ih =>
   intro t' hf' m
   cases hf with
   | mk _ _ _ _ _ hb hk ha hfk =>
   cases hf' with
   | mk op' n' binds' kids' alts' hb' hk' ha' hfk' =>
   refine qaK hs h189 ?_
   rw[qa5,qa5]
   have hdA:=qan alts
   have hdA':=qan alts'
   have hdT:=qbd kids
   have hdT':=qbd kids'
   rw[qhM]
   by_cases e1:op=op'
   case neg =>
    have e1':(op==op')=false:=by simpa using e1
    rw[if_pos (.inl e1)]
    unfold fn189
    simp -implicitDefEqProofs only[ev_,aOp,opd,qaa,qaA,qaz,qab,qae,qag,qai,qap,qac,qaf,qaj,qay,↓reduceIte,reduceCtorEq,Nat.reduceEqDiff,e1',hdA,hdA',hdT,hdT',qb6,qb7,bne]
   subst e1
   by_cases e2:kids.length=kids'.length
   case neg =>
    have e2':((kids.length:Int)==kids'.length)=false:=by simp;omega
    rw[if_pos (.inr (.inl e2))]
    unfold fn189
    simp -implicitDefEqProofs only[ev_,aOp,opd,qaa,qaA,qa7,qaz,qab,qae,qag,qai,qap,qac,qaf,qaj,qay,↓reduceIte,reduceCtorEq,Nat.reduceEqDiff,e2',hdA,hdA',hdT,hdT',qb6,qb7,bne]
   have e2':((kids.length:Int)==kids'.length)=true:=by simp;omega
   by_cases e3:binds.length=binds'.length
   case neg =>
    have e3':((binds.length:Int)==binds'.length)=false:=by simp;omega
    rw[if_pos (.inr (.inr (.inl e3)))]
    unfold fn189
    simp -implicitDefEqProofs only[ev_,aOp,opd,qaa,qaA,qa7,qaz,qab,qae,qag,qai,qap,qac,qaf,qaj,qay,↓reduceIte,reduceCtorEq,Nat.reduceEqDiff,e2',e3',hdA,hdA',hdT,hdT',qb6,qb7,bne]
   have e3':((binds.length:Int)==binds'.length)=true:=by simp;omega
   by_cases e4:alts.length=alts'.length
   case neg =>
    have e4':((alts.length:Int)==alts'.length)=false:=by simp;omega
    rw[if_pos (.inr (.inr (.inr e4)))]
    unfold fn189
    simp -implicitDefEqProofs only[ev_,aOp,opd,qaa,qaA,qa7,qaz,qab,qae,qag,qai,qap,qac,qaf,qaj,qay,↓reduceIte,reduceCtorEq,Nat.reduceEqDiff,e2',e3',e4',hdA,hdA',hdT,hdT',qb6,qb7,bne]
   have e4':((alts.length:Int)==alts'.length)=true:=by simp;omega
   rw[if_neg (by simp[e2,e3,e4])]
   by_cases h0:op=0
   ·subst h0
    rw[if_pos rfl]
    unfold qqg
    have hlk:=fun (h:Heap) (hr:h[0]? = some (.map (encB m)))=>qoh qat h 0 (.int .i64 0) true n m hr
    cases hq:qbu n m with
    | some x =>
      rw[hq] at hlk
      cases hx:(x==n')<;>unfold fn189<;>simp -implicitDefEqProofs only[ev_,aOp,opd,qaa,qaA,qa7,qaz,aUn,qab,qae,qag,qai,qap,qac,qaf,qaj,qay,↓reduceIte,reduceCtorEq,Nat.reduceEqDiff,qaT,e2',e3',e4',hlk,hx,hdA,hdA',hdT,hdT',qb6,qb7,bne]
    | none =>
      rw[hq] at hlk
      cases hx:(n==n')<;>unfold fn189<;>simp -implicitDefEqProofs only[ev_,aOp,opd,qaa,qaA,qa7,qaz,aUn,qab,qae,qag,qai,qap,qac,qaf,qaj,qay,↓reduceIte,reduceCtorEq,Nat.reduceEqDiff,e2',e3',e4',hlk,hx,hdA,hdA',hdT,hdT',qb6,qb7,bne]
   have h0':(op==0)=false:=by simpa using h0
   rw[if_neg h0]
   have T:=qus hL h232 op n binds kids alts n' binds' kids' alts' ha hk hb hb' ha' e2 e3 e4 (fun p hp'=>by
    obtain⟨h1,h2⟩:=List.of_mem_zip (a:=p.1) (b:=p.2) hp'
    exact ih p.1 h1 (hfk p.1 h1) p.2 (hfk' p.2 h2)) m
   by_cases h5:n=n'
   case neg =>
    have h5':(n==n')=false:=by simpa using h5
    rw[if_pos (.inl h5)]
    unfold fn189
    generalize qeU=tl at *
    simp -implicitDefEqProofs only[ev_,aOp,opd,qaa,qaA,qa7,qaz,qab,qae,qag,qai,qap,qac,qaf,qaj,qay,↓reduceIte,reduceCtorEq,Nat.reduceEqDiff,e2',e3',e4',h0',h5',hdA,hdA',hdT,hdT',qb6,qb7,bne]
   subst h5
   by_cases h9:op=9
   ·subst h9
    have hq:=qtb hL h139 binds binds' (by rw[List.length_append] at hb;omega)
    by_cases hbb:binds=binds'
    ·have hd:decide (binds=binds')=true:=by simpa using hbb
     rw[hd] at hq
     rw[if_neg (by simp[hbb])]
     unfold fn189
     generalize qeU=tl at *
     simp -implicitDefEqProofs only[ev_,aOp,opd,qaa,qaA,qa7,qaz,aUn,qab,qae,qag,qai,qap,qac,qaf,qaj,qay,↓reduceIte,reduceCtorEq,Nat.reduceEqDiff,Int.reduceBEq,qav,qah,e2',e3',e4',hq,hdA,hdA',hdT,hdT',qb6,qb7,bne,qam L hp,hp]
     exact T _ (by simp -implicitDefEqProofs only[ev_,↓reduceIte,reduceCtorEq]) (by simp -implicitDefEqProofs only[ev_,↓reduceIte,Nat.reduceEqDiff]) (by simp -implicitDefEqProofs only[ev_,↓reduceIte,Nat.reduceEqDiff])
    ·have hd:decide (binds=binds')=false:=by simpa using hbb
     rw[hd] at hq
     rw[if_pos (.inr ⟨rfl,hbb⟩)]
     unfold fn189
     generalize qeU=tl at *
     simp -implicitDefEqProofs only[ev_,aOp,opd,qaa,qaA,qa7,qaz,aUn,qab,qae,qag,qai,qap,qac,qaf,qaj,qay,↓reduceIte,reduceCtorEq,Nat.reduceEqDiff,Int.reduceBEq,qav,qah,e2',e3',e4',hq,hdA,hdA',hdT,hdT',qb6,qb7,bne,qam L hp,hp]
   ·have h9':(op==9)=false:=by simpa using h9
    rw[if_neg (by simp[h9])]
    unfold fn189
    generalize qeU=tl at *
    simp -implicitDefEqProofs only[ev_,aOp,opd,qaa,qaA,qa7,qaz,qab,qae,qag,qai,qap,qac,qaf,qaj,qay,↓reduceIte,reduceCtorEq,Nat.reduceEqDiff,e2',e3',e4',h0',h9',hdA,hdA',hdT,hdT',qb6,qb7,bne,qam L hp,hp]
    exact T _ (by simp -implicitDefEqProofs only[ev_,↓reduceIte,reduceCtorEq]) (by simp -implicitDefEqProofs only[ev_,↓reduceIte,Nat.reduceEqDiff]) (by simp -implicitDefEqProofs only[ev_,↓reduceIte,Nat.reduceEqDiff])
theorem qp9 (h139:L.fns 139=some fn139) (h232:L.fns 232=some fn232) (h189:L.fns 189=some fn189) (h164:L.fns 164=some fn164) (t t':CTree) (hf:TFit t) (hf':TFit t') (h:Heap) :
  pcall L 164 [qao t,qao t'] h=some (.val (.bool (qhM t t' []).1),h):=by
 have hp:=hL.pure
 have hs:=qyW hL h139 h232 h189 t hf t' hf' []
 refine qaV hL h164 rfl ?_ h
 obtain⟨tc,htc,hdt⟩:=qbz t
 obtain⟨tc',htc',hdt'⟩:=qbz t'
 have hn:encB []=[]:=rfl
 rw[hn] at hs
 rw[htc,htc'] at hs ⊢
 unfold fn164
 simp -implicitDefEqProofs only[ev_,aOp,opd,qap,qac,qaf,qaj,qax,ren,renC,qa0,qbb,↓reduceIte,reduceCtorEq,Nat.reduceEqDiff,Nat.reduceLT,qak,hs,hdt,hdt',qb6,qb7,qam L hp,hp]
end
end Go.Abs
