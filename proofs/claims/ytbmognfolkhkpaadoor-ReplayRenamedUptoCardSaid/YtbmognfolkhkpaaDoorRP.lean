/-
  PARTS OF A PROOF, joined: an abstract machine for quiet code, its evaluation, and what the seat's functions answer on it. Conditions: none.
-/
import Derived.Test.YtbmognfolkhkpaaDoorRM
import Derived.Test.YtbmognfolkhkpaaDoorD
import Derived.Test.YtbmognfolkhkpaaDoorRC
import Derived.Test.YtbmognfolkhkpaaDoorNA
set_option linter.unusedVariables false
set_option linter.unusedSimpArgs false
set_option maxRecDepth 100000
set_option maxHeartbeats 8000000
namespace Go.Abs
def qgn (n:Int) (l:List Int):Int:=l.foldl (fun n x=>if x > n then x else n) n
def qcN (e:List CExpr):Int:=qgn (-1) (e.flatMap qbL)
theorem qnN (n:Int) (a b:List Int):qgn n (a++b)=qgn (qgn n a) b:=by
 unfold qgn
 rw[List.foldl_append]
theorem qp1:∀ (l:List Int) (n:Int),n≤qgn n l∧∀ x∈l,x≤qgn n l
 | [],n=>⟨Int.le_refl _,fun x hx=>by cases hx⟩
 | y :: l,n => by
   obtain⟨h1,h2⟩:=qp1 l (if y > n then y else n)
   have e:qgn n (y::l)=qgn (if y > n then y else n) l:=rfl
   rw[e]
   have h3:n≤(if y > n then y else n)∧y≤(if y > n then y else n):=by split<;>omega
   refine⟨by omega,fun x hx=>?_⟩
   rcases List.mem_cons.1 hx with rfl | hx
   ·omega
   ·exact h2 x hx
theorem qus (e:List CExpr) : -1≤qcN e:=(qp1 _ _).1
theorem qp2:∀ (l:List Int) (n b:Int),n≤b→(∀ x∈l,x≤b)→qgn n l≤b
 | [],n,b,h,_=>h
 | y :: l,n,b,h,hl => by
   have e:qgn n (y::l)=qgn (if y > n then y else n) l:=rfl
   rw[e]
   refine qp2 l _ b ?_ fun x hx=>hl x (List.mem_cons_of_mem _ hx)
   have:=hl y List.mem_cons_self
   split<;>omega
section
variable {L:Lib}
theorem qw7 (E:AVal) (hE:qa2 E=true) (m i:Int) (l:List Int) (hl:l.length<2 ^ 30) (n0:Int) (x:CExpr) :
  qcg L.pure (call L) 1 [3,8,9,10,15,16,17] [3,8,9,10] 2 qiv ⟨kt [3,8,9,10,15,16,17] [.int .i64 n0,E,.int .i64 m,.int .i64 i,.list (l.map qaP) none,.int .i64 l.length,.int .i64 0],[qmU x (.list (x.kids.map qaP) none)]⟩ =
   some (.normal,⟨kt [3,8,9,10] [.int .i64 (qgn n0 l),E,.int .i64 m,.int .i64 i],[qmU x (.list (x.kids.map qaP) none)]⟩):=by
 have key:=qe1 (pure:=L.pure) (call:=call L) (b:=1) (keep:=[3,8,9,10,15,16,17]) (fk:=[3,8,9,10]) (id:=2) (body:=qiv) l (fun n x=>if x > n then x else n)
  (fun n j=>⟨kt [3,8,9,10,15,16,17] [.int .i64 n,E,.int .i64 m,.int .i64 i,.list (l.map qaP) none,.int .i64 l.length,.int .i64 j],[qmU x (.list (x.kids.map qaP) none)]⟩)
  (fun n=>⟨kt [3,8,9,10] [.int .i64 n,E,.int .i64 m,.int .i64 i],[qmU x (.list (x.kids.map qaP) none)]⟩)
  (fun n j=>qgn n (l.drop j)=qgn n0 l) n0 rfl ?_ ?_
 ·obtain⟨h1,h2⟩:=key
  rw[List.drop_length] at h1
  rw[show l.foldl (fun n x=>if x > n then x else n) n0=qgn n0 l from rfl] at h2
  exact h2
 ·intro j hj n hn
  obtain⟨h1,h2,h3⟩:=qbE qaP l hl j hj
  have hd:l.drop j=l[j]::l.drop (j+1):=List.drop_eq_getElem_cons hj
  refine⟨?_,by rw[← hn,hd];rfl⟩
  clear hd hn
  have hdI:=qar l
  have hdX:=qaG x.alts
  generalize l[j]=y at *
  unfold qmU
  unfold qiv
  simp -implicitDefEqProofs only[qaq,qad,qae,qaf,qao,qab,qah,aOp,opd,qai,qav,qag,qbh,qbg,qaE,qaj,qaF,qaW,qaS,qac,qay,qam,qaz,qaU,ren,renC,qa9,qbW,qca,qa8,qaa,qal,List.map_cons,List.map_nil,List.flatMap_cons,List.flatMap_nil,List.length_cons,List.length_nil,List.append_nil,List.getElem?_cons_zero,List.take_succ_cons,List.take_nil,↓reduceIte,Bool.false_eq_true,decide_true,decide_false,Nat.le_refl,Nat.zero_add,Nat.reduceEqDiff,Int.toNat_natCast,Int.natCast_nonneg,qau,qaQ,gt_iff_lt,qb0,qar,h1,h2,h3,hE,hdI,hdX,qf4]
 ·intro n hn
  have h0:=qbF l.length
  have hdI:=qar l
  have hdX:=qaG x.alts
  unfold qmU
  unfold qiv
  simp -implicitDefEqProofs only[qad,qae,qaf,qbl,qab,qah,aOp,opd,qai,qav,qag,qbh,qbg,qaj,gcE,qaS,qac,qay,qam,qaz,qaU,ren,renC,qa9,qbW,qca,qa8,qaa,qal,List.map_cons,List.map_nil,List.flatMap_cons,List.flatMap_nil,List.length_cons,List.length_nil,List.append_nil,List.take_succ_cons,List.take_nil,↓reduceIte,Bool.false_eq_true,decide_false,Nat.le_refl,Nat.zero_add,Nat.reduceEqDiff,qau,qaQ,qar,h0,hE,hdI,hdX]
theorem qw8 (hL:Plain L) (h141:L.fns 141=some fm141) (e:List CExpr) (hl:e.length<2 ^ 30) (hf:∀ x∈e,NodeFit x) (hb:∀ x∈e,qqd x) :
  qcg L.pure (call L) 0 [3,8,9,10] [3] 0 qiw ⟨kt [3,8,9,10] [.int .i64 (-1),.list (e.map qaH) none,.int .i64 e.length,.int .i64 0],[]⟩=some (.normal,⟨kt [3] [.int .i64 (qcN e)],[]⟩):=by
 have hp:=hL.pure
 have hdE:=qa3 e
 have key:=qe1 (pure:=L.pure) (call:=call L) (b:=0) (keep:=[3,8,9,10]) (fk:=[3]) (id:=0) (body:=qiw) e (fun n x=>qgn n (qbL x))
  (fun n j=>⟨kt [3,8,9,10] [.int .i64 n,.list (e.map qaH) none,.int .i64 e.length,.int .i64 j],[]⟩)
  (fun n=>⟨kt [3] [.int .i64 n],[]⟩)
  (fun n j=>qgn n ((e.drop j).flatMap qbL)=qcN e) (-1) rfl ?_ ?_
 ·obtain⟨h1,h2⟩:=key
  rw[List.drop_length] at h1
  rw[show e.foldl (fun n x=>qgn n (qbL x)) (-1)=qcN e from h1] at h2
  exact h2
 ·intro j hj n hn
  obtain⟨h1,h2,h3⟩:=qbE qaH e hl j hj
  have hd:e.drop j=e[j]::e.drop (j+1):=List.drop_eq_getElem_cons hj
  refine⟨?_,by rw[← hn,hd,List.flatMap_cons,qnN]⟩
  have hx:=hf e[j] (List.getElem_mem hj)
  have hbx:=hb e[j] (List.getElem_mem hj)
  have hbi:=qti hL h141 e[j] hx.alts (by unfold qqd at hbx;omega)
  have hlb0:(qbL e[j]).length≤(e[j].binds++e[j].alts.flatMap (·.binds)).length:=by unfold qbL qbt;split<;>simp
  have hlb:(qbL e[j]).length<2 ^ 30:=by unfold qqd at hbx;omega
  have hl0:=qw7 (L:=L) (.list (e.map qaH) none) (by rw[qaa];exact hdE) e.length j (qbL e[j]) hlb n e[j]
  have hdI:=qar (qbL e[j])
  have hdX:=qaG e[j].alts
  clear hd hn hlb0
  generalize e[j]=x at *
  rw[qbB] at hbi
  generalize qbL x=l at *
  unfold qmU at hl0
  unfold qiw
  simp -implicitDefEqProofs only[qaq,qad,qae,qaf,qao,qab,qah,aOp,opd,qai,qa1,qav,qag,qaV,qbh,qco,qbg,qaE,qaj,qbC,qbG,leaf,qaw,qaT,qaL,qaS,qac,qay,qam,qaz,qaU,ren,renC,qa9,qbW,qca,qa8,qcj,qba,qbs,qaa,qal,qcd,qap,qak,Option.map_some,List.map_cons,List.map_nil,List.flatMap_cons,List.flatMap_nil,List.length_cons,List.length_nil,List.length_map,List.nil_append,List.append_nil,List.getElem?_cons_zero,List.set_cons_zero,List.take_succ_cons,List.take_zero,List.drop_succ_cons,List.drop_zero,List.take_nil,List.drop_nil,List.all_cons,List.all_nil,↓reduceIte,Bool.and_true,Bool.false_eq_true,decide_true,decide_false,and_self,Nat.le_refl,Nat.zero_le,Nat.zero_add,Nat.reduceEqDiff,Nat.reduceAdd,Int.toNat_natCast,Int.natCast_nonneg,qau,qaQ,qa4,qbB,qar,h1,h2,h3,hbi,hl0,hdE,hdI,hdX,List.length_map,qaJ L hp,hp]
 ·intro n hn
  have h0:=qbF e.length
  unfold qiw
  simp -implicitDefEqProofs only[qad,qae,qaf,qbl,qab,qah,aOp,opd,qai,qav,qag,qbh,qbg,qaj,gcE,qaS,qac,qay,qam,qaz,qaU,ren,renC,qbp,qbW,qca,qal,Option.getD_none,List.map_cons,List.map_nil,List.flatMap_cons,List.flatMap_nil,List.length_nil,List.append_nil,List.getElem?_nil,List.take_nil,↓reduceIte,Bool.false_eq_true,decide_false,Nat.le_refl,Nat.reduceEqDiff,qau,qaQ,h0,hdE]
theorem qw9 (hL:Plain L) (h141:L.fns 141=some fm141) (h291:L.fns 291=some fn291) (e:List CExpr) (hl:e.length<2 ^ 30) (hf:∀ x∈e,NodeFit x) (hb:∀ x∈e,qqd x) (h:Heap) :
  pcall L 291 [.list (e.map qaH) none] h=some (.val (.int .i64 (qcN e)),h):=by
 refine qbH hL h291 rfl ?_ h
 have h1:=qw8 hL h141 e hl hf hb
 have hdE:=qa3 e
 unfold fn291
 simp -implicitDefEqProofs only[qad,qae,qax,qab,qah,aOp,opd,qai,qan,qav,qag,qco,qaR,qas,qaB,qaI,qaL,qaS,qac,qay,qam,qaz,qaU,ren,renC,qbp,qbW,qca,qbA,qaa,qal,Option.getD_some,Option.getD_none,List.map_cons,List.map_nil,List.flatMap_cons,List.flatMap_nil,List.length_nil,List.length_map,List.append_nil,List.getElem?_nil,List.getElem?_cons_zero,List.take_nil,↓reduceIte,Bool.false_eq_true,decide_false,Nat.le_refl,reduceCtorEq,Nat.reduceEqDiff,Int.reduceNeg,qaD,h1,hdE,List.length_map]
end
def gnb (x:CExpr) (ks:AVal):AObj:=.box [.int .i64 x.op,.int .i64 x.n,.list (x.binds.map qaP) none,.list (x.kids.map qaP) none,.list (x.alts.map qaM) none,ks]
structure GJ (e:List CExpr) (i:Nat) (H:Heap) (ps:List Nat) (ow:Option (Option Nat)):Prop where
 len:ps.length=i
 owns:OwnT H ow i 1
 low:∀ p∈ps,p<H.length
 node:∀ k (hk:k<e.length) (hi:k<ps.length),∃ ok,H[ps[k]]? = some (gnb e[k] (.list ((e[k].kids.map fun q=>ps.getD q.toNat 0).map qbq) ok))
section
variable {L:Lib}
theorem quv {b:Nat} (E:AVal) (nx:Int) (i:Nat) (x:CExpr) (hk:x.kids.length<2 ^ 30) (ps:List Nat) (ow:Option (Option Nat)) (pn:Nat) (H:Heap)
  (hn:H[pn]? = some (gnb x (.list [] (some none)))) (hlook:∀ k∈x.kids,0≤k∧k.toNat<ps.length) :
  ∃ T,qcg L.pure (call L) b [1000000,3,6,9,10,11,19,20,21] [1000000,3,6,9,10,11] 2 qhp
   ⟨kt [3,6,9,10,11,19,20,21] [.list (ps.map qbq) ow,qbq pn,E,.int .i64 nx,.int .i64 i,.list (x.kids.map qaP) none,.int .i64 x.kids.length,.int .i64 0],H⟩=some (.normal,T) ∧
   ∃ H' ok,T=⟨kt [3,6,9,10,11] [.list (ps.map qbq) ow,qbq pn,E,.int .i64 nx,.int .i64 i],H'⟩∧H'[pn]? = some (gnb x (.list ((x.kids.map fun k=>ps.getD k.toNat 0).map qbq) ok)) ∧
    H.length≤H'.length∧∀ q,q<H.length→q≠pn→H'[q]? = H[q]? := by
 have hln:=hlt hn
 refine qc7 (pure:=L.pure) (call:=call L) (b:=b) (id:=2) (body:=qhp)
  (fun j s=>∃ H' ok,s=⟨kt [3,6,9,10,11,19,20,21] [.list (ps.map qbq) ow,qbq pn,E,.int .i64 nx,.int .i64 i,.list (x.kids.map qaP) none,.int .i64 x.kids.length,.int .i64 j],H'⟩ ∧
   H'[pn]? = some (gnb x (.list (((x.kids.take j).map fun k=>ps.getD k.toNat 0).map qbq) ok))∧OwnT H' ok j 1∧Young H.length ok∧H.length≤H'.length∧∀ q,q<H.length→q≠pn→H'[q]? = H[q]?) x.kids.length _ ?_ ?_ ?_
 ·intro j s hj hs
  obtain⟨H',ok,rfl,hnode,hown,hyo,hle,hkp⟩:=hs
  obtain⟨h1,h2,h3⟩:=qbE qaP x.kids hk j hj
  obtain⟨k0,k1⟩:=hlook x.kids[j] (List.getElem_mem hj)
  have htake:((x.kids.take (j+1)).map fun k=>ps.getD k.toNat 0).map qbq=((x.kids.take j).map fun k=>ps.getD k.toNat 0).map qbq++[qbq (ps.getD x.kids[j].toNat 0)]:=by
   rw[List.take_succ_eq_append_getElem hj,List.map_append,List.map_append];rfl
  have hlen:(((x.kids.take j).map fun k=>ps.getD k.toNat 0).map qbq).length=j:=by simp;omega
  have hall:=qme ((x.kids.take j).map fun k=>ps.getD k.toNat 0)
  have hlk:(ps.map qbq)[x.kids[j].toNat]? = some (qbq (ps.getD x.kids[j].toNat 0)):=by
   rw[List.getElem?_map,List.getD_eq_getElem?_getD,List.getElem?_eq_getElem k1]
   rfl
  simp only[htake]
  generalize hkj:x.kids[j]=k at *
  generalize ps.getD k.toNat 0=p at *
  generalize ((x.kids.take j).map fun k=>ps.getD k.toNat 0).map qbq=ks at *
  obtain⟨ok2,H2,ha,hA⟩:=qke H' 1 8 ks [qbq p] ok (some none) (by rw[hlen];exact hown) hall rfl (by rw[hlen,List.length_singleton];omega)
  rw[hlen,List.length_singleton] at hA
  have hn2:H2[pn]? = some (gnb x (.list ks ok)):=hA.other hnode (fun a b=>by intro e;cases e) hown
  have hl2:=hlt hn2
  have hln':=hlt hnode
  have hdX:=qaG x.alts
  obtain⟨r,hr0⟩:∃ r,qch L.pure (call L) b [1000000,3,6,9,10,11,19,20,21] [1000000,3,6,9,10,11] qhp ⟨kt [3,6,9,10,11,19,20,21] [.list (ps.map qbq) ow,qbq pn,E,.int .i64 nx,.int .i64 i,.list (x.kids.map qaP) none,.int .i64 x.kids.length,.int .i64 j],H'⟩=r:=⟨_,rfl⟩
  have hr:=hr0
  unfold qbq gnb at *
  unfold qhp at hr
  simp -implicitDefEqProofs only[qaq,qad,qa5,qae,qaf,qao,qab,qah,aOp,opd,qai,qa1,qav,qag,qaV,qbh,qbg,qaE,qaj,qaA,qaF,qbC,qaK,leaf,qaW,qbu,qdW,qaT,qaS,qac,qbz,qbo,qa7,qbx,qeX,List.map_cons,List.map_nil,List.length_cons,List.length_nil,List.cons_append,List.nil_append,List.append_nil,List.getElem?_cons_zero,List.getElem?_cons_succ,List.take_succ_cons,List.take_zero,List.drop_succ_cons,List.drop_zero,List.drop_nil,List.all_cons,List.all_nil,↓reduceIte,Bool.and_true,Bool.false_eq_true,decide_true,and_self,Nat.le_refl,Nat.zero_add,Nat.reduceEqDiff,Nat.reduceAdd,Int.toNat_natCast,Int.natCast_nonneg,qau,qaO,qa6,qaQ,qb0,h1,h2,h3,hkj,k0,hlk,hnode,ha,hn2,hdX] at hr
  subst hr
  refine⟨_,hr0,_,ok2,rfl,?_,?_,hA.young hle hyo,by rw[List.length_set];have:=hA.len;omega,?_⟩
  ·rw[hgs hl2]
  ·refine hA.owns.frame fun id hid=>hgn (fun e=>?_)
   subst e
   rcases hA.owns with h | ⟨t,h5,h6⟩
   ·rw[h] at hid;cases hid
   ·rw[h5] at hid
    injection hid with hid
    injection hid with hid
    subst hid
    rw[hn2] at h6
    cases h6
  ·intro q hq hqp
   rw[hgn (fun e=>hqp e.symm),hA.keep q (by omega) (hyo.ne hq)]
   exact hkp q hq hqp
 ·intro s hs
  obtain⟨H',ok,rfl,hnode,hown,hyo,hle,hkp⟩:=hs
  have h0:=qbF x.kids.length
  rw[List.take_length] at hnode
  refine⟨_,?_,H',ok,rfl,hnode,hle,hkp⟩
  unfold qhp
  simp -implicitDefEqProofs only[qad,qae,qaf,qbl,qab,qah,aOp,opd,qai,qav,qag,qbh,qbg,qaj,gcE,qaS,qac,List.map_cons,List.map_nil,List.drop_succ_cons,List.drop_zero,↓reduceIte,Bool.false_eq_true,decide_true,decide_false,Nat.reduceEqDiff,qau,h0]
 ·exact⟨H,some none,rfl,hn,.inl rfl,.inl rfl,Nat.le_refl _,fun _ _ _=>rfl⟩
theorem quw {b:Nat} (e:List CExpr) (hl:e.length<2 ^ 30) (hf:∀ x∈e,NodeFit x) (hA:qhJ e) :
  ∃ T,qcg L.pure (call L) b [1000000,3,9,10,11] [1000000,3] 0 qhq ⟨kt [3,9,10,11] [.list [] (some none),.list (e.map qaH) none,.int .i64 e.length,.int .i64 0],[]⟩=some (.normal,T) ∧
   ∃ H ps ow,T=⟨kt [3] [.list (ps.map qbq) ow],H⟩∧GJ e e.length H ps ow:=by
 refine qc7 (pure:=L.pure) (call:=call L) (b:=b) (id:=0) (body:=qhq)
  (fun i s=>∃ H ps ow,s=⟨kt [3,9,10,11] [.list (ps.map qbq) ow,.list (e.map qaH) none,.int .i64 e.length,.int .i64 i],H⟩∧GJ e i H ps ow) e.length _ ?_ ?_ ?_
 ·intro i s hi hs
  obtain⟨H,ps,ow,rfl,hO⟩:=hs
  obtain⟨h1,h2,h3⟩:=qbE qaH e hl i hi
  have hx:=hf e[i] (List.getElem_mem hi)
  have hlen:=hO.len
  have hlow:=hO.low
  have hlook:∀ k∈e[i].kids,0≤k∧k.toNat<ps.length:=by
   intro k hk
   have:=hA i hi k hk
   exact⟨this.1,by omega⟩
  have hnode:=hO.node
  have hn3:(H++[qmU e[i] (.list (e[i].kids.map qaP) none)]++[gnb e[i] (.list [] (some none))])[H.length+1]? = some (gnb e[i] (.list [] (some none))):=by
   rw[List.getElem?_append_right (by simp)];simp
  obtain⟨T1,g1,H3,ok,rfl,hn4,hl4,hk4⟩:=quv (L:=L) (b:=H.length+2) (.list (e.map qaH) none) e.length i e[i] hx.kids ps ow (H.length+1) _ hn3 hlook
  have hl4':H.length+2≤H3.length:=by simpa using hl4
  have hk4':∀ q,q<H.length→H3[q]? = H[q]? := fun q hq=>by rw[hk4 q (by simp;omega) (by omega),List.append_assoc,hga hq]
  have hown5:OwnT H3 ow (ps.map qbq).length 1:=by
   rw[List.length_map,hlen]
   refine hO.owns.frame fun id hid=>?_
   have:id<H.length:=by
    rcases hO.owns with h | ⟨t,h5,h6⟩
    ·rw[h] at hid;cases hid
    ·rw[h5] at hid
     injection hid with hid
     injection hid with hid
     subst hid
     exact hlt h6
   rw[hk4' id this]
  obtain⟨ow2,H5,ha6,hA6⟩:=qke H3 1 8 (ps.map qbq) [qbq (H.length+1)] ow (some none) hown5 (qme ps) rfl (by rw[List.length_map,List.length_singleton];omega)
  have hl6:=hA6.len
  have hn6:H5[H.length+1]? = some (gnb e[i] (.list ((e[i].kids.map fun k=>ps.getD k.toNat 0).map qbq) ok)):=hA6.other hn4 (fun a b=>by intro e;cases e) hown5
  have hold:∀ q o,q<H.length→H[q]? = some o→(∀ a b,o≠.tail a b)→H5[q]? = some o:=fun q o hq ho hn=>hA6.other (by rw[hk4' q hq];exact ho) hn hown5
  have hsnoc:(ps++[H.length+1]).map qbq=ps.map qbq++[qbq (H.length+1)]:=by rw[List.map_append];rfl
  have hO':GJ e (i+1) H5 (ps++[H.length+1]) ow2:=by
   refine⟨by simp[hlen],?_,?_,?_⟩
   ·have:=hA6.owns
    rw[List.length_map,hlen,List.length_singleton] at this
    exact this
   ·intro p hp
    rcases List.mem_append.1 hp with hp | hp
    ·have:=hlow p hp
     omega
    ·rw[List.mem_singleton.1 hp]
     exact hlt hn6
   ·intro k hk hkl
    rw[List.length_append,List.length_singleton] at hkl
    by_cases hki:k<i
    ·have hkp:k<ps.length:=by omega
     obtain⟨ok',n1⟩:=hnode k hk hkp
     refine⟨ok',?_⟩
     rw[List.getElem_append_left hkp]
     have hlp:=hlow ps[k] (List.getElem_mem _)
     rw[hold _ _ hlp n1 (fun a b=>by intro e;cases e),qpR ps _ _ (fun q hq=>by have:=hA k hk q hq;omega)]
    ·have:k=i:=by omega
     subst this
     refine⟨ok,?_⟩
     rw[List.getElem_append_right (by omega)]
     simp only[hlen,Nat.sub_self,List.getElem_cons_zero]
     rw[hn6,qpR ps _ _ (fun q hq=>(hlook q hq).2)]
  obtain⟨r,hr0⟩:∃ r,qch L.pure (call L) b [1000000,3,9,10,11] [1000000,3] qhq ⟨kt [3,9,10,11] [.list (ps.map qbq) ow,.list (e.map qaH) none,.int .i64 e.length,.int .i64 i],H⟩=r:=⟨_,rfl⟩
  have hr:=hr0
  have hdX:=qaG e[i].alts
  simp only[List.append_assoc,List.cons_append,List.nil_append] at g1
  rw[← hsnoc] at ha6
  generalize e[i]=x at *
  unfold qbq gnb qmU at *
  unfold qhq at hr
  simp -implicitDefEqProofs only[qaq,qad,qae,qaf,qao,qab,qah,aOp,opd,qai,qa1,qav,qag,qaV,qbh,qco,qbg,qaE,qaj,qaF,qbC,qbG,qaK,qeA,qfb,leaf,qaw,qdW,qaT,qaL,qaS,qac,qeX,Option.map_some,List.map_cons,List.map_nil,List.length_cons,List.length_nil,List.length_append,List.length_map,List.cons_append,List.nil_append,List.append_nil,List.append_assoc,List.getElem?_cons_zero,List.getElem?_cons_succ,List.take_succ_cons,List.take_zero,List.drop_succ_cons,List.drop_zero,List.take_nil,List.drop_nil,List.all_cons,List.all_nil,↓reduceIte,Bool.and_true,Bool.false_eq_true,decide_true,and_self,Nat.le_refl,Nat.zero_add,Nat.reduceEqDiff,Nat.reduceAdd,Nat.reduceLeDiff,Int.toNat_natCast,Int.natCast_nonneg,qau,List.map_append,qaQ,qbB,h1,h2,h3,ha6,hgl,hsl,hga,g1,hdX,List.singleton_append] at hr
  subst hr
  exact⟨_,hr0,_,_,ow2,by simp only[List.map_append,List.map_cons,List.map_nil],hO'⟩
 ·intro s hs
  obtain⟨H,ps,ow,rfl,hO⟩:=hs
  have h0:=qbF e.length
  refine⟨_,?_,H,ps,ow,rfl,hO⟩
  unfold qhq
  simp -implicitDefEqProofs only[qad,qae,qaf,qbl,qab,qah,aOp,opd,qai,qav,qag,qbh,qbg,qaj,gcE,qaS,qac,List.map_cons,List.map_nil,List.drop_succ_cons,List.drop_zero,↓reduceIte,Bool.false_eq_true,decide_true,decide_false,Nat.reduceEqDiff,qau,h0]
 ·exact⟨[],[],some none,rfl,⟨rfl,.inl rfl,fun p hp=>(by cases hp),fun k _ hk=>absurd hk (by simp)⟩⟩
end
inductive WN (H:Heap):CNode→Nat→Prop
 | mk (op n:Int) (binds xk:List Int) (kids:List CNode) (alts:List CAlt) (p:Nat) (ps:List Nat) (ok:Option (Option Nat))
   (hbox:H[p]? = some (.box [.int .i64 op,.int .i64 n,.list (binds.map qaP) none,.list (xk.map qaP) none,.list (alts.map qaM) none,.list (ps.map qbq) ok]))
   (hl:ps.length=kids.length) (hk:∀ (i:Nat) (hi:i<kids.length),WN H kids[i] (ps[i]'(by omega))):WN H (.mk op n binds xk kids alts) p
theorem WN.view {H:Heap} {t:CNode} {p:Nat} (h:WN H t p):∀ n,2*hgt (qaY t)+2≤n→qbV H n (qbq p)=qcc t:=by
 induction h with
 | mk op n binds xk kids alts p ps ok hbox hl hk ih =>
   intro m hm
   rw[qfY,hgt] at hm
   obtain⟨q,rfl⟩:∃ q,m=q+1+1+1:=⟨m-3,by omega⟩
   unfold qbq
   rw[qbV,if_neg (by simp[qa2])]
   unfold qeW
   dsimp only
   rw[hbox]
   dsimp only
   have hlf:([.int .i64 op,.int .i64 n,.list (binds.map qaP) none,.list (xk.map qaP) none,.list (alts.map qaM) none,.list (ps.map qbq) ok]:List AVal).all leaf=true:=rfl
   rw[if_pos hlf]
   simp only[List.map_cons,List.map_nil]
   rw[qcH (v:=.int .i64 op) rfl,qcH (v:=.int .i64 n) rfl,qer H _ (qar binds),qer H _ (qar xk),qer H _ (qaG alts),qd0]
   have hkids:qbV H (q+1+1) (.list (ps.map qbq) ok)=.list (kids.map qcc) none:=by
    have hmap:(ps.map qbq).map (qbV H (q+1))=kids.map qcc:=by
     refine List.ext_getElem (by simp[hl]) fun i h1 h2=>?_
     have hi:i<kids.length:=by simpa using h2
     rw[List.getElem_map,List.getElem_map,List.getElem_map]
     refine ih i hi _ ?_
     have hmem:qaY kids[i]∈kids.map qaY:=List.mem_map_of_mem (List.getElem_mem hi)
     have:=qiA hmem
     have:0<hgt (qaY kids[i]):=by generalize qaY kids[i]=t';cases t';rw[hgt];omega
     omega
    cases hps:ps with
    | nil =>
      have hk0:kids=[]:=List.length_eq_zero_iff.1 (by rw[← hl,hps];rfl)
      subst hk0
      exact qer H _ rfl ok
    | cons p0 ps' =>
      rw[hps] at hmap
      have hnd:qaZ ((p0::ps').map qbq)=false:=by rw[List.map_cons,qaZ];simp[qbq,qa2]
      rw[qbV,if_neg (qmD (by rw[hnd];simp) ok)]
      generalize hW:(p0::ps').map qbq=W at hmap hnd
      show (if qaZ W=true then AVal.list W none else if (W.map fun x=>(acells (qbV H (q+1) x)).length)=W.map fun x=>(acells x).length then AVal.list (W.map (qbV H (q+1))) none else .junk)=_
      rw[if_neg (by rw[hnd];simp),if_pos,hmap]
      have e1:(W.map fun x=>(acells (qbV H (q+1) x)).length)=(W.map (qbV H (q+1))).map fun y=>(acells y).length:=by rw[List.map_map];rfl
      rw[e1,hmap,← hW,List.map_map,List.map_map]
      have:(kids.map ((fun y=>(acells y).length) ∘ qcc))=kids.map fun _=>1:=List.map_congr_left fun t _=>by
       show (acells (qcc t)).length=1
       rw[qoz];rfl
      have h2:((p0::ps').map ((fun x=>(acells x).length) ∘ qbq))=(p0::ps').map fun _=>1:=rfl
      rw[this,h2,List.map_const',List.map_const',← hl,hps]
   rw[hkids]
   rfl
theorem GJ.wn {e:List CExpr} {H:Heap} {ps:List Nat} {ow:Option (Option Nat)} (h:GJ e e.length H ps ow) (hA:qhJ e):∀ (i:Nat) (hi:i<e.length),∃ t,WN H t (ps.getD i 0)∧qaY t=qeM e i:=by
 intro i
 induction i using Nat.strongRecOn with
 | _ i ih =>
 intro hi
 have hlen:=h.len
 obtain⟨ok,n1⟩:=h.node i hi (by omega)
 have hg:ps.getD i 0=ps[i]'(by omega):=by rw[List.getD_eq_getElem?_getD,List.getElem?_eq_getElem (by omega)];rfl
 have hkids:∃ ts:List CNode,ts.length=e[i].kids.length∧(∀ (j:Nat) (hj:j<ts.length),WN H ts[j] (((e[i].kids.map fun q=>ps.getD q.toNat 0)[j]?).getD 0))∧ts.map qaY=e[i].kids.map fun k=>qeM e k.toNat:=by
  have ha:=hA i hi
  generalize e[i].kids=ks at ha
  clear n1
  induction ks with
  | nil=>exact⟨[],rfl,fun j hj=>absurd hj (by simp),rfl⟩
  | cons k ks ihk =>
    have hk:=ha k List.mem_cons_self
    obtain⟨t,t1,t2⟩:=ih k.toNat (by omega) (by omega)
    obtain⟨ts,s1,s2,s3⟩:=ihk fun q hq=>ha q (List.mem_cons_of_mem _ hq)
    refine⟨t::ts,by simp[s1],fun j hj=>?_,by rw[List.map_cons,List.map_cons,t2,s3]⟩
    cases j with
    | zero=>exact t1
    | succ j=>exact s2 j (by simpa using hj)
 obtain⟨ts,s1,s2,s3⟩:=hkids
 refine⟨.mk e[i].op e[i].n e[i].binds e[i].kids ts e[i].alts,?_,by rw[qfY,qfZ e hA i hi,s3]⟩
 rw[hg]
 refine .mk _ _ _ _ _ _ _ (e[i].kids.map fun q:Int=>ps.getD q.toNat 0) ok n1 (by simp[s1]) fun j hj=>?_
 have:=s2 j hj
 rw[List.getElem?_eq_getElem (by simp;omega)] at this
 exact this
section
variable {L:Lib}
theorem qux (hL:Plain L) (h292:L.fns 292=some fn292) (e:List CExpr) (hl:e.length<2 ^ 30) (hp:0<e.length) (hf:∀ x∈e,NodeFit x) (hA:qhJ e) (hh:hgt (qb2 e)≤900) (h:Heap) :
  ∃ t:CNode,qaY t=qb2 e∧∀ h:Heap,pcall L 292 [.list (e.map qaH) none] h=some (.val (qcc t),h):=by
 obtain⟨T,ht,H,ps,ow,rfl,hO⟩:=quw (L:=L) (b:=0) e hl hf hA
 obtain⟨t,w1,w2⟩:=hO.wn hA (e.length-1) (by omega)
 rw[← qjW] at w2
 refine⟨t,w2,fun h=>?_⟩
 have hlen:=hO.len
 have hget:(ps.map qbq)[e.length-1]? = some (qbq (ps.getD (e.length-1) 0)):=by
  rw[List.getElem?_map,List.getD_eq_getElem?_getD,List.getElem?_eq_getElem (by omega)]
  rfl
 have hv:=w1.view 2000 (by rw[w2];omega)
 have w:IntKind.i64.wrap ((e.length:Int)-1)=((e.length-1:Nat):Int):=by rw[qd3 (by omega) (by omega)];omega
 have hc:call L 292 [.list (e.map qaH) none] []=some (.val (qbq (ps.getD (e.length-1) 0)),H):=by
  generalize ps.getD (e.length-1) 0=p at *
  refine qd6 (hL.summ 292 (by rw[h292];simp)) h292 ?_
  have hlp:(ps.map qbq).length=e.length:=by rw[List.length_map,hlen]
  unfold fn292
  unfold qbq at *
  simp -implicitDefEqProofs only[qad,qae,qax,qab,qah,aOp,opd,qai,qan,qav,qag,qbh,qco,qbg,qaE,qaj,qaF,qdW,qaR,qas,qaB,qaI,qaL,qaS,qac,Option.getD_some,List.map_cons,List.map_nil,List.length_cons,List.length_nil,List.length_map,List.getElem?_cons_zero,List.drop_succ_cons,List.drop_zero,↓reduceIte,Bool.false_eq_true,decide_true,reduceCtorEq,Nat.zero_add,Nat.reduceEqDiff,Int.toNat_natCast,Int.natCast_nonneg,ht,hget,w,hlp]
 refine qdz hc ?_ (qe7 t) h
 unfold qgB
 rw[if_neg (by simp[wipeR,wipe,wipeCell,qa2,qbq])]
 rw[show viewV H (qbq (ps.getD (e.length-1) 0))=qcc t from hv,qq2]
end
def arF (e:List CExpr) (t:CTree):List CExpr × Bool :=
 if qbi e=0∧e.length≤1500∧qcN e+9<1048576 then (qbU t,qbi (qbU t)==0) else ([],false)
theorem qw6 {e:List CExpr} (hz:qbi e=0):qcN e≤1048576:=by
 obtain⟨_,_,_,hlab,_⟩:=qcG hz
 refine qp2 _ _ _ (by decide) fun x hx=>?_
 obtain⟨y,hy,hxy⟩:=List.mem_flatMap.1 hx
 have hr:=(qht (hlab y hy)).2
 unfold qgD at hr
 dsimp only at hr
 unfold qcP at hr
 have hb:y.binds.any qeS=false:=by
  cases h:y.binds.any qeS with
  | false=>rfl
  | true =>
    exfalso
    rw[if_pos h] at hr
    split at hr<;>exact absurd hr (by decide)
 have ha:y.alts.any (qcZ y.op)=false:=by
  cases h:y.alts.any (qcZ y.op) with
  | false=>rfl
  | true =>
    exfalso
    rw[if_neg (c:=y.binds.any qeS=true) (by rw[hb];decide),if_pos h] at hr
    split at hr<;>exact absurd hr (by decide)
 have h1:∀ z∈y.binds,z≤1048576:=by
  intro z hz
  have:=List.any_eq_false.1 hb z hz
  unfold qeS at this
  simp at this
  omega
 have h2:∀ z∈y.alts.flatMap (·.binds),z≤1048576:=by
  intro z hz
  obtain⟨a,haa,hza⟩:=List.mem_flatMap.1 hz
  have h3:=List.any_eq_false.1 ha a haa
  unfold qcZ at h3
  simp only[Bool.or_eq_true,not_or] at h3
  have h4:a.binds.any qeS=false:=by simpa using h3.2
  have:=List.any_eq_false.1 h4 z hza
  unfold qeS at this
  simp at this
  omega
 unfold qbL qbt at hxy
 rcases List.mem_append.1 hxy with h | h
 ·split at h
  ·exact h1 x h
  ·cases h
 ·exact h2 x h
theorem qrl (l:List CExpr) (b:Bool):qa2 (.tuple [.list (l.map qaH) none,.bool b])=true:=by
 simp only[qfs,qak,qap,qaa,qa3,qbI,Bool.and_true]
section
variable {L:Lib} (hC:CLib2 L)
include hC
theorem qyN (h153:L.fns 153=some fn153) (n:Int) (h:Heap):pcall L 153 [.int .i64 n] h=some (.val (qcc (nN 1 n [])),h):=by
 have hL:=hC.plain
 have hp:=hL.pure
 have hn:=qyy hC 1 n []
 refine qbH hL h153 (qe7 _) ?_ h
 obtain⟨tc,htc,hdt⟩:=qd8 (nN 1 n [])
 rw[htc] at hn ⊢
 simp only[List.map_nil] at hn
 unfold fn153
 simp -implicitDefEqProofs only[qad,qae,qax,qab,qah,aOp,opd,qai,qan,qaR,qas,qaB,qaI,qbc,qby,qaa,qal,qap,qak,Option.getD_some,List.map_cons,List.map_nil,List.getElem?_cons_zero,↓reduceIte,Bool.and_true,and_self,reduceCtorEq,qa4,qaD,hn,hdt,qdE,qaJ L hp,hp]
end
theorem qsM (t:CTree):BGt t→∀ (t':CTree) (m:IM Int),(qh5 t t' m).1=true→qbR t=qbR t':=by
 induction t using CTree.ind with
 | h op n binds kids alts ih =>
   intro hb t' m h
   obtain⟨op',n',binds',kids',alts'⟩:=t'
   rw[qh5] at h
   by_cases h1:op≠op'∨kids.length≠kids'.length∨binds.length≠binds'.length∨alts.length≠alts'.length
   ·rw[if_pos h1] at h;cases h
   rw[if_neg h1] at h
   have hkl:kids.length=kids'.length:=Classical.not_not.1 fun h=>h1 (.inr (.inl h))
   cases hb with
   | mk _ _ _ _ _ b1 b2 b3 =>
   by_cases h0:op=0
   ·have hk:kids=[]:=(b2 h0).1
    rw[hk] at hkl
    have hk':kids'=[]:=List.length_eq_zero_iff.1 (by rw[← hkl];rfl)
    rw[qbR,qbR,hk,hk']
   rw[if_neg h0] at h
   split at h
   ·cases h
   split at h
   ·cases h
   rw[qbR,qbR]
   have key:∀ (ks ks':List CTree) (m:IM Int),(∀ k∈ks,k∈kids)→ks.length=ks'.length→(qeF ks ks' m).1=true→qbd ks=qbd ks':=by
    intro ks
    induction ks with
    | nil =>
      intro ks' m _ hl _
      have:ks'=[]:=List.length_eq_zero_iff.1 (by rw[← hl];rfl)
      rw[this]
    | cons k ks ihk =>
      intro ks' m hs hl h
      cases ks' with
      | nil=>simp at hl
      | cons k' ks' =>
        rw[qeF] at h
        cases he:qh5 k k' m with
        | mk b m1 =>
          rw[he] at h
          cases b with
          | false=>cases h
          | true =>
            rw[qbd,qbd,ih k (hs k List.mem_cons_self) (b3 k (hs k List.mem_cons_self)) k' m (by rw[he]),ihk ks' m1 (fun q hq=>hs q (List.mem_cons_of_mem _ hq)) (by simpa using hl) h]
   rw[key kids kids' _ (fun _ h=>h) hkl h]
def qft (e f:List CExpr):Int:=if qbi e=0 then (if qbi f=0 then (if qfW (qbU (qb2 e)) f=true then 0 else 14) else qbi f) else qbi e
theorem qn9 {e f:List CExpr} (hz:qbi e=0):qfW (qbU (qb2 e)) f=qfW e f:=by
 unfold qfW
 rw[qqr hz,hz,qe0]
theorem quC {e f:List CExpr} (hz:qbi e=0) (hl:qbR (qb2 f)≠qbR (qb2 e)):qfW e f=false:=by
 cases h:qfW e f with
 | false=>rfl
 | true =>
   unfold qfW at h
   simp only[Bool.and_eq_true] at h
   exact absurd (qsM _ (qpr _ (qvj hz).lab) _ _ h.2).symm hl
section
variable {L:Lib} (hC:CLib2 L)
include hC
theorem qkY (h160:L.fns 160=some fm160) (h279:L.fns 279=some fn279) (e f:List CExpr) (hl:e.length<2 ^ 30) (hf:∀ x∈e,NodeFit x) (hl2:f.length<2 ^ 30) (hf2:∀ x∈f,NodeFit x) (h:Heap) :
  pcall L 279 [.list (e.map qaH) none,.list (f.map qaH) none,.list [] none] h=some (.val (.int .i64 (qft e f)),h):=by
 have hL:=hC.plain
 have hp:=hL.pure
 have hdE:=qa3 e
 have hdF:=qa3 f
 have hck:=qfp hC.toCLib e hl hf
 have hck2:=qfp hC.toCLib f hl2 hf2
 refine qbH hL h279 rfl ?_ h
 unfold qft
 by_cases hz:qbi e=0
 case neg =>
  have hne:(qbi e==0)=false:=by simpa using hz
  rw[if_neg hz]
  generalize qbi e=r at *
  unfold fn279
  simp -implicitDefEqProofs only[qad,qae,qaf,qax,qab,qah,aOp,opd,qai,qan,qag,qbh,qbg,qaj,qaR,qas,qaB,qaI,qbc,qbA,qaa,qap,qak,Option.getD_some,List.map_cons,List.map_nil,List.getElem?_cons_zero,↓reduceIte,Bool.and_true,Bool.not_false,Bool.false_eq_true,and_self,reduceCtorEq,Nat.reduceEqDiff,qa4,qaD,hck,hne,hdE,hdF,bne,qaJ L hp,hp]
 rw[if_pos hz]
 rw[hz] at hck
 by_cases hz2:qbi f=0
 case neg =>
  have hne:(qbi f==0)=false:=by simpa using hz2
  rw[if_neg hz2]
  generalize qbi f=r at *
  unfold fn279
  simp -implicitDefEqProofs only[qaq,qad,qae,qaf,qax,qab,qah,aOp,opd,qai,qan,qag,qbh,qbg,qaj,qaR,qas,qaB,qaI,qbc,qbA,qaa,qap,qak,beq_self_eq_true,Option.getD_some,List.map_cons,List.map_nil,List.getElem?_cons_zero,List.getElem?_cons_succ,↓reduceIte,Bool.and_true,Bool.not_true,Bool.not_false,Bool.false_eq_true,and_self,reduceCtorEq,Nat.reduceEqDiff,qa4,qaD,hck,hck2,hne,hdE,hdF,bne,qaJ L hp,hp]
 rw[if_pos hz2]
 rw[hz2] at hck2
 obtain⟨hT,hn4,hh,hlab,_⟩:=qcG hz
 obtain⟨hft,hsz⟩:=qfF hz hf
 have hgr:=hC.grow e
 have hgr:=fun h=>hgr h hl hf hT (by omega)
 have hli:=hC.list (qb2 e) hft (by omega)
 have hsm:=qqT hC (qbU (qb2 e)) f (by unfold qbU;rw[qdN];omega) (qiH _ 0 hft) hl2 hf2
 have hdG:=qa3 (qbU (qb2 e))
 obtain⟨tc,htc,hdt⟩:=qc0 (qb2 e)
 rw[htc] at hgr hli
 have hl0:∀ G:List CExpr,qcg L.pure (call L) 0 [0,1,29,30,31] [0,1,6] 0 qmq ⟨kt [0,1,29,30,31] [.list (G.map qaH) none,.list (f.map qaH) none,.list [] none,.int .i64 0,.int .i64 ((0:Nat):Int)],[]⟩ =
   some (.normal,⟨kt [0,1,6] [.list (G.map qaH) none,.list (f.map qaH) none,.junk],[]⟩):=by
  intro G
  have hdG:=qa3 G
  refine qgm (fun i=>⟨kt [0,1,29,30,31] [.list (G.map qaH) none,.list (f.map qaH) none,.list [] none,.int .i64 0,.int .i64 (i:Int)],[]⟩) 0 (fun i hi=>absurd hi (by omega)) ?_
  unfold qmq
  simp -implicitDefEqProofs only[qad,qae,qaf,qbl,qab,qah,aOp,opd,qai,qav,qag,qbh,qbg,qaj,gcE,qaS,qac,qay,qam,qaz,qaU,ren,renC,qbp,qbW,qca,qaa,qb1,Option.getD_none,List.map_cons,List.map_nil,List.flatMap_cons,List.flatMap_nil,List.length_nil,List.append_nil,List.getElem?_nil,List.take_nil,↓reduceIte,Bool.false_eq_true,decide_false,Nat.le_refl,reduceCtorEq,Nat.reduceEqDiff,Int.reduceLT,qau,qaQ,Int.cast_ofNat_Int,hdG,hdF,Int.natCast_zero]
 simp only[Int.natCast_zero] at hl0
 cases hb:qfW (qbU (qb2 e)) f with
 | true =>
   rw[hb] at hsm
   rw[if_pos rfl]
   generalize qbU (qb2 e)=G at *
   unfold fn279
   simp -implicitDefEqProofs only[qaq,qad,qae,qaf,qax,qab,qah,aOp,opd,qai,qan,qav,qag,qbh,qco,qbg,aUn,qaj,qaR,qas,qaB,qaI,qaL,qaS,qac,qay,qam,qaz,qaU,ren,renC,qbp,qbW,qca,qbc,qbA,qbS,qaa,qal,qaN,qap,qak,beq_self_eq_true,Option.getD_some,Option.getD_none,List.map_cons,List.map_nil,List.flatMap_cons,List.flatMap_nil,List.length_nil,List.append_nil,List.getElem?_nil,List.getElem?_cons_zero,List.getElem?_cons_succ,List.take_nil,↓reduceIte,Bool.and_true,Bool.not_true,Bool.false_eq_true,decide_false,and_self,Nat.le_refl,reduceCtorEq,Nat.reduceEqDiff,Int.reduceLT,Int.cast_ofNat_Int,gt_iff_lt,qa4,qaD,hck,hck2,hgr,hli,hl0,hsm,hdE,hdF,hdG,hdt,bne,qdE,qaJ L hp,hp]
 | false =>
   rw[hb] at hsm
   rw[if_neg (by decide)]
   generalize qbU (qb2 e)=G at *
   unfold fn279
   simp -implicitDefEqProofs only[qaq,qad,qae,qaf,qax,qab,qah,aOp,opd,qai,qan,qav,qag,qbh,qco,qbg,aUn,qaj,qaR,qas,qaB,qaI,qaL,qaS,qac,qay,qam,qaz,qaU,ren,renC,qbp,qbW,qca,qbc,qbA,qbS,qaa,qal,qaN,qap,qak,beq_self_eq_true,Option.getD_some,Option.getD_none,List.map_cons,List.map_nil,List.flatMap_cons,List.flatMap_nil,List.length_nil,List.append_nil,List.getElem?_nil,List.getElem?_cons_zero,List.getElem?_cons_succ,List.take_nil,↓reduceIte,Bool.and_true,Bool.not_true,Bool.not_false,Bool.false_eq_true,decide_false,and_self,Nat.le_refl,reduceCtorEq,Nat.reduceEqDiff,Int.reduceLT,Int.cast_ofNat_Int,gt_iff_lt,qa4,qaD,hck,hck2,hgr,hli,hl0,hsm,hdE,hdF,hdG,hdt,bne,qdE,qaJ L hp,hp]
end
section
variable {L:Lib} (hC:CLib2 L)
include hC
theorem qsI (h153:L.fns 153=some fn153) (h281:L.fns 281=some fn281) (t:CNode) (id:Int) (h:Heap) :
  pcall L 281 [qcc t,.int .i64 id] h=some (.val (qcc (nB_ 4 [id] [nN 1 1 [],t])),h):=by
 have hL:=hC.plain
 have hp:=hL.pure
 have hw:=qyN hC h153 1
 have hn:=qyx hC 4 [id] [nN 1 1 [],t]
 refine qbH hL h281 (qe7 _) ?_ h
 obtain⟨tc,htc,hdt⟩:=qd8 (nB_ 4 [id] [nN 1 1 [],t])
 obtain⟨tc1,htc1,hdt1⟩:=qd8 (nN 1 1 [])
 obtain⟨tc2,htc2,hdt2⟩:=qd8 t
 rw[htc] at hn ⊢
 rw[htc1] at hw
 simp only[List.map_cons,List.map_nil,htc1,htc2,qb0] at hn ⊢
 unfold fn281
 simp -implicitDefEqProofs only[qad,qae,qax,qab,qah,aOp,opd,qai,qan,leaf,qaW,qdm,qaR,qas,qaB,qaI,qbc,qby,qbS,qaa,qal,qaN,qap,qak,Option.getD_some,List.map_cons,List.map_nil,List.length_cons,List.length_nil,List.getElem?_cons_zero,List.getElem?_cons_succ,List.all_cons,List.all_nil,↓reduceIte,Bool.and_true,decide_true,and_self,reduceCtorEq,Nat.zero_add,Nat.reduceEqDiff,qa4,qaD,hw,hn,hdt,hdt1,hdt2,qdE,qaJ L hp,hp]
theorem qqi (h141:L.fns 141=some fm141) (h280:L.fns 280=some fn280) (h291:L.fns 291=some fn291) (h292:L.fns 292=some fn292) (k:Nat) (mk:CNode→Int→CNode)
  (hmk:∀ t id h,pcall L k [qcc t,.int .i64 id] h=some (.val (qcc (mk t id)),h)) (hfit:∀ t id,TFit (qaY t)→qbR (qaY t)≤4096→TFit (qaY (mk t id))∧qbR (qaY (mk t id))<2 ^ 20)
  (e:List CExpr) (hl:e.length<2 ^ 30) (hf:∀ x∈e,NodeFit x) :
  ∃ t,(qbi e=0→qaY t=qb2 e)∧∀ h,pcall L 280 [.list (e.map qaH) none,.func k [] []] h=some (.val (.tuple [.list ((arF e (qaY (mk t (qcN e+1)))).1.map qaH) none,.bool (arF e (qaY (mk t (qcN e+1)))).2]),h):=by
 have hL:=hC.plain
 have hp:=hL.pure
 have hdE:=qa3 e
 have hck:=qfp hC.toCLib e hl hf
 by_cases hz:qbi e=0
 case neg =>
  refine⟨.mk 0 0 [] [] [] [],fun h=>absurd h hz,fun h=>?_⟩
  refine qbH hL h280 (qrl _ _) ?_ h
  have hne:(qbi e==0)=false:=by simpa using hz
  unfold arF
  rw[if_neg (fun h=>hz h.1)]
  generalize qbi e=r at *
  unfold fn280
  simp -implicitDefEqProofs only[qad,qae,qaf,qax,qab,qaC,qah,aOp,opd,qai,qan,qag,qbh,qbg,qaj,qaA,qaR,qas,qaB,qaI,qbc,qg6,qc4,qaa,qap,qak,qdj,Option.getD_some,List.map_cons,List.map_nil,List.getElem?_cons_zero,↓reduceIte,Bool.and_true,Bool.not_false,Bool.false_eq_true,and_self,reduceCtorEq,Nat.reduceEqDiff,qa4,qaD,hck,hne,hdE,bne,qaJ L hp,hp,List.map_nil]
 obtain⟨hT,hn4,hh,hlab,_⟩:=qcG hz
 obtain⟨hft,hsz⟩:=qfF hz hf
 have hbf:=qpV hT hn4 hlab
 obtain⟨t,ht,hg⟩:=qux hL h292 e hl hT.pos hf hT.ahead (by omega) []
 have hmo:=qw9 hL h141 h291 e hl hf hbf
 refine⟨t,fun _=>ht,fun h=>?_⟩
 have hb1:=qw6 hz
 have hb2:=qus e
 obtain⟨f1,f2⟩:=hfit t (qcN e+1) (by rw[ht];exact hft) (by rw[ht,hsz];exact hn4)
 have hm:=hmk t (qcN e+1)
 have hli:=quy hC (mk t (qcN e+1)) (by omega)
 have hc2:=qfp hC.toCLib (qbU (qaY (mk t (qcN e+1)))) (by unfold qbU;rw[qdN];omega) (qiH _ 0 f1)
 have hdF:=qa3 (qbU (qaY (mk t (qcN e+1))))
 have w9:IntKind.i64.wrap (qcN e+9)=qcN e+9:=qd3 (by omega) (by omega)
 have w1:IntKind.i64.wrap (qcN e+1)=qcN e+1:=qd3 (by omega) (by omega)
 refine qbH hL h280 (qrl _ _) ?_ h
 rw[hz] at hck
 obtain⟨tc,htc,hdt⟩:=qd8 t
 obtain⟨tc2,htc2,hdt2⟩:=qd8 (mk t (qcN e+1))
 rw[htc] at hg hm
 rw[htc2] at hm hli
 unfold arF
 rw[hz]
 by_cases h1:e.length≤1500
 ·have b1:((e.length:Int) > 1500)=False:=by simp;omega
  by_cases h2:qcN e+9<1048576
  ·have b2:(qcN e+9≥1048576)=False:=by simp;omega
   rw[if_pos ⟨rfl,h1,h2⟩]
   generalize qbU (qaY (mk t (qcN e+1)))=F at *
   generalize qcN e=m at *
   unfold fn280
   simp -implicitDefEqProofs only[qaq,qad,qae,qaf,qax,qab,qaC,qah,aOp,opd,qai,qan,qag,qbh,qco,qbg,qaj,qaA,qaR,qas,qaB,qaI,qbc,qg6,qby,qc4,qbS,qaa,qal,qaN,qap,qak,beq_self_eq_true,Option.getD_some,List.map_cons,List.map_nil,List.length_map,List.nil_append,List.append_nil,List.getElem?_cons_zero,List.getElem?_cons_succ,↓reduceIte,Bool.and_true,Bool.not_true,Bool.false_eq_true,decide_false,and_self,reduceCtorEq,Nat.reduceEqDiff,ge_iff_le,gt_iff_lt,qa4,qaD,hck,b1,b2,hmo,hg,hm,hli,hc2,w9,w1,hdE,hdF,hdt,hdt2,bne,qdE,qaJ L hp,hp]
  ·have b2:(qcN e+9≥1048576)=True:=by simp;omega
   rw[if_neg (fun h=>h2 h.2.2)]
   generalize qcN e=m at *
   unfold fn280
   simp -implicitDefEqProofs only[qad,qae,qaf,qax,qab,qaC,qah,aOp,opd,qai,qan,qag,qbh,qco,qbg,qaj,qaA,qaR,qas,qaB,qaI,qbc,qg6,qc4,qaa,qap,qak,beq_self_eq_true,Option.getD_some,List.map_cons,List.map_nil,List.length_map,List.getElem?_cons_zero,↓reduceIte,Bool.and_true,Bool.not_true,Bool.false_eq_true,decide_true,decide_false,and_self,reduceCtorEq,Nat.reduceEqDiff,ge_iff_le,gt_iff_lt,qa4,qaD,hck,b1,b2,hmo,w9,w1,hdE,bne,qaJ L hp,hp,List.map_nil]
 ·have b1:((e.length:Int) > 1500)=True:=by simp;omega
  rw[if_neg (fun h=>h1 h.2.1)]
  unfold fn280
  simp -implicitDefEqProofs only[qad,qae,qaf,qax,qab,qaC,qah,aOp,opd,qai,qan,qag,qbh,qco,qbg,qaj,qaA,qaR,qas,qaB,qaI,qbc,qg6,qc4,qaa,qap,qak,qdj,beq_self_eq_true,Option.getD_some,List.map_cons,List.map_nil,List.length_map,List.getElem?_cons_zero,↓reduceIte,Bool.and_true,Bool.not_true,Bool.false_eq_true,decide_true,and_self,reduceCtorEq,Nat.reduceEqDiff,gt_iff_lt,qa4,qaD,hck,b1,hdE,bne,qaJ L hp,hp,List.map_nil]
theorem qjH (hP:MPrims L) (h140:L.fns 140=some fn140) (h141:L.fns 141=some fm141) (h153:L.fns 153=some fn153) (h160:L.fns 160=some fm160) (h171:L.fns 171=some fn171) (h207:L.fns 207=some fn207) (h208:L.fns 208=some fn208)
  (h269:L.fns 269=some fn269) (h279:L.fns 279=some fn279) (h280:L.fns 280=some fn280) (h281:L.fns 281=some fn281) (h291:L.fns 291=some fn291) (h292:L.fns 292=some fn292)
  (hfact:∀ h:Heap,pcall L 278 [] h=some (.val (.bool true),h)) (e:List CExpr) (hl:e.length<2 ^ 30) (hf:∀ x∈e,NodeFit x) (n:Int) (h:Heap) :
  pcall L 269 [.list (e.map qaH) none,.int .i64 n] h=some (.val (.bool true),h):=by
 have hL:=hC.plain
 have hp:=hL.pure
 have hdE:=qa3 e
 have hmax:=qfM 0 n
 have hck:=qfp hC.toCLib e hl hf
 have hren:=quM hC hP h160 h171 h207 h208 h140 e hl hf ((max 0 n).tmod 3000)
 have ha0:0≤(max 0 n).tmod 3000:=Int.tmod_nonneg _ (by omega)
 have ha1:(max 0 n).tmod 3000<3000:=Int.tmod_lt_of_pos _ (by omega)
 generalize hta:(max 0 n).tmod 3000=a at *
 by_cases hz:qbi e=0
 case neg =>
  have hrp:=qkY hC h160 h279 e e hl hf hl hf
  have hre:qdb e a=([],qbi e):=by unfold qdb;rw[if_neg hz]
  have hro:qft e e=qbi e:=by unfold qft;rw[if_neg hz]
  rw[hre] at hren
  rw[hro] at hrp
  have hne:(qbi e==0)=false:=by simpa using hz
  refine qbH hL h269 rfl ?_ h
  dsimp only at hren
  rw[List.map_nil] at hren
  generalize qbi e=r at *
  unfold fn269
  simp -implicitDefEqProofs only[qad,qae,qaf,qax,qab,qaC,qah,aOp,opd,qai,qan,qag,qbh,qbg,qaj,qaA,qaR,qas,qaB,qaI,qbc,qby,qbf,qaa,qal,qap,qak,beq_self_eq_true,Option.getD_some,List.map_cons,List.map_nil,List.getElem?_cons_zero,List.getElem?_cons_succ,↓reduceIte,Bool.and_true,Bool.not_false,Bool.false_eq_true,and_self,reduceCtorEq,Nat.reduceEqDiff,Int.reduceEq,qa4,qaD,hfact,hmax,hta,hren,hne,hrp,hck,hdE,qaJ L hp,hp,bne]
 obtain⟨hft,hsz⟩:=qfF hz hf
 obtain⟨_,hn4,_⟩:=qcG hz
 obtain⟨r0,_,hsm,hfe⟩:=qsG hz hf a ha0 (by omega)
 rw[r0] at hren
 have hcf:qbi (qdb e a).1=0:=by
  unfold qfW at hsm
  simp only[Bool.and_eq_true,beq_iff_eq] at hsm
  exact hsm.1.2
 have hff:∀ x∈(qdb e a).1,NodeFit x:=by
  rw[hfe]
  exact qiH _ 0 (qp9 _ hft _)
 have hlf:(qdb e a).1.length≤4096:=(qcG hcf).2.1
 have hrp:=qkY hC h160 h279 e (qdb e a).1 hl hf (by omega) hff
 have hro:qft e (qdb e a).1=0:=by unfold qft;rw[if_pos hz,if_pos hcf,qn9 hz,if_pos hsm]
 rw[hro] at hrp
 have hfitI:TFit (qxx 1):=.mk _ _ _ _ _ (by simp) (by simp) (by simp) (fun k hk=>by cases hk)
 have hsizeI:qbR (qxx 1)=1:=by unfold qxx;rw[qbR,qbd]
 have htr:∀ (t:CNode) (id:Int),qaY (nB_ 4 [id] [nN 1 1 [],t])=qxy id (qxx 1) (qaY t):=by
  intro t id
  unfold nB_ nN
  rw[qfY]
  simp only[List.map_cons,List.map_nil,qfY]
  rfl
 obtain⟨t,ht,hA⟩:=qqi hC h141 h280 h291 h292 281 (fun t id=>nB_ 4 [id] [nN 1 1 [],t]) (fun t id h=>qsI hC h153 h281 t id h)
  (fun t id h1 h2=>by rw[htr];exact⟨qrM _ hfitI h1,by rw[qqb,hsizeI];omega⟩) e hl hf
 have ht:=ht hz
 simp only[htr,ht] at hA
 have hfT:=qrM (qcN e+1) hfitI hft
 have hTs:qbR (qxy (qcN e+1) (qxx 1) (qb2 e))=qbR (qb2 e)+2:=by rw[qqb,hsizeI];omega
 generalize qxy (qcN e+1) (qxx 1) (qb2 e)=T at *
 have hdF:=qa3 (qdb e a).1
 generalize (qdb e a).1=f at *
 refine qbH hL h269 rfl ?_ h
 unfold arF at hA
 by_cases hc:qbi e=0∧e.length≤1500∧qcN e+9<1048576
 case neg =>
  simp only[if_neg hc,List.map_nil] at hA
  unfold fn269
  simp -implicitDefEqProofs only[qaq,qad,qae,qaf,qax,qab,qaC,qah,aOp,opd,qai,qan,qag,qbh,qbg,aUn,qaj,qaA,qaR,qas,qaB,qaI,qbc,qby,qbf,qcy,qaa,qal,qbK,qap,qak,qdj,beq_self_eq_true,Option.getD_some,List.map_cons,List.map_nil,List.getElem?_cons_zero,List.getElem?_cons_succ,↓reduceIte,Bool.and_true,Bool.not_true,Bool.not_false,Bool.false_eq_true,and_self,reduceCtorEq,Nat.reduceEqDiff,Int.reduceEq,qa4,qaD,hfact,hmax,hta,hren,hA,hrp,hdE,hdF,qaJ L hp,hp,bne]
 simp only[if_pos hc] at hA
 have hdT:=qa3 (qbU T)
 cases hb:qbi (qbU T)==0 with
 | false =>
   rw[hb] at hA
   generalize qbU T=F at *
   unfold fn269
   simp -implicitDefEqProofs only[qaq,qad,qae,qaf,qax,qab,qaC,qah,aOp,opd,qai,qan,qag,qbh,qbg,aUn,qaj,qaA,qaR,qas,qaB,qaI,qbc,qby,qbf,qcy,qaa,qal,qbK,qap,qak,qdj,beq_self_eq_true,Option.getD_some,List.map_cons,List.map_nil,List.getElem?_cons_zero,List.getElem?_cons_succ,↓reduceIte,Bool.and_true,Bool.not_true,Bool.not_false,Bool.false_eq_true,and_self,reduceCtorEq,Nat.reduceEqDiff,Int.reduceEq,qa4,qaD,hfact,hmax,hta,hren,hA,hrp,hdE,hdF,hdT,qaJ L hp,hp,bne]
 | true =>
   rw[hb] at hA
   have hF:qbi (qbU T)=0:=by simpa using hb
   have hrp2:=qkY hC h160 h279 e (qbU T) hl hf (by unfold qbU;rw[qdN];omega) (qiH _ 0 hfT)
   have hns:=quC (f:=qbU T) hz (by rw[qe0];omega)
   have hro2:qft e (qbU T)=14:=by unfold qft;rw[if_pos hz,if_pos hF,qn9 hz,hns];rfl
   rw[hro2] at hrp2
   generalize qbU T=F at *
   unfold fn269
   simp -implicitDefEqProofs only[qaq,qad,qae,qaf,qax,qab,qaC,qah,aOp,opd,qai,qan,qag,qbh,qbg,aUn,qaj,qaA,qaR,qas,qaB,qaI,qbc,qby,qbf,qcy,qaa,qal,qbK,qap,qak,beq_self_eq_true,Option.getD_some,List.map_cons,List.map_nil,List.getElem?_cons_zero,List.getElem?_cons_succ,↓reduceIte,Bool.and_true,Bool.not_true,Bool.false_eq_true,and_self,reduceCtorEq,Nat.reduceEqDiff,Int.reduceEq,qa4,qaD,hfact,hmax,hta,hren,hA,hrp,hrp2,hdE,hdF,hdT,qaJ L hp,hp,bne]
end
end Go.Abs
