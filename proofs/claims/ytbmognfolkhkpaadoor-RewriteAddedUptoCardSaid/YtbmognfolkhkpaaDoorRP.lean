/-
  PARTS OF A PROOF, joined: an abstract machine for quiet code, its evaluation, and what the seat's functions answer on it. Conditions: none.
-/
import Derived.Test.YtbmognfolkhkpaaDoorRM
import Derived.Test.YtbmognfolkhkpaaDoorD
import Derived.Test.YtbmognfolkhkpaaDoorRC
import Derived.Test.YtbmognfolkhkpaaDoorNA
set_option linter.unusedVariables false
set_option linter.unusedSimpArgs false
set_option maxRecDepth 100000
set_option maxHeartbeats 8000000
namespace Go.Abs
def qf8 (n:Int) (l:List Int):Int:=l.foldl (fun n x=>if x > n then x else n) n
def qcm (e:List CExpr):Int:=qf8 (-1) (e.flatMap qbQ)
theorem qog (n:Int) (a b:List Int):qf8 n (a++b)=qf8 (qf8 n a) b:=by
 unfold qf8
 rw[List.foldl_append]
theorem qm2:∀ (l:List Int) (n:Int),n≤qf8 n l∧∀ x∈l,x≤qf8 n l
 | [],n=>⟨Int.le_refl _,fun x hx=>by cases hx⟩
 | y :: l,n => by
   obtain⟨h1,h2⟩:=qm2 l (if y > n then y else n)
   have e:qf8 n (y::l)=qf8 (if y > n then y else n) l:=rfl
   rw[e]
   have h3:n≤(if y > n then y else n)∧y≤(if y > n then y else n):=by split<;>omega
   refine⟨by omega,fun x hx=>?_⟩
   rcases List.mem_cons.1 hx with rfl | hx
   ·omega
   ·exact h2 x hx
theorem qrj (e:List CExpr):qcm e+1∉e.flatMap qbQ:=fun h=>by
 have:=(qm2 (e.flatMap qbQ) (-1)).2 _ h
 unfold qcm at this
 omega
theorem quT (e:List CExpr) : -1≤qcm e:=(qm2 _ _).1
theorem qqx:∀ (l:List Int) (n b:Int),n≤b→(∀ x∈l,x≤b)→qf8 n l≤b
 | [],n,b,h,_=>h
 | y :: l,n,b,h,hl => by
   have e:qf8 n (y::l)=qf8 (if y > n then y else n) l:=rfl
   rw[e]
   refine qqx l _ b ?_ fun x hx=>hl x (List.mem_cons_of_mem _ hx)
   have:=hl y List.mem_cons_self
   split<;>omega
section
variable {L:Lib}
theorem qxr (E:AVal) (hE:qbd E=true) (m i:Int) (l:List Int) (hl:l.length<2 ^ 30) (n0:Int) (x:CExpr) :
  qb7 L.pure (call L) 1 [3,8,9,10,15,16,17] [3,8,9,10] 2 qiv ⟨kt [3,8,9,10,15,16,17] [.int .i64 n0,E,.int .i64 m,.int .i64 i,.list (l.map qaY) none,.int .i64 l.length,.int .i64 0],[qnj x (.list (x.kids.map qaY) none)]⟩ =
   some (.normal,⟨kt [3,8,9,10] [.int .i64 (qf8 n0 l),E,.int .i64 m,.int .i64 i],[qnj x (.list (x.kids.map qaY) none)]⟩):=by
 have key:=qeY (pure:=L.pure) (call:=call L) (b:=1) (keep:=[3,8,9,10,15,16,17]) (fk:=[3,8,9,10]) (id:=2) (body:=qiv) l (fun n x=>if x > n then x else n)
  (fun n j=>⟨kt [3,8,9,10,15,16,17] [.int .i64 n,E,.int .i64 m,.int .i64 i,.list (l.map qaY) none,.int .i64 l.length,.int .i64 j],[qnj x (.list (x.kids.map qaY) none)]⟩)
  (fun n=>⟨kt [3,8,9,10] [.int .i64 n,E,.int .i64 m,.int .i64 i],[qnj x (.list (x.kids.map qaY) none)]⟩)
  (fun n j=>qf8 n (l.drop j)=qf8 n0 l) n0 rfl ?_ ?_
 ·obtain⟨h1,h2⟩:=key
  rw[List.drop_length] at h1
  rw[show l.foldl (fun n x=>if x > n then x else n) n0=qf8 n0 l from rfl] at h2
  exact h2
 ·intro j hj n hn
  obtain⟨h1,h2,h3⟩:=qbz qaY l hl j hj
  have hd:l.drop j=l[j]::l.drop (j+1):=List.drop_eq_getElem_cons hj
  refine⟨?_,by rw[← hn,hd];rfl⟩
  clear hd hn
  have hdI:=qay l
  have hdX:=qaO x.alts
  generalize l[j]=y at *
  unfold qnj
  unfold qiv
  simp -implicitDefEqProofs only[qam,qad,qae,qab,qal,qac,qah,aOp,opd,qai,qaB,qag,qbb,qba,qas,qaj,qaA,qaM,qa0,qaf,qaE,qat,qaF,qa5,ren,renC,qbj,qbU,qcd,qbi,qaa,qaq,List.map_cons,List.map_nil,List.flatMap_cons,List.flatMap_nil,List.length_cons,List.length_nil,List.append_nil,List.getElem?_cons_zero,List.take_succ_cons,List.take_nil,↓reduceIte,Bool.false_eq_true,decide_true,decide_false,Nat.le_refl,Nat.zero_add,Nat.reduceEqDiff,Int.toNat_natCast,Int.natCast_nonneg,qaz,qa1,gt_iff_lt,qb1,qay,h1,h2,h3,hE,hdI,hdX,qfP]
 ·intro n hn
  have h0:=qbA l.length
  have hdI:=qay l
  have hdX:=qaO x.alts
  unfold qnj
  unfold qiv
  simp -implicitDefEqProofs only[qad,qae,qab,qbk,qac,qah,aOp,opd,qai,qaB,qag,qbb,qba,qaj,gcE,qa0,qaf,qaE,qat,qaF,qa5,ren,renC,qbj,qbU,qcd,qbi,qaa,qaq,List.map_cons,List.map_nil,List.flatMap_cons,List.flatMap_nil,List.length_cons,List.length_nil,List.append_nil,List.take_succ_cons,List.take_nil,↓reduceIte,Bool.false_eq_true,decide_false,Nat.le_refl,Nat.zero_add,Nat.reduceEqDiff,qaz,qa1,qay,h0,hE,hdI,hdX]
theorem qxs (hL:Plain L) (h141:L.fns 141=some fm141) (e:List CExpr) (hl:e.length<2 ^ 30) (hf:∀ x∈e,NodeFit x) (hb:∀ x∈e,qqL x) :
  qb7 L.pure (call L) 0 [3,8,9,10] [3] 0 qiw ⟨kt [3,8,9,10] [.int .i64 (-1),.list (e.map qaP) none,.int .i64 e.length,.int .i64 0],[]⟩=some (.normal,⟨kt [3] [.int .i64 (qcm e)],[]⟩):=by
 have hp:=hL.pure
 have hdE:=qbg e
 have key:=qeY (pure:=L.pure) (call:=call L) (b:=0) (keep:=[3,8,9,10]) (fk:=[3]) (id:=0) (body:=qiw) e (fun n x=>qf8 n (qbQ x))
  (fun n j=>⟨kt [3,8,9,10] [.int .i64 n,.list (e.map qaP) none,.int .i64 e.length,.int .i64 j],[]⟩)
  (fun n=>⟨kt [3] [.int .i64 n],[]⟩)
  (fun n j=>qf8 n ((e.drop j).flatMap qbQ)=qcm e) (-1) rfl ?_ ?_
 ·obtain⟨h1,h2⟩:=key
  rw[List.drop_length] at h1
  rw[show e.foldl (fun n x=>qf8 n (qbQ x)) (-1)=qcm e from h1] at h2
  exact h2
 ·intro j hj n hn
  obtain⟨h1,h2,h3⟩:=qbz qaP e hl j hj
  have hd:e.drop j=e[j]::e.drop (j+1):=List.drop_eq_getElem_cons hj
  refine⟨?_,by rw[← hn,hd,List.flatMap_cons,qog]⟩
  have hx:=hf e[j] (List.getElem_mem hj)
  have hbx:=hb e[j] (List.getElem_mem hj)
  have hbi:=qtS hL h141 e[j] hx.alts (by unfold qqL at hbx;omega)
  have hlb0:(qbQ e[j]).length≤(e[j].binds++e[j].alts.flatMap (·.binds)).length:=by unfold qbQ qb3;split<;>simp
  have hlb:(qbQ e[j]).length<2 ^ 30:=by unfold qqL at hbx;omega
  have hl0:=qxr (L:=L) (.list (e.map qaP) none) (by rw[qaa];exact hdE) e.length j (qbQ e[j]) hlb n e[j]
  have hdI:=qay (qbQ e[j])
  have hdX:=qaO e[j].alts
  clear hd hn hlb0
  generalize e[j]=x at *
  rw[qbF] at hbi
  generalize qbQ x=l at *
  unfold qnj at hl0
  unfold qiw
  simp -implicitDefEqProofs only[qam,qad,qae,qab,qal,qac,qah,aOp,opd,qai,qa3,qaB,qag,qaZ,qbb,qcg,qba,qas,qaj,qby,qbC,leaf,qar,qaV,qaS,qa0,qaf,qaE,qat,qaF,qa5,ren,renC,qbj,qbU,qcd,qbi,qck,qbh,qbq,qaa,qaq,qch,qav,qao,Option.map_some,List.map_cons,List.map_nil,List.flatMap_cons,List.flatMap_nil,List.length_cons,List.length_nil,List.length_map,List.nil_append,List.append_nil,List.getElem?_cons_zero,List.set_cons_zero,List.take_succ_cons,List.take_zero,List.drop_succ_cons,List.drop_zero,List.take_nil,List.drop_nil,List.all_cons,List.all_nil,↓reduceIte,Bool.and_true,Bool.false_eq_true,decide_true,decide_false,and_self,Nat.le_refl,Nat.zero_le,Nat.zero_add,Nat.reduceEqDiff,Nat.reduceAdd,Int.toNat_natCast,Int.natCast_nonneg,qaz,qa1,qa7,qbF,qay,h1,h2,h3,hbi,hl0,hdE,hdI,hdX,List.length_map,qaN L hp,hp]
 ·intro n hn
  have h0:=qbA e.length
  unfold qiw
  simp -implicitDefEqProofs only[qad,qae,qab,qbk,qac,qah,aOp,opd,qai,qaB,qag,qbb,qba,qaj,gcE,qa0,qaf,qaE,qat,qaF,qa5,ren,renC,qbm,qbU,qcd,qaq,Option.getD_none,List.map_cons,List.map_nil,List.flatMap_cons,List.flatMap_nil,List.length_nil,List.append_nil,List.getElem?_nil,List.take_nil,↓reduceIte,Bool.false_eq_true,decide_false,Nat.le_refl,Nat.reduceEqDiff,qaz,qa1,h0,hdE]
theorem qxt (hL:Plain L) (h141:L.fns 141=some fm141) (h291:L.fns 291=some fn291) (e:List CExpr) (hl:e.length<2 ^ 30) (hf:∀ x∈e,NodeFit x) (hb:∀ x∈e,qqL x) (h:Heap) :
  pcall L 291 [.list (e.map qaP) none] h=some (.val (.int .i64 (qcm e)),h):=by
 refine qbK hL h291 rfl ?_ h
 have h1:=qxs hL h141 e hl hf hb
 have hdE:=qbg e
 unfold fn291
 simp -implicitDefEqProofs only[qad,qae,qap,qac,qah,aOp,opd,qai,qak,qaB,qag,qcg,qaT,qan,qax,qaH,qaS,qa0,qaf,qaE,qat,qaF,qa5,ren,renC,qbm,qbU,qcd,qbM,qaa,qaq,Option.getD_some,Option.getD_none,List.map_cons,List.map_nil,List.flatMap_cons,List.flatMap_nil,List.length_nil,List.length_map,List.append_nil,List.getElem?_nil,List.getElem?_cons_zero,List.take_nil,↓reduceIte,Bool.false_eq_true,decide_false,Nat.le_refl,reduceCtorEq,Nat.reduceEqDiff,Int.reduceNeg,qaI,h1,hdE,List.length_map]
end
def gnb (x:CExpr) (ks:AVal):AObj:=.box [.int .i64 x.op,.int .i64 x.n,.list (x.binds.map qaY) none,.list (x.kids.map qaY) none,.list (x.alts.map qaU) none,ks]
structure GJ (e:List CExpr) (i:Nat) (H:Heap) (ps:List Nat) (ow:Option (Option Nat)):Prop where
 len:ps.length=i
 owns:OwnT H ow i 1
 low:∀ p∈ps,p<H.length
 node:∀ k (hk:k<e.length) (hi:k<ps.length),∃ ok,H[ps[k]]? = some (gnb e[k] (.list ((e[k].kids.map fun q=>ps.getD q.toNat 0).map qbe) ok))
section
variable {L:Lib}
theorem quW {b:Nat} (E:AVal) (nx:Int) (i:Nat) (x:CExpr) (hk:x.kids.length<2 ^ 30) (ps:List Nat) (ow:Option (Option Nat)) (pn:Nat) (H:Heap)
  (hn:H[pn]? = some (gnb x (.list [] (some none)))) (hlook:∀ k∈x.kids,0≤k∧k.toNat<ps.length) :
  ∃ T,qb7 L.pure (call L) b [1000000,3,6,9,10,11,19,20,21] [1000000,3,6,9,10,11] 2 qhi
   ⟨kt [3,6,9,10,11,19,20,21] [.list (ps.map qbe) ow,qbe pn,E,.int .i64 nx,.int .i64 i,.list (x.kids.map qaY) none,.int .i64 x.kids.length,.int .i64 0],H⟩=some (.normal,T) ∧
   ∃ H' ok,T=⟨kt [3,6,9,10,11] [.list (ps.map qbe) ow,qbe pn,E,.int .i64 nx,.int .i64 i],H'⟩∧H'[pn]? = some (gnb x (.list ((x.kids.map fun k=>ps.getD k.toNat 0).map qbe) ok)) ∧
    H.length≤H'.length∧∀ q,q<H.length→q≠pn→H'[q]? = H[q]? := by
 have hln:=hlt hn
 refine qcD (pure:=L.pure) (call:=call L) (b:=b) (id:=2) (body:=qhi)
  (fun j s=>∃ H' ok,s=⟨kt [3,6,9,10,11,19,20,21] [.list (ps.map qbe) ow,qbe pn,E,.int .i64 nx,.int .i64 i,.list (x.kids.map qaY) none,.int .i64 x.kids.length,.int .i64 j],H'⟩ ∧
   H'[pn]? = some (gnb x (.list (((x.kids.take j).map fun k=>ps.getD k.toNat 0).map qbe) ok))∧OwnT H' ok j 1∧Young H.length ok∧H.length≤H'.length∧∀ q,q<H.length→q≠pn→H'[q]? = H[q]?) x.kids.length _ ?_ ?_ ?_
 ·intro j s hj hs
  obtain⟨H',ok,rfl,hnode,hown,hyo,hle,hkp⟩:=hs
  obtain⟨h1,h2,h3⟩:=qbz qaY x.kids hk j hj
  obtain⟨k0,k1⟩:=hlook x.kids[j] (List.getElem_mem hj)
  have htake:((x.kids.take (j+1)).map fun k=>ps.getD k.toNat 0).map qbe=((x.kids.take j).map fun k=>ps.getD k.toNat 0).map qbe++[qbe (ps.getD x.kids[j].toNat 0)]:=by
   rw[List.take_succ_eq_append_getElem hj,List.map_append,List.map_append];rfl
  have hlen:(((x.kids.take j).map fun k=>ps.getD k.toNat 0).map qbe).length=j:=by simp;omega
  have hall:=qff ((x.kids.take j).map fun k=>ps.getD k.toNat 0)
  have hlk:(ps.map qbe)[x.kids[j].toNat]? = some (qbe (ps.getD x.kids[j].toNat 0)):=by
   rw[List.getElem?_map,List.getD_eq_getElem?_getD,List.getElem?_eq_getElem k1]
   rfl
  simp only[htake]
  generalize hkj:x.kids[j]=k at *
  generalize ps.getD k.toNat 0=p at *
  generalize ((x.kids.take j).map fun k=>ps.getD k.toNat 0).map qbe=ks at *
  obtain⟨ok2,H2,ha,hA⟩:=qeF H' 1 8 ks [qbe p] ok (some none) (by rw[hlen];exact hown) hall rfl (by rw[hlen,List.length_singleton];omega)
  rw[hlen,List.length_singleton] at hA
  have hn2:H2[pn]? = some (gnb x (.list ks ok)):=hA.other hnode (fun a b=>by intro e;cases e) hown
  have hl2:=hlt hn2
  have hln':=hlt hnode
  have hdX:=qaO x.alts
  obtain⟨r,hr0⟩:∃ r,qb6 L.pure (call L) b [1000000,3,6,9,10,11,19,20,21] [1000000,3,6,9,10,11] qhi ⟨kt [3,6,9,10,11,19,20,21] [.list (ps.map qbe) ow,qbe pn,E,.int .i64 nx,.int .i64 i,.list (x.kids.map qaY) none,.int .i64 x.kids.length,.int .i64 j],H'⟩=r:=⟨_,rfl⟩
  have hr:=hr0
  unfold qbe gnb at *
  unfold qhi at hr
  simp -implicitDefEqProofs only[qam,qad,qaJ,qae,qab,qal,qac,qah,aOp,opd,qai,qa3,qaB,qag,qaZ,qbb,qba,qas,qaj,qaw,qaA,qby,qaG,leaf,qaM,qbn,qaX,qaV,qa0,qaf,qa2,qaR,qaL,qa8,qdo,List.map_cons,List.map_nil,List.length_cons,List.length_nil,List.cons_append,List.nil_append,List.append_nil,List.getElem?_cons_zero,List.getElem?_cons_succ,List.take_succ_cons,List.take_zero,List.drop_succ_cons,List.drop_zero,List.drop_nil,List.all_cons,List.all_nil,↓reduceIte,Bool.and_true,Bool.false_eq_true,decide_true,and_self,Nat.le_refl,Nat.zero_add,Nat.reduceEqDiff,Nat.reduceAdd,Int.toNat_natCast,Int.natCast_nonneg,qaz,qaC,qaK,qa1,qb1,h1,h2,h3,hkj,k0,hlk,hnode,ha,hn2,hdX] at hr
  subst hr
  refine⟨_,hr0,_,ok2,rfl,?_,?_,hA.young hle hyo,by rw[List.length_set];have:=hA.len;omega,?_⟩
  ·rw[hgs hl2]
  ·refine hA.owns.frame fun id hid=>hgn (fun e=>?_)
   subst e
   rcases hA.owns with h | ⟨t,h5,h6⟩
   ·rw[h] at hid;cases hid
   ·rw[h5] at hid
    injection hid with hid
    injection hid with hid
    subst hid
    rw[hn2] at h6
    cases h6
  ·intro q hq hqp
   rw[hgn (fun e=>hqp e.symm),hA.keep q (by omega) (hyo.ne hq)]
   exact hkp q hq hqp
 ·intro s hs
  obtain⟨H',ok,rfl,hnode,hown,hyo,hle,hkp⟩:=hs
  have h0:=qbA x.kids.length
  rw[List.take_length] at hnode
  refine⟨_,?_,H',ok,rfl,hnode,hle,hkp⟩
  unfold qhi
  simp -implicitDefEqProofs only[qad,qae,qab,qbk,qac,qah,aOp,opd,qai,qaB,qag,qbb,qba,qaj,gcE,qa0,qaf,List.map_cons,List.map_nil,List.drop_succ_cons,List.drop_zero,↓reduceIte,Bool.false_eq_true,decide_true,decide_false,Nat.reduceEqDiff,qaz,h0]
 ·exact⟨H,some none,rfl,hn,.inl rfl,.inl rfl,Nat.le_refl _,fun _ _ _=>rfl⟩
theorem quX {b:Nat} (e:List CExpr) (hl:e.length<2 ^ 30) (hf:∀ x∈e,NodeFit x) (hA:qfn e) :
  ∃ T,qb7 L.pure (call L) b [1000000,3,9,10,11] [1000000,3] 0 qhj ⟨kt [3,9,10,11] [.list [] (some none),.list (e.map qaP) none,.int .i64 e.length,.int .i64 0],[]⟩=some (.normal,T) ∧
   ∃ H ps ow,T=⟨kt [3] [.list (ps.map qbe) ow],H⟩∧GJ e e.length H ps ow:=by
 refine qcD (pure:=L.pure) (call:=call L) (b:=b) (id:=0) (body:=qhj)
  (fun i s=>∃ H ps ow,s=⟨kt [3,9,10,11] [.list (ps.map qbe) ow,.list (e.map qaP) none,.int .i64 e.length,.int .i64 i],H⟩∧GJ e i H ps ow) e.length _ ?_ ?_ ?_
 ·intro i s hi hs
  obtain⟨H,ps,ow,rfl,hO⟩:=hs
  obtain⟨h1,h2,h3⟩:=qbz qaP e hl i hi
  have hx:=hf e[i] (List.getElem_mem hi)
  have hlen:=hO.len
  have hlow:=hO.low
  have hlook:∀ k∈e[i].kids,0≤k∧k.toNat<ps.length:=by
   intro k hk
   have:=hA i hi k hk
   exact⟨this.1,by omega⟩
  have hnode:=hO.node
  have hn3:(H++[qnj e[i] (.list (e[i].kids.map qaY) none)]++[gnb e[i] (.list [] (some none))])[H.length+1]? = some (gnb e[i] (.list [] (some none))):=by
   rw[List.getElem?_append_right (by simp)];simp
  obtain⟨T1,g1,H3,ok,rfl,hn4,hl4,hk4⟩:=quW (L:=L) (b:=H.length+2) (.list (e.map qaP) none) e.length i e[i] hx.kids ps ow (H.length+1) _ hn3 hlook
  have hl4':H.length+2≤H3.length:=by simpa using hl4
  have hk4':∀ q,q<H.length→H3[q]? = H[q]? := fun q hq=>by rw[hk4 q (by simp;omega) (by omega),List.append_assoc,hga hq]
  have hown5:OwnT H3 ow (ps.map qbe).length 1:=by
   rw[List.length_map,hlen]
   refine hO.owns.frame fun id hid=>?_
   have:id<H.length:=by
    rcases hO.owns with h | ⟨t,h5,h6⟩
    ·rw[h] at hid;cases hid
    ·rw[h5] at hid
     injection hid with hid
     injection hid with hid
     subst hid
     exact hlt h6
   rw[hk4' id this]
  obtain⟨ow2,H5,ha6,hA6⟩:=qeF H3 1 8 (ps.map qbe) [qbe (H.length+1)] ow (some none) hown5 (qff ps) rfl (by rw[List.length_map,List.length_singleton];omega)
  have hl6:=hA6.len
  have hn6:H5[H.length+1]? = some (gnb e[i] (.list ((e[i].kids.map fun k=>ps.getD k.toNat 0).map qbe) ok)):=hA6.other hn4 (fun a b=>by intro e;cases e) hown5
  have hold:∀ q o,q<H.length→H[q]? = some o→(∀ a b,o≠.tail a b)→H5[q]? = some o:=fun q o hq ho hn=>hA6.other (by rw[hk4' q hq];exact ho) hn hown5
  have hsnoc:(ps++[H.length+1]).map qbe=ps.map qbe++[qbe (H.length+1)]:=by rw[List.map_append];rfl
  have hO':GJ e (i+1) H5 (ps++[H.length+1]) ow2:=by
   refine⟨by simp[hlen],?_,?_,?_⟩
   ·have:=hA6.owns
    rw[List.length_map,hlen,List.length_singleton] at this
    exact this
   ·intro p hp
    rcases List.mem_append.1 hp with hp | hp
    ·have:=hlow p hp
     omega
    ·rw[List.mem_singleton.1 hp]
     exact hlt hn6
   ·intro k hk hkl
    rw[List.length_append,List.length_singleton] at hkl
    by_cases hki:k<i
    ·have hkp:k<ps.length:=by omega
     obtain⟨ok',n1⟩:=hnode k hk hkp
     refine⟨ok',?_⟩
     rw[List.getElem_append_left hkp]
     have hlp:=hlow ps[k] (List.getElem_mem _)
     rw[hold _ _ hlp n1 (fun a b=>by intro e;cases e),qj8 ps _ _ (fun q hq=>by have:=hA k hk q hq;omega)]
    ·have:k=i:=by omega
     subst this
     refine⟨ok,?_⟩
     rw[List.getElem_append_right (by omega)]
     simp only[hlen,Nat.sub_self,List.getElem_cons_zero]
     rw[hn6,qj8 ps _ _ (fun q hq=>(hlook q hq).2)]
  obtain⟨r,hr0⟩:∃ r,qb6 L.pure (call L) b [1000000,3,9,10,11] [1000000,3] qhj ⟨kt [3,9,10,11] [.list (ps.map qbe) ow,.list (e.map qaP) none,.int .i64 e.length,.int .i64 i],H⟩=r:=⟨_,rfl⟩
  have hr:=hr0
  have hdX:=qaO e[i].alts
  simp only[List.append_assoc,List.cons_append,List.nil_append] at g1
  rw[← hsnoc] at ha6
  generalize e[i]=x at *
  unfold qbe gnb qnj at *
  unfold qhj at hr
  simp -implicitDefEqProofs only[qam,qad,qae,qab,qal,qac,qah,aOp,opd,qai,qa3,qaB,qag,qaZ,qbb,qcg,qba,qas,qaj,qaA,qby,qbC,qaG,qcZ,qdf,leaf,qar,qaX,qaV,qaS,qa0,qaf,qdo,Option.map_some,List.map_cons,List.map_nil,List.length_cons,List.length_nil,List.length_append,List.length_map,List.cons_append,List.nil_append,List.append_nil,List.append_assoc,List.getElem?_cons_zero,List.getElem?_cons_succ,List.take_succ_cons,List.take_zero,List.drop_succ_cons,List.drop_zero,List.take_nil,List.drop_nil,List.all_cons,List.all_nil,↓reduceIte,Bool.and_true,Bool.false_eq_true,decide_true,and_self,Nat.le_refl,Nat.zero_add,Nat.reduceEqDiff,Nat.reduceAdd,Nat.reduceLeDiff,Int.toNat_natCast,Int.natCast_nonneg,qaz,List.map_append,qa1,qbF,h1,h2,h3,ha6,hgl,hsl,hga,g1,hdX,List.singleton_append] at hr
  subst hr
  exact⟨_,hr0,_,_,ow2,by simp only[List.map_append,List.map_cons,List.map_nil],hO'⟩
 ·intro s hs
  obtain⟨H,ps,ow,rfl,hO⟩:=hs
  have h0:=qbA e.length
  refine⟨_,?_,H,ps,ow,rfl,hO⟩
  unfold qhj
  simp -implicitDefEqProofs only[qad,qae,qab,qbk,qac,qah,aOp,opd,qai,qaB,qag,qbb,qba,qaj,gcE,qa0,qaf,List.map_cons,List.map_nil,List.drop_succ_cons,List.drop_zero,↓reduceIte,Bool.false_eq_true,decide_true,decide_false,Nat.reduceEqDiff,qaz,h0]
 ·exact⟨[],[],some none,rfl,⟨rfl,.inl rfl,fun p hp=>(by cases hp),fun k _ hk=>absurd hk (by simp)⟩⟩
end
inductive WN (H:Heap):CNode→Nat→Prop
 | mk (op n:Int) (binds xk:List Int) (kids:List CNode) (alts:List CAlt) (p:Nat) (ps:List Nat) (ok:Option (Option Nat))
   (hbox:H[p]? = some (.box [.int .i64 op,.int .i64 n,.list (binds.map qaY) none,.list (xk.map qaY) none,.list (alts.map qaU) none,.list (ps.map qbe) ok]))
   (hl:ps.length=kids.length) (hk:∀ (i:Nat) (hi:i<kids.length),WN H kids[i] (ps[i]'(by omega))):WN H (.mk op n binds xk kids alts) p
theorem WN.view {H:Heap} {t:CNode} {p:Nat} (h:WN H t p):∀ n,2*hgt (qa9 t)+2≤n→qbS H n (qbe p)=qcl t:=by
 induction h with
 | mk op n binds xk kids alts p ps ok hbox hl hk ih =>
   intro m hm
   rw[qfM,hgt] at hm
   obtain⟨q,rfl⟩:∃ q,m=q+1+1+1:=⟨m-3,by omega⟩
   unfold qbe
   rw[qbS,if_neg (by simp[qbd])]
   unfold qev
   dsimp only
   rw[hbox]
   dsimp only
   have hlf:([.int .i64 op,.int .i64 n,.list (binds.map qaY) none,.list (xk.map qaY) none,.list (alts.map qaU) none,.list (ps.map qbe) ok]:List AVal).all leaf=true:=rfl
   rw[if_pos hlf]
   simp only[List.map_cons,List.map_nil]
   rw[qcQ (v:=.int .i64 op) rfl,qcQ (v:=.int .i64 n) rfl,qer H _ (qay binds),qer H _ (qay xk),qer H _ (qaO alts),qdY]
   have hkids:qbS H (q+1+1) (.list (ps.map qbe) ok)=.list (kids.map qcl) none:=by
    have hmap:(ps.map qbe).map (qbS H (q+1))=kids.map qcl:=by
     refine List.ext_getElem (by simp[hl]) fun i h1 h2=>?_
     have hi:i<kids.length:=by simpa using h2
     rw[List.getElem_map,List.getElem_map,List.getElem_map]
     refine ih i hi _ ?_
     have hmem:qa9 kids[i]∈kids.map qa9:=List.mem_map_of_mem (List.getElem_mem hi)
     have:=qf5 hmem
     have:0<hgt (qa9 kids[i]):=by generalize qa9 kids[i]=t';cases t';rw[hgt];omega
     omega
    cases hps:ps with
    | nil =>
      have hk0:kids=[]:=List.length_eq_zero_iff.1 (by rw[← hl,hps];rfl)
      subst hk0
      exact qer H _ rfl ok
    | cons p0 ps' =>
      rw[hps] at hmap
      have hnd:qa4 ((p0::ps').map qbe)=false:=by rw[List.map_cons,qa4];simp[qbe,qbd]
      rw[qbS,if_neg (qm3 (by rw[hnd];simp) ok)]
      generalize hW:(p0::ps').map qbe=W at hmap hnd
      show (if qa4 W=true then AVal.list W none else if (W.map fun x=>(acells (qbS H (q+1) x)).length)=W.map fun x=>(acells x).length then AVal.list (W.map (qbS H (q+1))) none else .junk)=_
      rw[if_neg (by rw[hnd];simp),if_pos,hmap]
      have e1:(W.map fun x=>(acells (qbS H (q+1) x)).length)=(W.map (qbS H (q+1))).map fun y=>(acells y).length:=by rw[List.map_map];rfl
      rw[e1,hmap,← hW,List.map_map,List.map_map]
      have:(kids.map ((fun y=>(acells y).length) ∘ qcl))=kids.map fun _=>1:=List.map_congr_left fun t _=>by
       show (acells (qcl t)).length=1
       rw[qo6];rfl
      have h2:((p0::ps').map ((fun x=>(acells x).length) ∘ qbe))=(p0::ps').map fun _=>1:=rfl
      rw[this,h2,List.map_const',List.map_const',← hl,hps]
   rw[hkids]
   rfl
theorem GJ.wn {e:List CExpr} {H:Heap} {ps:List Nat} {ow:Option (Option Nat)} (h:GJ e e.length H ps ow) (hA:qfn e):∀ (i:Nat) (hi:i<e.length),∃ t,WN H t (ps.getD i 0)∧qa9 t=qcw e i:=by
 intro i
 induction i using Nat.strongRecOn with
 | _ i ih =>
 intro hi
 have hlen:=h.len
 obtain⟨ok,n1⟩:=h.node i hi (by omega)
 have hg:ps.getD i 0=ps[i]'(by omega):=by rw[List.getD_eq_getElem?_getD,List.getElem?_eq_getElem (by omega)];rfl
 have hkids:∃ ts:List CNode,ts.length=e[i].kids.length∧(∀ (j:Nat) (hj:j<ts.length),WN H ts[j] (((e[i].kids.map fun q=>ps.getD q.toNat 0)[j]?).getD 0))∧ts.map qa9=e[i].kids.map fun k=>qcw e k.toNat:=by
  have ha:=hA i hi
  generalize e[i].kids=ks at ha
  clear n1
  induction ks with
  | nil=>exact⟨[],rfl,fun j hj=>absurd hj (by simp),rfl⟩
  | cons k ks ihk =>
    have hk:=ha k List.mem_cons_self
    obtain⟨t,t1,t2⟩:=ih k.toNat (by omega) (by omega)
    obtain⟨ts,s1,s2,s3⟩:=ihk fun q hq=>ha q (List.mem_cons_of_mem _ hq)
    refine⟨t::ts,by simp[s1],fun j hj=>?_,by rw[List.map_cons,List.map_cons,t2,s3]⟩
    cases j with
    | zero=>exact t1
    | succ j=>exact s2 j (by simpa using hj)
 obtain⟨ts,s1,s2,s3⟩:=hkids
 refine⟨.mk e[i].op e[i].n e[i].binds e[i].kids ts e[i].alts,?_,by rw[qfM,qdK e hA i hi,s3]⟩
 rw[hg]
 refine .mk _ _ _ _ _ _ _ (e[i].kids.map fun q:Int=>ps.getD q.toNat 0) ok n1 (by simp[s1]) fun j hj=>?_
 have:=s2 j hj
 rw[List.getElem?_eq_getElem (by simp;omega)] at this
 exact this
section
variable {L:Lib}
theorem quY (hL:Plain L) (h292:L.fns 292=some fn292) (e:List CExpr) (hl:e.length<2 ^ 30) (hp:0<e.length) (hf:∀ x∈e,NodeFit x) (hA:qfn e) (hh:hgt (qb2 e)≤900) (h:Heap) :
  ∃ t:CNode,qa9 t=qb2 e∧∀ h:Heap,pcall L 292 [.list (e.map qaP) none] h=some (.val (qcl t),h):=by
 obtain⟨T,ht,H,ps,ow,rfl,hO⟩:=quX (L:=L) (b:=0) e hl hf hA
 obtain⟨t,w1,w2⟩:=hO.wn hA (e.length-1) (by omega)
 rw[← qfi] at w2
 refine⟨t,w2,fun h=>?_⟩
 have hlen:=hO.len
 have hget:(ps.map qbe)[e.length-1]? = some (qbe (ps.getD (e.length-1) 0)):=by
  rw[List.getElem?_map,List.getD_eq_getElem?_getD,List.getElem?_eq_getElem (by omega)]
  rfl
 have hv:=w1.view 2000 (by rw[w2];omega)
 have w:IntKind.i64.wrap ((e.length:Int)-1)=((e.length-1:Nat):Int):=by rw[qc5 (by omega) (by omega)];omega
 have hc:call L 292 [.list (e.map qaP) none] []=some (.val (qbe (ps.getD (e.length-1) 0)),H):=by
  generalize ps.getD (e.length-1) 0=p at *
  refine qbE (hL.summ 292 (by rw[h292];simp)) h292 ?_
  have hlp:(ps.map qbe).length=e.length:=by rw[List.length_map,hlen]
  unfold fn292
  unfold qbe at *
  simp -implicitDefEqProofs only[qad,qae,qap,qac,qah,aOp,opd,qai,qak,qaB,qag,qbb,qcg,qba,qas,qaj,qaA,qaX,qaT,qan,qax,qaH,qaS,qa0,qaf,Option.getD_some,List.map_cons,List.map_nil,List.length_cons,List.length_nil,List.length_map,List.getElem?_cons_zero,List.drop_succ_cons,List.drop_zero,↓reduceIte,Bool.false_eq_true,decide_true,reduceCtorEq,Nat.zero_add,Nat.reduceEqDiff,Int.toNat_natCast,Int.natCast_nonneg,ht,hget,w,hlp]
 refine qc7 hc ?_ (qe2 t) h
 unfold qfU
 rw[if_neg (by simp[wipeR,wipe,wipeCell,qbd,qbe])]
 rw[show viewV H (qbe (ps.getD (e.length-1) 0))=qcl t from hv,qrA]
end
def arF (e:List CExpr) (t:CTree):List CExpr × Bool :=
 if qbH e=0∧e.length≤1500∧qcm e+9<1048576 then (qbN t,qbH (qbN t)==0) else ([],false)
theorem qxq {e:List CExpr} (hz:qbH e=0):qcm e≤1048576:=by
 obtain⟨_,_,_,hlab,_⟩:=qcJ hz
 refine qqx _ _ _ (by decide) fun x hx=>?_
 obtain⟨y,hy,hxy⟩:=List.mem_flatMap.1 hx
 have hr:=(ql9 (hlab y hy)).2
 unfold qgI at hr
 dsimp only at hr
 unfold qdJ at hr
 have hb:y.binds.any qfx=false:=by
  cases h:y.binds.any qfx with
  | false=>rfl
  | true =>
    exfalso
    rw[if_pos h] at hr
    split at hr<;>exact absurd hr (by decide)
 have ha:y.alts.any (qdi y.op)=false:=by
  cases h:y.alts.any (qdi y.op) with
  | false=>rfl
  | true =>
    exfalso
    rw[if_neg (c:=y.binds.any qfx=true) (by rw[hb];decide),if_pos h] at hr
    split at hr<;>exact absurd hr (by decide)
 have h1:∀ z∈y.binds,z≤1048576:=by
  intro z hz
  have:=List.any_eq_false.1 hb z hz
  unfold qfx at this
  simp at this
  omega
 have h2:∀ z∈y.alts.flatMap (·.binds),z≤1048576:=by
  intro z hz
  obtain⟨a,haa,hza⟩:=List.mem_flatMap.1 hz
  have h3:=List.any_eq_false.1 ha a haa
  unfold qdi at h3
  simp only[Bool.or_eq_true,not_or] at h3
  have h4:a.binds.any qfx=false:=by simpa using h3.2
  have:=List.any_eq_false.1 h4 z hza
  unfold qfx at this
  simp at this
  omega
 unfold qbQ qb3 at hxy
 rcases List.mem_append.1 hxy with h | h
 ·split at h
  ·exact h1 x h
  ·cases h
 ·exact h2 x h
theorem qrQ (l:List CExpr) (b:Bool):qbd (.tuple [.list (l.map qaP) none,.bool b])=true:=by
 simp only[qfj,qao,qav,qaa,qbg,qbJ,Bool.and_true]
section
variable {L:Lib} (hC:CLib2 L)
include hC
theorem qzc (h153:L.fns 153=some fn153) (n:Int) (h:Heap):pcall L 153 [.int .i64 n] h=some (.val (qcl (nN 1 n [])),h):=by
 have hL:=hC.plain
 have hp:=hL.pure
 have hn:=qyX hC 1 n []
 refine qbK hL h153 (qe2 _) ?_ h
 obtain⟨tc,htc,hdt⟩:=qd4 (nN 1 n [])
 rw[htc] at hn ⊢
 simp only[List.map_nil] at hn
 unfold fn153
 simp -implicitDefEqProofs only[qad,qae,qap,qac,qah,aOp,opd,qai,qak,qaT,qan,qax,qaH,qbo,qbx,qaa,qaq,qav,qao,Option.getD_some,List.map_cons,List.map_nil,List.getElem?_cons_zero,↓reduceIte,Bool.and_true,and_self,reduceCtorEq,qa7,qaI,hn,hdt,qes,qaN L hp,hp]
theorem qtM (h153:L.fns 153=some fn153) (h284:L.fns 284=some fn284) (c:Int) (t:CNode) (id:Int) (h:Heap) :
  pcall L 284 [qcl t,.int .i64 id,.vptr [.int .i64 c] 0] h=some (.val (qcl (nB_ 4 [id] [nN 1 (c.tmod 1000) [],t])),h):=by
 have hL:=hC.plain
 have hp:=hL.pure
 have hw:=qzc hC h153 (c.tmod 1000)
 have hn:=qyW hC 4 [id] [nN 1 (c.tmod 1000) [],t]
 refine qbK hL h284 (qe2 _) ?_ h
 obtain⟨tc,htc,hdt⟩:=qd4 (nB_ 4 [id] [nN 1 (c.tmod 1000) [],t])
 obtain⟨tc1,htc1,hdt1⟩:=qd4 (nN 1 (c.tmod 1000) [])
 obtain⟨tc2,htc2,hdt2⟩:=qd4 t
 rw[htc] at hn ⊢
 rw[htc1] at hw
 simp only[List.map_cons,List.map_nil,htc1,htc2,qb1] at hn ⊢
 unfold fn284
 simp -implicitDefEqProofs only[qad,qae,qap,qac,qah,aOp,opd,qai,qak,qag,qbb,qba,qaj,qaA,leaf,qaM,qct,qaT,qan,qax,qaH,qbo,qbx,qbD,qaa,qaq,qaQ,qav,qao,Option.getD_some,List.map_cons,List.map_nil,List.length_cons,List.length_nil,List.getElem?_cons_zero,List.getElem?_cons_succ,List.all_cons,List.all_nil,↓reduceIte,Bool.and_true,Bool.false_eq_true,decide_true,and_self,reduceCtorEq,Nat.zero_add,Nat.reduceEqDiff,Int.reduceEq,qa7,qaI,hw,hn,hdt,hdt1,hdt2,qes,qaN L hp,hp]
theorem qrS (h141:L.fns 141=some fm141) (h280:L.fns 280=some fn280) (h291:L.fns 291=some fn291) (h292:L.fns 292=some fn292) (k:Nat) (c:Int) (mk:CNode→Int→CNode)
  (hmk:∀ t id h,pcall L k [qcl t,.int .i64 id,.vptr [.int .i64 c] 0] h=some (.val (qcl (mk t id)),h)) (hfit:∀ t id,TFit (qa9 t)→qbv (qa9 t)≤4096→TFit (qa9 (mk t id))∧qbv (qa9 (mk t id))<2 ^ 20)
  (e:List CExpr) (hl:e.length<2 ^ 30) (hf:∀ x∈e,NodeFit x) :
  ∃ t,(qbH e=0→qa9 t=qb2 e)∧∀ h,pcall L 280 [.list (e.map qaP) none,.func k [] [.vptr [.int .i64 c] 0]] h=some (.val (.tuple [.list ((arF e (qa9 (mk t (qcm e+1)))).1.map qaP) none,.bool (arF e (qa9 (mk t (qcm e+1)))).2]),h):=by
 have hL:=hC.plain
 have hp:=hL.pure
 have hdE:=qbg e
 have hck:=qg2 hC.toCLib e hl hf
 by_cases hz:qbH e=0
 case neg =>
  refine⟨.mk 0 0 [] [] [] [],fun h=>absurd h hz,fun h=>?_⟩
  refine qbK hL h280 (qrQ _ _) ?_ h
  have hne:(qbH e==0)=false:=by simpa using hz
  unfold arF
  rw[if_neg (fun h=>hz h.1)]
  generalize qbH e=r at *
  unfold fn280
  simp -implicitDefEqProofs only[qad,qae,qab,qap,qac,qau,qah,aOp,opd,qai,qak,qag,qbb,qba,qaj,qaw,qaT,qan,qax,qaH,qbo,qgX,qcF,qaa,qav,qao,qc4,Option.getD_some,List.map_cons,List.map_nil,List.getElem?_cons_zero,↓reduceIte,Bool.and_true,Bool.not_false,Bool.false_eq_true,and_self,reduceCtorEq,Nat.reduceEqDiff,qa7,qaI,hck,hne,hdE,bne,qaN L hp,hp,List.map_nil]
 obtain⟨hT,hn4,hh,hlab,_⟩:=qcJ hz
 obtain⟨hft,hsz⟩:=qgx hz hf
 have hbf:=qmV hT hn4 hlab
 obtain⟨t,ht,hg⟩:=quY hL h292 e hl hT.pos hf hT.ahead (by omega) []
 have hmo:=qxt hL h141 h291 e hl hf hbf
 refine⟨t,fun _=>ht,fun h=>?_⟩
 have hb1:=qxq hz
 have hb2:=quT e
 obtain⟨f1,f2⟩:=hfit t (qcm e+1) (by rw[ht];exact hft) (by rw[ht,hsz];exact hn4)
 have hm:=hmk t (qcm e+1)
 have hli:=quZ hC (mk t (qcm e+1)) (by omega)
 have hc2:=qg2 hC.toCLib (qbN (qa9 (mk t (qcm e+1)))) (by unfold qbN;rw[qdz];omega) (qiK _ 0 f1)
 have hdF:=qbg (qbN (qa9 (mk t (qcm e+1))))
 have w9:IntKind.i64.wrap (qcm e+9)=qcm e+9:=qc5 (by omega) (by omega)
 have w1:IntKind.i64.wrap (qcm e+1)=qcm e+1:=qc5 (by omega) (by omega)
 refine qbK hL h280 (qrQ _ _) ?_ h
 rw[hz] at hck
 obtain⟨tc,htc,hdt⟩:=qd4 t
 obtain⟨tc2,htc2,hdt2⟩:=qd4 (mk t (qcm e+1))
 rw[htc] at hg hm
 rw[htc2] at hm hli
 unfold arF
 rw[hz]
 by_cases h1:e.length≤1500
 ·have b1:((e.length:Int) > 1500)=False:=by simp;omega
  by_cases h2:qcm e+9<1048576
  ·have b2:(qcm e+9≥1048576)=False:=by simp;omega
   rw[if_pos ⟨rfl,h1,h2⟩]
   generalize qbN (qa9 (mk t (qcm e+1)))=F at *
   generalize qcm e=m at *
   unfold fn280
   simp -implicitDefEqProofs only[qam,qad,qae,qab,qap,qac,qau,qah,aOp,opd,qai,qak,qag,qbb,qcg,qba,qaj,qaw,qaT,qan,qax,qaH,qbo,qgX,qbx,qcF,qbD,qaa,qaq,qaQ,qav,qao,beq_self_eq_true,Option.getD_some,List.map_cons,List.map_nil,List.length_map,List.cons_append,List.nil_append,List.append_nil,List.getElem?_cons_zero,List.getElem?_cons_succ,↓reduceIte,Bool.and_true,Bool.not_true,Bool.false_eq_true,decide_false,and_self,reduceCtorEq,Nat.reduceEqDiff,ge_iff_le,gt_iff_lt,qa7,qaI,hck,b1,b2,hmo,hg,hm,hli,hc2,w9,w1,hdE,hdF,hdt,hdt2,bne,qes,qaN L hp,hp]
  ·have b2:(qcm e+9≥1048576)=True:=by simp;omega
   rw[if_neg (fun h=>h2 h.2.2)]
   generalize qcm e=m at *
   unfold fn280
   simp -implicitDefEqProofs only[qad,qae,qab,qap,qac,qau,qah,aOp,opd,qai,qak,qag,qbb,qcg,qba,qaj,qaw,qaT,qan,qax,qaH,qbo,qgX,qcF,qaa,qav,qao,beq_self_eq_true,Option.getD_some,List.map_cons,List.map_nil,List.length_map,List.getElem?_cons_zero,↓reduceIte,Bool.and_true,Bool.not_true,Bool.false_eq_true,decide_true,decide_false,and_self,reduceCtorEq,Nat.reduceEqDiff,ge_iff_le,gt_iff_lt,qa7,qaI,hck,b1,b2,hmo,w9,w1,hdE,bne,qaN L hp,hp,List.map_nil]
 ·have b1:((e.length:Int) > 1500)=True:=by simp;omega
  rw[if_neg (fun h=>h1 h.2.1)]
  unfold fn280
  simp -implicitDefEqProofs only[qad,qae,qab,qap,qac,qau,qah,aOp,opd,qai,qak,qag,qbb,qcg,qba,qaj,qaw,qaT,qan,qax,qaH,qbo,qgX,qcF,qaa,qav,qao,qc4,beq_self_eq_true,Option.getD_some,List.map_cons,List.map_nil,List.length_map,List.getElem?_cons_zero,↓reduceIte,Bool.and_true,Bool.not_true,Bool.false_eq_true,decide_true,and_self,reduceCtorEq,Nat.reduceEqDiff,gt_iff_lt,qa7,qaI,hck,b1,hdE,bne,qaN L hp,hp,List.map_nil]
end
theorem qmG {op:Int} {binds:List Int} {as:List CAlt} {k:Nat} {v:Int} (h:v∈qcM op binds as k):v∈qb3 op binds as:=by
 unfold qcM at h
 unfold qb3
 split at h
 ·rename_i ho
  have:qf9 op=true:=by
   unfold qf9
   rcases ho with ho | ho | ⟨ho,_⟩<;>subst ho<;>rfl
  rw[if_pos this]
  exact List.mem_append_left _ h
 ·split at h
  ·split at h
   ·rename_i a ha
    exact List.mem_append_right _ (List.mem_flatMap.2 ⟨a,List.mem_of_getElem? ha,h⟩)
   ·cases h
  ·cases h
theorem qol {id:Int}:∀ {ks:List CTree},qfD id ks≠0→∃ j,∃ hj:j<ks.length,qh6 id ks[j]≠0
 | [],h=>absurd (by rw[qfD]) h
 | k :: ks,h => by
   by_cases hk:qh6 id k=0
   ·rw[qfD,hk,Nat.zero_add] at h
    obtain⟨j,hj,h2⟩:=qol h
    exact⟨j+1,by simpa using hj,h2⟩
   ·exact⟨0,by simp,hk⟩
theorem qsR (id:Int) (t:CTree):qh6 id t≠0→(∃ l∈qdI t,id∈qka l)∨qke id t:=by
 induction t using CTree.ind with
 | h op n binds kids alts ih =>
   intro h
   rw[qh6] at h
   rw[qdI,qke]
   by_cases h0:op=0
   ·rw[if_pos h0] at h
    by_cases hn:n=id
    ·exact .inr (.inl ⟨h0,hn⟩)
    ·rw[if_neg hn] at h;exact absurd rfl h
   ·rw[if_neg h0] at h
    obtain⟨j,hj,h2⟩:=qol h
    rcases ih _ (List.getElem_mem hj) h2 with ⟨l,h3,h4⟩ | h3
    ·exact .inl ⟨l,List.mem_append_left _ (qsP (List.getElem_mem hj) l h3),h4⟩
    ·by_cases hb:id∈qcM op binds alts j
     ·refine .inl ⟨⟨op,n,binds,kids.map qiP,alts⟩,List.mem_append_right _ List.mem_cons_self,?_⟩
      unfold qka
      exact qmG hb
     ·exact .inr (.inr ((qjy id op binds alts kids 0).2 ⟨j,hj,h3,by rw[Nat.zero_add];exact hb⟩))
theorem qss {e:List CExpr} (hz:qbH e=0):qh6 (qcm e+1) (qb2 e)=0:=by
 refine Classical.not_not.1 fun h=>?_
 obtain⟨hT,_,_,_,_,hfr⟩:=qcJ hz
 rcases qsR _ _ h with ⟨l,h1,h2⟩ | h1
 ·obtain⟨X,x1,x2,x3⟩:=qoi e hT.ahead (e.length-1) (by have:=hT.pos;omega)
  rw[← qfi] at x1
  rw[x1] at h1
  obtain⟨i,hi,rfl⟩:=List.mem_map.1 h1
  have hil:i<e.length:=by have:=x3 i hi;have:=hT.pos;omega
  refine qrj e (List.mem_flatMap.2 ⟨e[i],List.getElem_mem hil,?_⟩)
  unfold qpu at h2
  rw[List.getElem?_eq_getElem hil] at h2
  exact h2
 ·have:=(qq7 (qb2 e) (qcm e+1)).2 h1
  rw[hfr] at this
  cases this
def qlN (c:Int) (t:CTree) (id:Int):CTree:=qnn id (quB (c.tmod 1000)) t
theorem qq2 {e:List CExpr} (hz:qbH e=0) (c:Int) (hF:qbH (qbN (qlN c (qb2 e) (qcm e+1)))=0) (N:Nat) (hN:N+1=(qbN (qlN c (qb2 e) (qcm e+1))).length) :
  qkp (qbN (qlN c (qb2 e) (qcm e+1))) 3 (N:Int) 0=(qbN (qb2 e),0):=by
 have hg:=qhq (qlN c (qb2 e) (qcm e+1))
 have hT:=(qcJ hF).1
 generalize hf:qbN (qlN c (qb2 e) (qcm e+1))=f at *
 have ht:qcw f N=qlN c (qb2 e) (qcm e+1):=by
  rw[← hg,qfi,show f.length-1=N by omega]
 unfold qkp
 rw[if_pos hF,if_neg (by omega),if_neg (by omega),Int.toNat_natCast,ht]
 have hr:qtJ 3 0 (qlN c (qb2 e) (qcm e+1))=some (qb2 e):=by
  unfold qlN qnn quB
  rw[qtJ,if_neg (by decide),if_neg (by rintro ⟨h,_⟩;exact absurd h (by decide)),if_pos rfl,qhY,if_neg (by rintro ⟨h,_⟩;exact absurd h (by decide)),if_pos ⟨rfl,qss hz,rfl⟩]
 rw[hr]
 unfold qmC
 dsimp only
 have hrep:qeg f N (qb2 e) (f.length-1)=qb2 e:=by
  rw[qlc f hT.ahead N (qb2 e) (f.length-1) (by omega),if_pos (by omega)]
 rw[hrep,if_pos (qlU hz)]
section
variable {L:Lib} (hR:RLib L) (hC:CLib2 L)
include hR hC
theorem qle (h141:L.fns 141=some fm141) (h153:L.fns 153=some fn153) (h271:L.fns 271=some fn271) (h280:L.fns 280=some fn280) (h284:L.fns 284=some fn284) (h291:L.fns 291=some fn291) (h292:L.fns 292=some fn292)
  (hfact:∀ h:Heap,pcall L 282 [] h=some (.val (.bool true),h)) (e:List CExpr) (hl:e.length<2 ^ 30) (hf:∀ x∈e,NodeFit x) (c:Int) (h:Heap) :
  pcall L 271 [.list (e.map qaP) none,.int .i64 c] h=some (.val (.bool true),h):=by
 have hL:=hC.plain
 have hp:=hL.pure
 have hdE:=qbg e
 have htr:∀ (t:CNode) (id:Int),qa9 (nB_ 4 [id] [nN 1 (c.tmod 1000) [],t])=qlN c (qa9 t) id:=by
  intro t id
  unfold nB_ nN
  rw[qfM]
  simp only[List.map_cons,List.map_nil,qfM]
  rfl
 have hfitI:TFit (quB (c.tmod 1000)):=.mk _ _ _ _ _ (by simp) (by simp) (by simp) (fun k hk=>by cases hk)
 have hsizeI:qbv (quB (c.tmod 1000))=1:=by unfold quB;rw[qbv,qa6]
 obtain⟨t,ht,hA⟩:=qrS hC h141 h280 h291 h292 284 c (fun t id=>nB_ 4 [id] [nN 1 (c.tmod 1000) [],t]) (fun t id h=>qtM hC h153 h284 c t id h)
  (fun t id h1 h2=>by rw[htr];exact⟨qi8 _ hfitI h1,by unfold qlN;rw[qhw,hsizeI];omega⟩) e hl hf
 refine qbK hL h271 rfl ?_ h
 unfold arF at hA
 by_cases hc:qbH e=0∧e.length≤1500∧qcm e+9<1048576
 case neg =>
  simp only[if_neg hc,List.map_nil] at hA
  unfold fn271
  simp -implicitDefEqProofs only[qad,qae,qab,qap,qac,qah,aOp,opd,qai,qak,qag,aUn,leaf,qaM,qaT,qan,qax,qaH,qbo,qbf,qcG,qbq,qaa,qaq,qbP,qaQ,qav,qao,Option.getD_some,List.map_cons,List.map_nil,List.length_nil,List.nil_append,List.getElem?_cons_zero,List.getElem?_cons_succ,List.set_cons_zero,List.all_cons,List.all_nil,↓reduceIte,Bool.and_true,Bool.not_false,and_self,reduceCtorEq,Nat.reduceEqDiff,qbO,qca,qcC,qc0,frz,frzC,qja,qa7,qaI,hA,hfact,hdE,qaN L hp,hp]
 have hz:=hc.1
 have ht:=ht hz
 simp only[if_pos hc,htr,ht] at hA
 obtain⟨hft,hsz⟩:=qgx hz hf
 obtain⟨_,hn4,_⟩:=qcJ hz
 cases hb:qbH (qbN (qlN c (qb2 e) (qcm e+1)))==0 with
 | false =>
   rw[hb] at hA
   have hdF:=qbg (qbN (qlN c (qb2 e) (qcm e+1)))
   generalize qbN (qlN c (qb2 e) (qcm e+1))=F at *
   unfold fn271
   simp -implicitDefEqProofs only[qad,qae,qab,qap,qac,qah,aOp,opd,qai,qak,qag,aUn,leaf,qaM,qaT,qan,qax,qaH,qbo,qbf,qcG,qbq,qaa,qaq,qbP,qaQ,qav,qao,Option.getD_some,List.map_cons,List.map_nil,List.length_nil,List.nil_append,List.getElem?_cons_zero,List.getElem?_cons_succ,List.set_cons_zero,List.all_cons,List.all_nil,↓reduceIte,Bool.and_true,Bool.not_false,and_self,reduceCtorEq,Nat.reduceEqDiff,qbO,qca,qcC,qc0,frz,frzC,qja,qa7,qaI,hA,hfact,hdE,hdF,qaN L hp,hp]
 | true =>
   rw[hb] at hA
   have hF:qbH (qbN (qlN c (qb2 e) (qcm e+1)))=0:=by simpa using hb
   have hlen:(qbN (qlN c (qb2 e) (qcm e+1))).length=qbv (qb2 e)+2:=by
    unfold qbN;rw[qdz];unfold qlN;rw[qhw,hsizeI];omega
   have hdrop:=qq2 hz c hF (qbv (qb2 e)+1) (by omega)
   have hap:=fun h=>qtP hR (qbN (qlN c (qb2 e) (qcm e+1))) (by omega) (qiK _ 0 (qi8 _ hfitI hft)) 3 ((qbv (qb2 e)+1:Nat):Int) 0 ⟨by decide,by decide⟩ h
   rw[hdrop] at hap
   dsimp only at hap
   have hck:=qlU hz
   have hlen2:(qbN (qb2 e)).length=e.length:=by unfold qbN;rw[qdz,hsz]
   have hsm:=qrs hC e (qbN (qb2 e)) hl hf (by omega) (qiK _ 0 hft)
   have hsame:qqG e (qbN (qb2 e))=true:=by
    unfold qqG
    rw[hz,hck,qhq,(qoz (qb2 e) [] (fun v w h=>by cases h)).1]
    rfl
   rw[hsame] at hsm
   have hdF:=qbg (qbN (qlN c (qb2 e) (qcm e+1)))
   have hdG:=qbg (qbN (qb2 e))
   have w:IntKind.i64.wrap (((qbN (qlN c (qb2 e) (qcm e+1))).length:Int)-1)=((qbv (qb2 e)+1:Nat):Int):=by rw[qc5 (by omega) (by omega)];omega
   generalize qbN (qlN c (qb2 e) (qcm e+1))=F at *
   generalize qbN (qb2 e)=G at *
   generalize ((qbv (qb2 e)+1:Nat):Int)=m at *
   unfold fn271
   simp -implicitDefEqProofs only[qam,qad,qae,qab,qap,qac,qau,qah,aOp,opd,qai,qak,qag,qbb,qcg,qba,aUn,qaj,qaw,qcZ,qdf,leaf,qaM,qaV,qaT,qan,qax,qaH,qck,qbo,qbf,qcG,qbq,qaa,qaq,qch,qbP,qaQ,qav,qao,beq_self_eq_true,Option.map_some,Option.getD_some,List.map_cons,List.map_nil,List.length_cons,List.length_nil,List.length_map,List.cons_append,List.nil_append,List.getElem?_cons_zero,List.getElem?_cons_succ,List.set_cons_zero,List.take_succ_cons,List.take_zero,List.drop_succ_cons,List.drop_zero,List.all_cons,List.all_nil,↓reduceIte,Bool.and_true,Bool.not_true,Bool.false_eq_true,false_and,and_self,reduceCtorEq,Nat.zero_add,Nat.reduceEqDiff,Nat.reduceAdd,Nat.reduceLT,Nat.reduceLeDiff,qbO,qca,qcC,qc0,frz,frzC,qja,qa7,qaI,hA,hfact,hap,hsm,w,hdE,hdF,hdG,qaN L hp,hp]
end
end Go.Abs
