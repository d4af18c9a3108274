/-
  PARTS OF A PROOF, joined: an abstract machine for quiet code, its evaluation, and what the seat's functions answer on it. Conditions: none.
-/
import Derived.Test.YtbmognfolkhkpaaDoorPA
import Derived.Test.YtbmognfolkhkpaaDoorNA
set_option linter.unusedVariables false
set_option linter.unusedSimpArgs false
set_option maxRecDepth 100000
set_option maxHeartbeats 4000000
namespace Go.Abs
structure PLib (L:Lib):Prop where
 f144:L.fns 144=some fn144
 f173:L.fns 173=some fn173
 f209:L.fns 209=some fn209
 f210:L.fns 210=some fn210
 f211:L.fns 211=some fn211
 f243:L.fns 243=some fn243
theorem qeQ {op n:Int} {bl kl:Nat} {as:List CAlt} (h:qb1 op n bl kl as=true):(op=2→kl=1)∧((op=8∨op=3∨op=7∨op=10∨op=11)→0<kl)∧(op=8→¬ (n=7∨n=9)→1<kl):=by
 by_cases ho:op=7∨op=13
 ·have:=(qfC h).1 ho
  exact⟨fun h2=>by omega,fun _=>by omega,fun h8=>by omega⟩
 ·unfold qb1 at h
  rw[if_neg ho] at h
  split at h
  ·cases h
  ·rename_i r hr
   unfold qcF at h
   simp only[Bool.and_eq_true,beq_iff_eq] at h
   have hk:=h.1.1.1
   unfold kbu at hr
   refine⟨fun h2=>?_,fun hh=>?_,fun h8 hn=>?_⟩
   ·subst h2
    simp at hr
    rw[← hr] at hk
    simp at hk
    omega
   ·rcases hh with rfl | rfl | rfl | rfl | rfl
    ·simp only[show ¬((8:Int)=0∨(8:Int)=1∨(8:Int)=17) by omega,show ¬(8:Int)=2 by omega,show ¬(8:Int)=3 by omega,show ¬(8:Int)=4 by omega,show ¬(8:Int)=5 by omega,show ¬(8:Int)=6 by omega,if_true,if_false] at hr
     split at hr
     ·injection hr with hr
      rw[← hr] at hk
      dsimp only at hk
      unfold qka at hk
      split at hk
      ·omega
      ·split at hk<;>omega
     ·cases hr
    ·simp at hr
     rw[← hr] at hk
     dsimp only at hk
     omega
    ·omega
    ·simp at hr
     rw[← hr] at hk
     simp at hk
     omega
    ·simp at hr
     rw[← hr] at hk
     simp at hk
     omega
   ·subst h8
    simp only[show ¬((8:Int)=0∨(8:Int)=1∨(8:Int)=17) by omega,show ¬(8:Int)=2 by omega,show ¬(8:Int)=3 by omega,show ¬(8:Int)=4 by omega,show ¬(8:Int)=5 by omega,show ¬(8:Int)=6 by omega,if_true,if_false] at hr
    split at hr
    ·injection hr with hr
     rw[← hr] at hk
     dsimp only at hk
     unfold qka at hk
     rw[if_neg hn] at hk
     split at hk<;>omega
    ·cases hr
theorem qnr {e:List CExpr} {k:Int} (h:k.toNat<e.length):qb3 e k=e[k.toNat]:=by
 unfold qb3
 rw[List.getElem?_eq_getElem h]
 rfl
theorem qkj (e l:List CExpr) (x:CExpr) (acc:List Nat):qby e (l++[x]) acc=qby e l acc++[qkk e (qby e l acc) x]:=by
 unfold qby
 rw[List.foldl_append]
 rfl
theorem qd9 (e:List CExpr):∀ (l:List CExpr) (acc:List Nat),(qby e l acc).length=acc.length+l.length
 | [],acc=>rfl
 | x :: l,acc => by
   unfold qby
   rw[List.foldl_cons]
   have:=qd9 e l (acc++[qkk e acc x])
   unfold qby at this
   rw[this]
   simp
   omega
theorem qrZ (e:List CExpr) (acc:List Nat) (hacc:∀ a∈acc,a<64) (x:CExpr) (k v:Nat) (hv:v<64) (kid:Int):qit e acc x k v kid<64:=by
 have hget64:∀ m,acc.getD m 0<64:=by
  intro m
  rw[List.getD_eq_getElem?_getD]
  cases h:acc[m]? with
  | none=>simp
  | some a=>simpa using hacc a (List.mem_of_getElem? h)
 unfold qit
 split
 ·exact hv
 ·split<;>exact Nat.or_lt_two_pow (n:=6) hv (hget64 _)
theorem qlP (e:List CExpr) (acc:List Nat) (hacc:∀ a∈acc,a<64) (x:CExpr):∀ (ks:List Int) (k v:Nat),v<64→qey e acc x ks k v<64
 | [],_,v,hv=>hv
 | kid::ks,k,v,hv=>qlP e acc hacc x ks (k+1) _ (qrZ e acc hacc x k v hv kid)
theorem qnp (e:List CExpr):∀ (l:List CExpr) (acc:List Nat),(∀ a∈acc,a<64)→∀ a∈qby e l acc,a<64
 | [],acc,h=>h
 | x :: l,acc,h => by
   unfold qby
   rw[List.foldl_cons]
   have:=qnp e l (acc++[qkk e acc x]) (fun a ha=>by
    rcases List.mem_append.1 ha with ha | ha
    ·exact h a ha
    ·rw[List.mem_singleton.1 ha]
     exact qlP e acc h x _ 0 _ (own_lt _ _ _ _))
   exact this
def qe6 (e:List CExpr) (i:Nat):List AVal:=(qby e (e.take i) []).map qhO++List.replicate (e.length-i) (qhO 0)
theorem qrm (e:List CExpr) (i:Nat) (hi:i<e.length):qe6 e i=qcv (qby e (e.take i) []) 0 (e.length-i-1):=by
 unfold qe6 qcv
 rw[show e.length-i=(e.length-i-1)+1 by omega,List.replicate_succ]
 rfl
theorem qoY (e:List CExpr) (i:Nat) (hi:i<e.length):qe6 e (i+1)=qcv (qby e (e.take i) []) (qkk e (qby e (e.take i) []) e[i]) (e.length-i-1):=by
 unfold qe6 qcv
 rw[List.take_succ_eq_append_getElem hi,qkj,List.map_append,List.append_assoc,show e.length-(i+1)=e.length-i-1 by omega]
 rfl
theorem qfM (acc:List Nat) (v z:Nat):qaZ (qcv acc v z)=true:=by
 unfold qcv
 rw[qcB,qcW qhO (fun _=>rfl) acc,qaZ]
 have:qaZ (List.replicate z (qhO 0))=true:=by
  induction z with
  | zero=>rfl
  | succ z ih=>rw[List.replicate_succ,qaZ,ih];rfl
 rw[this]
 rfl
section
variable {L:Lib} (hC:CLib2 L) (hP:PLib L)
include hC hP
theorem qxu (e:List CExpr) (hl:e.length<2 ^ 30) (hf:∀ x∈e,NodeFit x) (hz:qb6 e=0) :
  qb7 L.pure (call L) 1 [0,5,21,22,23] [5] 0 qjL ⟨kt [0,5,21,22,23] [.list (e.map qaO) none,.vec 0 e.length,.list (e.map qaO) none,.int .i64 e.length,.int .i64 ((0:Nat):Int)],[.vec (qe6 e 0) 1]⟩ =
   some (.normal,⟨kt [5] [.vec 0 e.length],[.vec (qe6 e e.length) 1]⟩):=by
 have hL:=hC.plain
 have hp:=hL.pure
 have hdE:=qbu e
 obtain⟨hT,hn4,_,hlab,_⟩:=qdI hz
 refine qeb (fun i=>⟨kt [0,5,21,22,23] [.list (e.map qaO) none,.vec 0 e.length,.list (e.map qaO) none,.int .i64 e.length,.int .i64 (i:Int)],[.vec (qe6 e i) 1]⟩) e.length ?_ ?_
 ·intro i hi
  obtain⟨h1,h2,h3⟩:=qbF qaO e hl i hi
  have hx:=hf e[i] (List.getElem_mem hi)
  have hs:=qgz (hlab e[i] (List.getElem_mem hi))
  unfold qhI at hs
  dsimp only at hs
  rw[List.length_map] at hs
  obtain⟨s1,s2,s3⟩:=qeQ hs
  have hkl:=qo6 e hT e[i] (List.getElem_mem hi)
  have hacl:(qby e (e.take i) []).length=i:=by rw[qd9];simp;omega
  have hac64:=qnp e (e.take i) [] (by simp)
  have hkid:∀ k∈e[i].kids,0≤k∧k.toNat<i∧k.toNat<e.length∧((qb3 e k).op=2→∃ k0,(qb3 e k).kids[0]? = some k0∧0≤k0∧k0.toNat<i):=by
   intro k hk
   have ha:=hT.ahead i hi k hk
   refine⟨ha.1,by omega,by omega,fun h2=>?_⟩
   have hkn:k.toNat<e.length:=by omega
   have hex:=qnr hkn
   rw[hex] at h2 ⊢
   have hs2:=qgz (hlab e[k.toNat] (List.getElem_mem hkn))
   unfold qhI at hs2
   dsimp only at hs2
   rw[List.length_map] at hs2
   have:=(qeQ hs2).1 h2
   have h0:0<e[k.toNat].kids.length:=by omega
   refine⟨e[k.toNat].kids[0],List.getElem?_eq_getElem h0,?_⟩
   have:=hT.ahead k.toNat hkn _ (List.getElem_mem h0)
   omega
  have hl0:=qxs (L:=L) e i e[i] (by omega) (fun k hk=>⟨(hkid k hk).1,(hkid k hk).2.2.1⟩) e.length (.vec (qcv (qby e (e.take i) []) 0 (e.length-i-1)) 1)
  obtain⟨R,hR⟩:=qvd e e[i] e[i].kids.length
  have hlook:=qr5 e e[i] (.vec (qcv (qby e (e.take i) []) 0 (e.length-i-1)) 1)
  rw[hR] at hlook
  have hkb:(qgc (qhH (e[i].kids.map fun k=>qeW (qb3 e k)))).length<2 ^ 30:=by
   unfold qhH
   cases hq:e[i].kids with
   | nil=>simp[CTree.none,qgc]
   | cons k ks =>
     have hkm:=hkid k (by rw[hq];simp)
     obtain⟨_,_,hkn,_⟩:=hkm
     have hex:=qnr hkn
     have:=(hf e[k.toNat] (List.getElem_mem _)).binds
     simp only[List.map_cons,List.getD_cons_zero]
     unfold qeW qgc
     rw[hex]
     exact this
  have hown:=qxo hC hP.f243 hP.f209 hP.f210 hP.f211 hP.f173 e[i].op e[i].n e[i].binds (e[i].kids.map fun k=>qeW (qb3 e k)) e[i].alts (by rw[List.length_map];omega) hx.alts hkb
   ⟨fun h=>by rw[List.length_map];exact s2 h,fun h8 hn=>by rw[List.length_map];exact s3 h8 hn⟩
  have hv:qi7 (call L) 173 [.ptr (some (2,0))] (.vec (qcv (qby e (e.take i) []) 0 (e.length-i-1)) 1::qdf e[i] (.list (e[i].kids.map qa4) none)::R) =
    some (.val (.int .i64 (qgE e[i].op e[i].n (e[i].kids.map fun k=>qeW (qb3 e k)) e[i].alts)),.vec (qcv (qby e (e.take i) []) 0 (e.length-i-1)) 1::qdf e[i] (.list (e[i].kids.map qa4) none)::R):=by
   refine qf8 (args':=[qa1 (qr8 e e[i])]) ?_ ?_ rfl (hown _)
   ·simp only[List.map_cons,List.map_nil,hlook]
   ·rw[qaZ,qaZ,qc3];rfl
  have hown64:=own_lt e[i].op e[i].n (e[i].kids.map fun k=>qeW (qb3 e k)) e[i].alts
  obtain⟨_,hl1⟩:=qxt (L:=L) e i e[i] (R.length+1+1) (by omega) hx.binds e.length (qby e (e.take i) []) (e.length-i-1) (by omega) hacl hac64 hkid R _ hown64
  have hput:=qlB (qby e (e.take i) []) 0 (qgE e[i].op e[i].n (e[i].kids.map fun k=>qeW (qb3 e k)) e[i].alts) (e.length-i-1)
  rw[hacl] at hput
  have hclen:=qlA (qby e (e.take i) []) 0 (e.length-i-1)
  have hle:i+1≤(qcv (qby e (e.take i) []) 0 (e.length-i-1)).length:=by omega
  rw[qrm e i hi,qoY e i hi]
  have hR0:qim e e[i] (.vec (qcv (qby e (e.take i) []) 0 (e.length-i-1)) 1) 0=[.vec (qcv (qby e (e.take i) []) 0 (e.length-i-1)) 1,qdf e[i] (.list (e[i].kids.map qa4) none),qdf e[i] (.list [] (some none))]:=rfl
  unfold qxy qx3 at hl0
  rw[hR0,hR] at hl0
  unfold qsF qup at hl1
  simp only[Int.natCast_zero] at hl0 hl1
  have hid:=qhf (qfM (qby e (e.take i) []) 0 (e.length-i-1))
  have hre:=fun ρ=>qhh ρ (qfM (qby e (e.take i) []) 0 (e.length-i-1))
  have hid':=qhf (qfM (qby e (e.take i) []) (qkk e (qby e (e.take i) []) e[i]) (e.length-i-1))
  have hre':=fun ρ=>qhh ρ (qfM (qby e (e.take i) []) (qkk e (qby e (e.take i) []) e[i]) (e.length-i-1))
  have heff:qey e (qby e (e.take i) []) e[i] e[i].kids 0 (qgE e[i].op e[i].n (e[i].kids.map fun k=>qeW (qb3 e k)) e[i].alts)=qkk e (qby e (e.take i) []) e[i]:=rfl
  rw[heff] at hl1
  have hiN:(i:Int)<e.length:=by omega
  have h1le:1≤R.length+1+1:=by omega
  generalize qkk e (qby e (e.take i) []) e[i]=w at *
  generalize qgE e[i].op e[i].n (e[i].kids.map fun k=>qeW (qb3 e k)) e[i].alts=v at *
  generalize qby e (e.take i) []=acc at *
  generalize e.length-i-1=zz at *
  clear hx hs hkl hkid hlook hkb hown hR hR0 s1 s2 s3 heff
  generalize e[i]=x at *
  generalize qcv acc 0 zz=c0 at *
  generalize qcv acc v zz=c1 at *
  generalize qcv acc w zz=c2 at *
  unfold qdf at *
  unfold qjL
  simp -implicitDefEqProofs only[qam,qad,qae,qab,qai,qac,qah,aOp,opd,qak,qaW,qaB,qag,qaV,qba,qcb,qa8,qan,qaj,qay,qbr,qbE,qaE,qcK,qcX,leaf,qau,qaJ,qbn,qaR,qaU,qaX,qaf,qaF,qas,qaH,qaG,qa5,ren,renC,qbT,qb2,qaa,qaq,Option.map_some,List.map_cons,List.map_nil,List.flatMap_cons,List.flatMap_nil,List.length_cons,List.length_nil,List.length_map,List.cons_append,List.nil_append,List.append_nil,List.append_assoc,List.getElem?_cons_zero,List.getElem?_cons_succ,List.set_cons_zero,List.set_cons_succ,List.take_succ_cons,List.take_zero,List.drop_succ_cons,List.drop_zero,List.take_nil,List.drop_nil,List.all_cons,List.all_nil,List.not_mem_nil,↓reduceIte,Bool.and_true,Bool.false_eq_true,and_true,not_false_eq_true,decide_true,decide_false,and_self,Nat.le_refl,reduceCtorEq,Nat.add_zero,Nat.zero_add,Nat.reduceEqDiff,Nat.reduceAdd,Nat.reduceLT,Nat.reduceLeDiff,Int.toNat_natCast,Int.natCast_nonneg,qaz,qa0,qbB,qce,qcH,qcA,Nat.mul_one,h1,h2,h3,hl0,hv,hl1,hput,hle,hiN,hid,hre,hid',hre',h1le,hdE,qaK L hp,hp]
 ·have h0:=qbG e.length
  have hdc:qaZ (qe6 e e.length)=true:=by
   unfold qe6
   rw[qcB,qcW qhO (fun _=>rfl),Nat.sub_self]
   rfl
  have hid:=qhf hdc
  have hre:=fun ρ=>qhh ρ hdc
  generalize qe6 e e.length=c at *
  unfold qjL
  simp -implicitDefEqProofs only[qad,qae,qab,qbj,qac,qah,aOp,opd,qak,qaB,qag,qba,qa8,qaj,gcE,qaX,qaf,qaF,qas,qaH,qaG,qa5,ren,renC,qbT,qb2,List.map_cons,List.map_nil,List.flatMap_cons,List.flatMap_nil,List.length_cons,List.length_nil,List.append_nil,List.take_succ_cons,List.take_nil,List.not_mem_nil,↓reduceIte,Bool.false_eq_true,and_true,not_false_eq_true,decide_false,Nat.le_refl,reduceCtorEq,Nat.zero_add,Nat.reduceEqDiff,Nat.reduceLT,Nat.reduceLeDiff,qaz,qa0,qce,qcH,qcA,h0,hid,hre,hdE]
end
end Go.Abs
set_option linter.unusedVariables false
set_option linter.unusedSimpArgs false
set_option maxRecDepth 100000
set_option maxHeartbeats 4000000
namespace Go.Abs
def qqO (e:List CExpr):List Nat × Int:=if qb6 e=0 then (qby e e [],0) else ([],qb6 e)
theorem qnq (l:List Nat):l.map qhO=(l.map fun n:Nat=>(n:Int)).map qa4:=by rw[List.map_map];rfl
section
variable {L:Lib} (hC:CLib2 L) (hP:PLib L)
include hC hP
theorem quF (e:List CExpr) (hl:e.length<2 ^ 30) (hf:∀ x∈e,NodeFit x) (h:Heap) :
  pcall L 144 [.list (e.map qaO) none] h=some (.val (.tuple [.list ((qqO e).1.map qhO) none,.int .i64 (qqO e).2]),h):=by
 have hL:=hC.plain
 have hp:=hL.pure
 have hdE:=qbu e
 have hck:=qmr hC.toCLib e hl hf
 unfold qqO
 by_cases hz:qb6 e=0
 ·rw[if_pos hz]
  rw[hz] at hck
  have hs:L.summ 144=none:=hL.summ 144 (by rw[hP.f144];exact fun hx=>by cases hx)
  have hl2:=qxu hC hP e hl hf hz
  have hc0:qe6 e 0=List.replicate e.length (.int .i64 0):=rfl
  have hdc0:qaZ (qe6 e 0)=true:=by
   rw[hc0]
   clear hl2 hc0 hck hdE hz hl hf
   generalize e.length=m
   induction m with
   | zero=>rfl
   | succ m ih=>rw[List.replicate_succ,qaZ,ih];rfl
  have hcN:qe6 e e.length=(qby e e []).map qhO:=by
   unfold qe6
   rw[List.take_length,Nat.sub_self]
   simp
  have hdcN:qaZ ((qby e e []).map qhO)=true:=qcW qhO (fun _=>rfl) _
  have hlen:(qby e e []).length=e.length:=by rw[qd9];simp
  rw[hcN] at hl2
  have hid0:=qhf hdc0
  have hre0:=fun ρ=>qhh ρ hdc0
  have hidN:=qhf hdcN
  have hreN:=fun ρ=>qhh ρ hdcN
  have hn:((e.length:Int)≤1073741824):=by omega
  simp only[Int.natCast_zero] at hl2
  rw[hc0] at hl2 hid0 hre0
  have hcall:call L 144 [.list (e.map qaO) none] []=some (.val (.tuple [.vec 0 e.length,.int .i64 0]),[.vec ((qby e e []).map qhO) 1]):=by
   refine qbH hs hP.f144 ?_
   generalize (qby e e []).map qhO=cN at *
   unfold fn144
   simp -implicitDefEqProofs only[qam,qad,qae,qab,qar,qac,qah,aOp,opd,qak,qal,qaB,qag,qba,qcb,qa8,qaj,qaS,qao,qaw,qaI,qaU,qaX,qaf,qaF,qas,qaH,qaG,qa5,ren,renC,qbT,qb2,qbx,qaa,qaq,qav,qat,Option.getD_some,List.map_cons,List.map_nil,List.flatMap_cons,List.flatMap_nil,List.length_cons,List.length_nil,List.length_map,List.nil_append,List.append_nil,List.getElem?_cons_zero,List.take_succ_cons,List.take_nil,List.not_mem_nil,↓reduceIte,Bool.and_true,Bool.false_eq_true,and_true,not_false_eq_true,decide_false,and_self,Nat.le_refl,reduceCtorEq,Nat.zero_add,Nat.reduceEqDiff,Nat.reduceLT,Nat.reduceLeDiff,Int.toNat_natCast,Int.natCast_nonneg,Int.reduceBNe,qa3,qce,qcH,qcA,Int.le_refl,hck,hl2,hid0,hre0,hidN,hreN,hn,hdE,qaK L hp,hp]
  refine qdp hcall ?_ ?_ h
  ·unfold qfL
   rw[if_neg (by simp[wipeR,wipe,wipeCell,qbd,qaZ])]
   unfold viewV
   rw[qbO,if_neg (by simp[qbd,qaZ])]
   unfold qc0
   dsimp only
   simp only[List.map_cons,List.map_nil]
   rw[qdv (v:=.int .i64 0) rfl]
   have:qbO [AObj.vec ((qby e e []).map qhO) 1] 1999 (.vec 0 e.length)=.list ((qby e e []).map qhO) none:=by
    rw[qbO,if_neg (by simp[qbd])]
    unfold qc0
    dsimp only
    have hlf:((qby e e []).map qhO).all leaf=true:=by rw[qnq];exact qnO _
    have hvw:((qby e e []).map qhO).map (qbO [AObj.vec ((qby e e []).map qhO) 1] 1998)=(qby e e []).map qhO:=by rw[qnq];exact qoy _ 1998 _
    simp only[List.getElem?_cons_zero]
    rw[if_pos hlf,if_pos ⟨trivial,by simp[hlen]⟩,hvw]
   rw[this]
   rfl
  ·simp only[qbd,qaZ,hdcN,Bool.and_self]
 ·rw[if_neg hz]
  have hne:(qb6 e != 0)=true:=by simpa using hz
  refine qbL hL hP.f144 rfl ?_ h
  dsimp only
  generalize qb6 e=r at *
  unfold fn144
  simp -implicitDefEqProofs only[qad,qae,qab,qar,qac,qah,aOp,opd,qak,qal,qag,qba,qa8,qaj,qaS,qao,qaw,qaI,qbx,qbw,qc1,qaa,qav,qat,Option.getD_some,List.map_cons,List.map_nil,List.getElem?_cons_zero,↓reduceIte,Bool.and_true,Bool.false_eq_true,and_self,reduceCtorEq,Nat.reduceEqDiff,qa3,qaD,hck,hne,hdE,List.map_nil,qaK L hp,hp]
end
def Sub (a b:Nat):Prop:=a ||| b=b
theorem Sub.refl (a:Nat):Sub a a:=Nat.or_self a
theorem Sub.trans {a b c:Nat} (h1:Sub a b) (h2:Sub b c):Sub a c:=by
 unfold Sub at *
 rw[← h2,← Nat.or_assoc,h1]
theorem sub_zero (b:Nat):Sub 0 b:=Nat.zero_or b
theorem qkE (e:List CExpr) (acc:List Nat) (x:CExpr) (h:x.op=2):∀ (ks:List Int) (k v:Nat),qey e acc x ks k v=v
 | [],_,_=>rfl
 | kid :: ks,k,v => by
   rw[qey,qkE e acc x h ks]
   unfold qit
   rw[if_pos (.inl h)]
theorem qw2 (e:List CExpr) (i:Nat) (hi:i<e.length):(qby e e []).getD i 0=qkk e (qby e (e.take i) []) e[i]:=by
 have hpre:∀ (l m:List CExpr) (acc:List Nat),qby e (l++m) acc=qby e m (qby e l acc):=by
  intro l m acc
  unfold qby
  rw[List.foldl_append]
 have hgrow:∀ (m:List CExpr) (acc:List Nat) (j:Nat),j<acc.length→(qby e m acc)[j]? = acc[j]? := by
  intro m
  induction m with
  | nil=>intro acc j _;rfl
  | cons x m ih =>
    intro acc j hj
    unfold qby at ih ⊢
    rw[List.foldl_cons,ih _ j (by simp;omega),List.getElem?_append_left hj]
 have hl:(qby e (e.take i) []).length=i:=by rw[qd9];simp;omega
 conv=>lhs;rw[← List.take_append_drop (i+1) e]
 have hsplit:qby e (e.take (i+1)++e.drop (i+1)) []=qby e (e.drop (i+1)) (qby e (e.take (i+1)) []):=hpre _ _ _
 rw[List.getD_eq_getElem?_getD,List.take_append_drop] 
 have h2:qby e e []=qby e (e.drop (i+1)) (qby e (e.take (i+1)) []):=by rw[← hsplit,List.take_append_drop]
 rw[h2,hgrow _ _ i (by rw[qd9];simp;omega),List.take_succ_eq_append_getElem hi,qkj,List.getElem?_append_right (by omega),hl,Nat.sub_self]
 rfl
theorem qu2 (e:List CExpr) (i j:Nat) (hi:i≤e.length) (hj:j<i):(qby e (e.take i) []).getD j 0=(qby e e []).getD j 0:=by
 have hgrow:∀ (m:List CExpr) (acc:List Nat) (j:Nat),j<acc.length→(qby e m acc)[j]? = acc[j]? := by
  intro m
  induction m with
  | nil=>intro acc j _;rfl
  | cons x m ih =>
    intro acc j hj
    unfold qby at ih ⊢
    rw[List.foldl_cons,ih _ j (by simp;omega),List.getElem?_append_left hj]
 have h2:qby e e []=qby e (e.drop i) (qby e (e.take i) []):=by
  conv=>lhs;rw[show qby e e []=qby e (e.take i++e.drop i) [] by rw[List.take_append_drop]]
  unfold qby
  rw[List.foldl_append]
 rw[List.getD_eq_getElem?_getD,List.getD_eq_getElem?_getD,h2,hgrow (e.drop i) (qby e (e.take i) []) j (by rw[qd9];simp;omega)]
end Go.Abs
set_option linter.unusedVariables false
set_option linter.unusedSimpArgs false
set_option maxRecDepth 100000
set_option maxHeartbeats 4000000
namespace Go.Abs
def wE:CExpr:=⟨1,1,[],[],[]⟩
def prE:CExpr:=⟨8,7,[],[0],[]⟩
def pE:List CExpr:=[wE,prE]
theorem qwE:qcR (qbi (nN 8 7 [nN 1 1 []]))=pE:=by
 unfold nN
 rw[qfD]
 simp only[List.map_cons,List.map_nil,qfD]
 rfl
theorem qxq:∀ x∈pE,NodeFit x:=by
 intro x hx
 unfold pE at hx
 rcases List.mem_cons.1 hx with rfl | hx
 ·exact⟨by simp[wE],by simp[wE],by simp[wE],by simp[wE]⟩
 ·rcases List.mem_cons.1 hx with rfl | hx
  ·exact⟨by simp[prE],by simp[prE],by simp[prE],by simp[prE]⟩
  ·cases hx
theorem qxp:qqO pE=([0,3],0):=by
 have hz:qb6 pE=0:=by decide
 unfold qqO
 rw[if_pos hz]
 rfl
section
variable {L:Lib} (hC:CLib2 L) (hP:PLib L)
include hC hP
theorem qqN (h145:L.fns 145=some fn145) (h153:L.fns 153=some fn153) (h174:L.fns 174=some fn174) (h:Heap):pcall L 145 [] h=some (.val (.bool true),h):=by
 have hL:=hC.plain
 have hp:=hL.pure
 have hw:∀ h,pcall L 153 [.int .i64 1] h=some (.val (qcQ (nN 1 1 [])),h):=by
  intro h
  have hn:=qxk hC 1 1 []
  refine qbL hL h153 (qgq _) ?_ h
  obtain⟨tc,htc,hdt⟩:=qeo (nN 1 1 [])
  rw[htc] at hn ⊢
  simp only[List.map_nil] at hn
  unfold fn153
  simp -implicitDefEqProofs only[qad,qae,qar,qac,qah,aOp,opd,qak,qal,qaS,qao,qaw,qaI,qbx,qbw,qaa,qaq,qav,qat,Option.getD_some,List.map_cons,List.map_nil,List.getElem?_cons_zero,↓reduceIte,Bool.and_true,and_self,reduceCtorEq,qa3,qaD,hn,hdt,qfE,qaK L hp,hp]
 have hpr:∀ h,pcall L 174 [qcQ (nN 1 1 [])] h=some (.val (qcQ (nN 8 7 [nN 1 1 []])),h):=by
  intro h
  have hn:=qxk hC 8 7 [nN 1 1 []]
  refine qbL hL h174 (qgq _) ?_ h
  obtain⟨tc,htc,hdt⟩:=qeo (nN 8 7 [nN 1 1 []])
  obtain⟨tc1,htc1,hdt1⟩:=qeo (nN 1 1 [])
  rw[htc] at hn ⊢
  simp only[List.map_cons,List.map_nil,htc1] at hn ⊢
  unfold fn174
  simp -implicitDefEqProofs only[qad,qae,qar,qac,qah,aOp,opd,qak,qal,leaf,qbg,qaS,qao,qaw,qaI,qbx,qbw,qbv,qaa,qaq,qaQ,qav,qat,Option.getD_some,List.map_cons,List.map_nil,List.length_cons,List.length_nil,List.getElem?_cons_zero,List.all_cons,List.all_nil,↓reduceIte,Bool.and_true,decide_true,and_self,reduceCtorEq,Nat.zero_add,qa3,qaD,hn,hdt,hdt1,qfE,qaK L hp,hp]
 have hl:=qt4 hC (nN 8 7 [nN 1 1 []]) (by
  unfold nN
  rw[qfD]
  simp only[List.map_cons,List.map_nil,qfD]
  decide)
 rw[qwE] at hl
 have hpur:=quF hC hP pE (by decide) qxq
 rw[qxp] at hpur
 have heq:=qrC hL hC.f139 [0,3] [0,3] (by decide)
 have hdE:=qbu pE
 refine qbL hL h145 rfl ?_ h
 obtain⟨tc,htc,hdt⟩:=qeo (nN 8 7 [nN 1 1 []])
 obtain⟨tc1,htc1,hdt1⟩:=qeo (nN 1 1 [])
 rw[htc1] at hw hpr
 rw[htc] at hl hpr
 generalize pE.map qaO=E at *
 have e0:∀ n:Nat,qhO n=.int .i64 n:=fun _=>rfl
 simp only[List.map_cons,List.map_nil,e0,qbM,Int.natCast_zero,Int.cast_ofNat_Int] at hpur heq
 unfold fn145
 simp -implicitDefEqProofs only[qad,qae,qar,qac,qap,qah,aOp,opd,qak,qal,qag,qba,qa8,qaj,qax,leaf,qaJ,qaS,qao,qaw,qaI,qbx,qbw,qa7,qbv,qaa,qaq,qaQ,qav,qat,beq_self_eq_true,Option.getD_none,List.map_cons,List.map_nil,List.length_cons,List.length_nil,List.nil_append,List.append_nil,List.getElem?_nil,List.getElem?_cons_zero,List.getElem?_cons_succ,List.all_cons,List.all_nil,↓reduceIte,Bool.and_true,Bool.false_eq_true,decide_true,and_self,Nat.zero_add,Nat.reduceEqDiff,qa3,qaD,hw,hpr,hl,hpur,heq,hdt,hdt1,hdE,qaK L hp,hp]
end
end Go.Abs
