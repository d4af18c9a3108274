/-
  PARTS OF A PROOF, joined: an abstract machine for quiet code, its evaluation, and what the seat's functions answer on it. Conditions: none.
-/
import Derived.Test.YtpchghpipgpkfaaDoorRB
import Derived.Test.YtpchghpipgpkfaaDoorD
import Derived.Test.YtpchghpipgpkfaaDoorMA
import Derived.Test.YtpchghpipgpkfaaDoorRAE
set_option linter.unusedVariables false
set_option linter.unusedSimpArgs false
set_option maxRecDepth 100000
set_option maxHeartbeats 8000000
namespace Go.Abs
section
variable {L:Lib}
theorem qAO (hL:Plain L) (h319:L.fns 319=some fn319) (op n:Int) (binds:List Int) (kids:List CTree) (alts:List CAlt) (h:Heap) :
  pcall L 319 [qao (.mk op n binds kids alts)] h=some (.val (.int .i64 (qjU op kids.length)),h):=by
 have hp:=hL.pure
 refine qaX hL h319 rfl ?_ h
 have hK:=qbi kids
 have hA:=qap alts
 have hB:=qah binds
 rw[qbj]
 unfold qjU
 by_cases h3:op=3
 ·subst h3;unfold fn319;simp -implicitDefEqProofs only[ev_,aOp,opd,qaa,qaB,qbd,qaA,qab,qag,qai,qan,qac,qae,qaj,↓reduceIte,reduceCtorEq,Int.reduceEq,qak,hK,List.length_map,true_or,if_true]
 by_cases h6:op=6
 ·subst h6;unfold fn319;simp -implicitDefEqProofs only[ev_,aOp,opd,qaa,qaB,qbd,qaA,qab,qag,qai,qan,qac,qae,qaj,↓reduceIte,reduceCtorEq,Nat.reduceEqDiff,Int.reduceEq,Int.reduceBEq,qak,hK,List.length_map,true_or,or_true,if_true]
 by_cases h8:op=8
 ·subst h8;unfold fn319;simp -implicitDefEqProofs only[ev_,aOp,opd,qaa,qaB,qbd,qaA,qab,qag,qai,qan,qac,qae,qaj,↓reduceIte,reduceCtorEq,Nat.reduceEqDiff,Int.reduceEq,Int.reduceBEq,qak,hK,List.length_map,true_or,or_true,if_true]
 by_cases h9:op=9
 ·subst h9;unfold fn319;simp -implicitDefEqProofs only[ev_,aOp,opd,qaa,qaB,qbd,qaA,qab,qag,qai,qan,qac,qae,qaj,↓reduceIte,reduceCtorEq,Nat.reduceEqDiff,Int.reduceEq,Int.reduceBEq,qak,hK,List.length_map,true_or,or_true,if_true]
 by_cases h10:op=10
 ·subst h10;unfold fn319;simp -implicitDefEqProofs only[ev_,aOp,opd,qaa,qaB,qbd,qaA,qab,qag,qai,qan,qac,qae,qaj,↓reduceIte,reduceCtorEq,Nat.reduceEqDiff,Int.reduceEq,Int.reduceBEq,qak,hK,List.length_map,true_or,or_true,if_true]
 by_cases h11:op=11
 ·subst h11;unfold fn319;simp -implicitDefEqProofs only[ev_,aOp,opd,qaa,qaB,qbd,qaA,qab,qag,qai,qan,qac,qae,qaj,↓reduceIte,reduceCtorEq,Nat.reduceEqDiff,Int.reduceEq,Int.reduceBEq,qak,hK,List.length_map,true_or,or_true,if_true]
 have b3:(op==3)=false:=by simpa using h3
 have b6:(op==6)=false:=by simpa using h6
 have b8:(op==8)=false:=by simpa using h8
 have b9:(op==9)=false:=by simpa using h9
 have b10:(op==10)=false:=by simpa using h10
 have b11:(op==11)=false:=by simpa using h11
 rw[if_neg (by simp[h3,h6,h8,h9,h10,h11])]
 by_cases h7:op=7
 ·subst h7;unfold fn319;simp -implicitDefEqProofs only[ev_,aOp,opd,qaa,qaB,qaA,qab,qag,qai,qan,qac,qae,qaj,↓reduceIte,reduceCtorEq,Nat.reduceEqDiff,Int.reduceEq,Int.reduceBEq,qak,true_or,if_true,Int.natCast_one]
 by_cases h12:op=12
 ·subst h12;unfold fn319;simp -implicitDefEqProofs only[ev_,aOp,opd,qaa,qaB,qaA,qab,qag,qai,qan,qac,qae,qaj,↓reduceIte,reduceCtorEq,Nat.reduceEqDiff,Int.reduceEq,Int.reduceBEq,qak,or_true,if_true,Int.natCast_one]
 have b7:(op==7)=false:=by simpa using h7
 have b12:(op==12)=false:=by simpa using h12
 rw[if_neg (by simp[h7,h12])]
 unfold fn319
 simp -implicitDefEqProofs only[ev_,aOp,opd,qaa,qaB,qaA,qab,qag,qai,qan,qac,qae,qaj,↓reduceIte,reduceCtorEq,Nat.reduceEqDiff,qak,b3,b6,b8,b9,b10,b11,b7,b12,Int.natCast_zero]
theorem qxO {b:Nat} (wv:AVal) (N:Int) (p:Nat) (H:Heap) (ks:List CTree) (hl:ks.length<2 ^ 30) (ps:List Nat) (hps:ps.length=ks.length)
  (hv:∀ (i:Nat) (hi:i<ks.length),qgI (call L) 317 [qar (ps[i]'(by omega))] H=some (.val (.bool (qeF ks[i])),H)) :
  qba L.pure (call L) b [1000000,0,1,2,34,35,36] [1000000,0,1,2,6] 0 qg8
   ⟨kt [0,1,2,34,35,36] [wv,qar p,.int .i64 N,.list (ps.map qar) none,.int .i64 ks.length,.int .i64 ((0:Nat):Int)],H⟩ =
   some (if ks.any (fun k => !qeF k)=true then (.ret,⟨kt [0,1,2,6] [wv,qar p,.int .i64 N,.ptr none],H⟩) else (.normal,⟨kt [0,1,2,6] [wv,qar p,.int .i64 N,.junk],H⟩)):=by
 refine qe9 (pure:=L.pure) (call:=call L) (b:=b) (id:=0) (body:=qg8) ks (fun k => !qeF k)
  (fun j=>⟨kt [0,1,2,34,35,36] [wv,qar p,.int .i64 N,.list (ps.map qar) none,.int .i64 ks.length,.int .i64 j],H⟩) _ _ ?_ ?_ ?_
 ·intro i hi hq
  obtain⟨h1,h2,h3⟩:=qaN qar ps (by omega) i (by omega)
  have hvi:=hv i hi
  have hb:qeF ks[i]=true:=by simpa using hq
  rw[hb] at hvi
  rw[hps] at h1
  generalize ps[i]'(by omega)=q at *
  unfold qar at *
  unfold qg8
  simp -implicitDefEqProofs only[ev_,aOp,opd,qaa,qaB,qaA,aUn,qad,qab,qag,↓reduceIte,reduceCtorEq,Nat.reduceEqDiff,h1,h2,h3,hvi]
 ·intro i hi hq
  obtain⟨h1,h2,h3⟩:=qaN qar ps (by omega) i (by omega)
  have hvi:=hv i hi
  have hb:qeF ks[i]=false:=by simpa using hq
  rw[hb] at hvi
  rw[hps] at h1
  generalize ps[i]'(by omega)=q at *
  unfold qar at *
  unfold qg8
  simp -implicitDefEqProofs only[ev_,aOp,opd,qaa,qaB,qaA,aUn,qad,qab,qag,gcE,↓reduceIte,reduceCtorEq,Nat.reduceEqDiff,h1,h2,h3,hvi]
 ·have h0:=qaQ ks.length
  unfold qg8
  simp -implicitDefEqProofs only[ev_,aOp,opd,qaa,qaB,qaA,qab,gcE,↓reduceIte,reduceCtorEq,Nat.reduceEqDiff,h0]
theorem quE (ps:List Nat):(ps.map qar).flatMap acells=ps.map qar:=by
 induction ps with
 | nil=>rfl
 | cons p ps ih=>rw[List.map_cons,List.flatMap_cons,ih];rfl
variable (hR:RLib L)
include hR
theorem qxP (h303:L.fns 303=some fm303) (h319:L.fns 319=some fn319) (h256:L.fns 256=some fn256) (M N:Int) (op n:Int) (binds:List Int) (kids:List CTree) (alts:List CAlt) (hg:TGood (.mk op n binds kids alts)) (H:Heap) (w p r:Nat) (wl:AVal) (psk:List Nat) (ob ok:Option (Option Nat)) (avs:List AVal) (oa:Option (Option Nat)) (T:CTree) {S:Nat→Prop}
  (hw:H[w]? = some (.box [wl,qar r])) (hr:WS H S T r) (hT:TFit T) (hTh:hgt T≤900) (hM:qbK T=M) (hM2:M≤1048576)
  (hbox:H[p]? = some (.box [.int .i64 op,.int .i64 n,.list (binds.map qav) ob,.list (psk.map qar) ok,.list avs oa])) (hra:RA alts avs) (hpl:psk.length=kids.length) (hk:∀ (i:Nat) (hi:i<kids.length),WS H S kids[i] (psk[i]'(by omega))) :
  match qex M N (.mk op n binds kids alts) with
  | none=>call L 303 [qar w,qar p,.int .i64 N] H=some (.val (.ptr none),H)
  | some _=>0≤N∧N.toNat<kids.length∧call L 303 [qar w,qar p,.int .i64 N] H=some (.val (qar (H.length+3)),H++[.box [.int .i64 op,.int .i64 n,.list (binds.map qav) ob,.vec (H.length+1) kids.length,.list avs oa],
    .vec ((psk.map qar).take N.toNat++qar (H.length+2)::(psk.map qar).drop (N.toNat+1)) 1,.box [.int .i64 0,.int .i64 (M+1),.list [] (some none),.list [] (some none),.list [] (some none)],qkd (M+1) (psk.getD N.toNat 0) H.length]):=by
 have hL:=hR.plain
 have hp:=hL.pure
 have hs:=hL.summ 303 (by rw[h303];simp)
 have hsh:=hg.shape
 have hop:=qnU hsh
 have hwt:WS H S (.mk op n binds kids alts) p∨True:=.inr trivial
 have hvo:qgI (call L) 319 [qar p] H=some (.val (.int .i64 (qjU op kids.length)),H):=by
  have hws:WS H (fun _=>True) (.mk op n binds kids alts) p:=.mk _ _ _ _ _ _ psk ob ok avs oa trivial hbox hra hpl fun i hi=>(hk i hi).mono fun _ _=>trivial
  exact qdE (args':=[qao (.mk op n binds kids alts)]) (by rw[List.map_cons,List.map_nil];exact congrArg (fun x=>[x]) (hws.lookV (by have:=hg.deep;omega))) (by rw[qax,qbY];rfl) rfl (qAO hL h319 op n binds kids alts H)
 have hvm:∀ H':Heap,(∀ i,i<H.length→H'[i]? = H[i]?)→qgI (call L) 256 [qar r] H'=some (.val (.int .i64 M),H'):=fun H' he=>by
  rw[← hM]
  exact qdE (args':=[qao T]) (by rw[List.map_cons,List.map_nil];exact congrArg (fun x=>[x]) ((hr.frame' he).lookV hTh)) (by rw[qax,qbY];rfl) rfl (qmT hL hR.f232 h256 T hT H')
 have hkb:kids.length<2 ^ 30:=by cases hg.fit;assumption
 rw[qex]
 by_cases c1:N<0∨(qjU op kids.length:Int)≤N
 ·rw[if_pos c1]
  dsimp only
  refine qaL hs h303 ?_
  unfold qar at *
  unfold fm303
  by_cases hN0:N<0
  ·simp -implicitDefEqProofs only[ev_,aOp,opd,qaa,qaB,qaA,qab,qaf,qan,qac,qae,qaj,↓reduceIte,Nat.reduceEqDiff,hN0]
  ·have hN1:(qjU op kids.length:Int)≤N:=by omega
   simp -implicitDefEqProofs only[ev_,aOp,opd,qaa,qaB,qaA,qab,qaf,qan,qac,qae,qaj,↓reduceIte,Nat.reduceEqDiff,ge_iff_le,hN0,hvo,hN1]
 rw[if_neg c1]
 have hN0:¬ (N<0):=by omega
 have hN1:¬ ((qjU op kids.length:Int)≤N):=by omega
 have hN2:0≤N:=by omega
 have hNk:N.toNat<kids.length:=by omega
 have hgk:kids.getD N.toNat .none=kids[N.toNat]:=by rw[List.getD_eq_getElem?_getD,List.getElem?_eq_getElem hNk];rfl
 have hgp:psk.getD N.toNat 0=psk[N.toNat]'(by omega):=by rw[List.getD_eq_getElem?_getD,List.getElem?_eq_getElem (by omega)];rfl
 have hlk:(psk.map qar)[N.toNat]? = some (qar (psk.getD N.toNat 0)):=by rw[List.getElem?_map,List.getElem?_eq_getElem (by omega),hgp];rfl
 rw[hgk]
 have hkw:=hk N.toNat hNk
 have hkg:=hg.kid (List.getElem_mem hNk)
 have hva:qgI (call L) 315 [qar (psk.getD N.toNat 0)] H=some (.val (.bool (qge kids[N.toNat])),H):=by
  rw[hgp]
  exact qiN (fun h=>qql hL hR.f315 kids[N.toNat] h) hkw (by have:=hkg.deep;omega)
 by_cases c2:qge kids[N.toNat]=true
 ·rw[if_pos c2]
  rw[c2] at hva
  dsimp only
  refine qaL hs h303 ?_
  unfold qar at *
  unfold fm303
  simp -implicitDefEqProofs only[ev_,aOp,opd,qaa,qaB,qaA,qad,qab,qaf,qag,qai,qan,qac,qae,qaj,↓reduceIte,Nat.reduceEqDiff,ge_iff_le,hN0,hN1,hN2,hvo,hbox,hlk,hva]
 rw[if_neg c2]
 have c2':qge kids[N.toNat]=false:=by simpa using c2
 rw[c2'] at hva
 have htl:(kids.take N.toNat).length=N.toNat:=by rw[List.length_take];omega
 have hl0:=qxO (L:=L) (b:=H.length) (qar w) N p H (kids.take N.toNat) (by omega) (psk.take N.toNat) (by rw[List.length_take,List.length_take,hpl]) (fun i hi=>by
  have hi':i<kids.length:=by rw[htl] at hi;omega
  have hgi:=hg.kid (List.getElem_mem hi')
  rw[List.getElem_take,List.getElem_take]
  exact qiN (qiM hL hR.f315 hR.f317 kids[i] hgi.fit hgi.sh) (hk i hi') (by have:=hgi.deep;omega))
 rw[htl] at hl0
 have hall:=qfr psk
 have hNi:((N.toNat:Nat):Int)=N:=Int.toNat_of_nonneg hN2
 have htk:((psk.map qar).take N.toNat)=(psk.take N.toNat).map qar:=by rw[List.map_take]
 have hNl:N≤(psk.length:Int):=by omega
 have hNl2:N≤(kids.length:Int):=by omega
 have htl2:(((psk.map qar).take N.toNat).length:Int)=N:=by rw[List.length_take,List.length_map];omega
 rw[hNi,Int.natCast_zero] at hl0
 by_cases c3:(kids.take N.toNat).any (fun k => !qeF k)=true
 ·rw[if_pos c3]
  rw[if_pos c3] at hl0
  dsimp only
  refine qaL hs h303 ?_
  rw[← htk] at hl0
  unfold qar at *
  unfold fm303
  simp -implicitDefEqProofs only[ev_,aOp,opd,qaa,qaB,qbd,qaA,qad,qab,qaf,qag,qai,qan,qac,qae,qaj,↓reduceIte,reduceCtorEq,Nat.reduceEqDiff,Int.reduceToNat,ge_iff_le,qdo,qdQ,Int.le_refl,hN0,hN1,hN2,hvo,hbox,hlk,hva,hall,hNl,hNl2,htl2,hNi,hl0,List.length_map]
 rw[if_neg c3]
 rw[if_neg c3] at hl0
 dsimp only
 refine⟨hN2,hNk,qaL hs h303 ?_⟩
 rw[← htk] at hl0
 have hne:(psk.map qar=[])=False:=by
  rw[List.map_eq_nil_iff]
  have:psk≠[]:=fun h=>by rw[h] at hpl;simp at hpl;omega
  simpa using this
 have hfl:=quE psk
 have hlp:=hlt hbox
 have hlw:=hlt hw
 have hwr:IntKind.i64.wrap (M+1)=M+1:=by have:=qiC T;exact qcy (by omega) (by omega)
 have hplen:psk.length≤qfN:=by show psk.length≤2 ^ 30;omega
 have hkl:psk.length=kids.length:=hpl
 have hn1:N<(kids.length:Int):=by omega
 have hn2:N.toNat+1≤kids.length:=by omega
 have hvm0:=hvm H fun _ _=>rfl
 have hap:∀ h:Heap,qd2 h 1 (.list [] (some none)) (.list (psk.map qar) ok)=some (.vec h.length kids.length,h++[.vec (psk.map qar) 1]):=fun h=>by
  unfold qd2
  dsimp only
  rw[if_neg (by rw[hne];exact id),if_pos ⟨hall,by rw[List.length_map];exact hplen⟩,hfl,List.length_map,hkl]
 have hl3:=qo6 hL hR.f313 (M+1) (psk.getD N.toNat 0) H.length
 unfold qar at *
 unfold fm303
 simp -implicitDefEqProofs only[ev_,aOp,opd,qaa,qay,qaB,qbd,qaA,qad,qab,qaf,qag,qaT,qaS,qai,qcj,qcK,leaf,qat,qan,qac,qae,qaj,↓reduceIte,reduceCtorEq,Nat.reduceEqDiff,Nat.reduceAdd,Nat.reduceLeDiff,Int.reduceToNat,ge_iff_le,qdo,qdQ,qgK,Nat.mul_one,Int.le_refl,hN0,hN1,hN2,hvo,hbox,hlk,hva,hall,hNl,hNl2,htl2,hNi,hl0,hvm0,hwr,hw,hap,hgl,qrF,qzp,hsl,qB7,qCu,hga,hlp,hlw,hkl,hn1,hn2,hl3,List.length_map]
end
theorem qyo {H:Heap} (op n:Int) (binds:List Int) (kids:List CTree) (alts:List CAlt) (p:Nat) (ps:List Nat) (ob:Option (Option Nat)) (v:Nat) (avs:List AVal) (oa:Option (Option Nat))
  (hbox:H[p]? = some (.box [.int .i64 op,.int .i64 n,.list (binds.map qav) ob,.vec v kids.length,.list avs oa])) (hvec:H[v]? = some (.vec (ps.map qar) 1)) (ha:RA alts avs) (hl:ps.length=kids.length)
  (hk:∀ (i:Nat) (hi:i<kids.length),VW H kids[i] (ps[i]'(by omega))):VW H (.mk op n binds kids alts) p:=by
 intro m hm
 rw[hgt] at hm
 obtain⟨q,rfl⟩:∃ q,m=q+1+1+1:=⟨m-3,by omega⟩
 unfold qar
 rw[qaV,if_neg (by simp[qaH])]
 unfold qcx
 dsimp only
 rw[hbox]
 dsimp only
 have hlf:([.int .i64 op,.int .i64 n,.list (binds.map qav) ob,.vec v kids.length,.list avs oa]:List AVal).all leaf=true:=rfl
 rw[if_pos hlf]
 simp only[List.map_cons,List.map_nil]
 rw[qbG (v:=.int .i64 op) rfl,qbG (v:=.int .i64 n) rfl,qcn H _ (qah binds),ha.viewL,qbj]
 have hkids:qaV H (q+1+1) (.vec v kids.length)=.list (kids.map qao) none:=by
  have hmap:(ps.map qar).map (qaV H (q+1))=kids.map qao:=by
   refine List.ext_getElem (by simp[hl]) fun i h1 h2=>?_
   have hi:i<kids.length:=by simpa using h2
   rw[List.getElem_map,List.getElem_map,List.getElem_map]
   refine hk i hi _ ?_
   have:=qdK (List.getElem_mem hi)
   have:0<hgt kids[i]:=by generalize kids[i]=t';cases t';rw[hgt];omega
   omega
  rw[qaV,if_neg (by simp[qaH])]
  unfold qcx
  dsimp only
  rw[hvec]
  dsimp only
  have hlf2:(ps.map qar).all leaf=true:=by
   rw[List.all_eq_true]
   intro x hx
   obtain⟨z,_,rfl⟩:=List.mem_map.1 hx
   rfl
  rw[if_pos hlf2,if_pos ⟨rfl,by rw[List.length_map,hl]⟩,hmap]
 rw[hkids]
 rfl
theorem qpJ (v:CTree):∀ (ks:List CTree) (j:Nat),qaF (ks.set j v)≤qaF ks+qaJ v
 | [],j=>by rw[List.set_nil];omega
 | k::ks,0=>by rw[List.set_cons_zero,qaF,qaF];omega
 | k::ks,j+1=>by rw[List.set_cons_succ,qaF,qaF];have:=qpJ v ks j;omega
theorem qrG (v:CTree):∀ (ks:List CTree) (j:Nat),qcS (ks.set j v)≤max (qcS ks) (hgt v)
 | [],j=>by rw[List.set_nil];omega
 | k::ks,0=>by rw[List.set_cons_zero,qcS,qcS];omega
 | k::ks,j+1=>by rw[List.set_cons_succ,qcS,qcS];have:=qrG v ks j;omega
theorem qmU {M N:Int} {t t':CTree} (hg:TGood t) (h:qex M N t=some t'):qwG t t':=by
 cases t with
 | mk op n binds kids alts =>
 have hop:=qnU hg.shape
 have hd:=hg.deep
 have hz:=hg.size
 rw[qex] at h
 by_cases c1:N<0∨(qjU op kids.length:Int)≤N
 ·rw[if_pos c1] at h;cases h
 rw[if_neg c1] at h
 have hNk:N.toNat<kids.length:=by omega
 have hm:kids.getD N.toNat .none∈kids:=by
  rw[List.getD_eq_getElem?_getD,List.getElem?_eq_getElem hNk]
  exact List.getElem_mem _
 split at h
 ·cases h
 ·split at h
  ·cases h
  ·injection h with h
   subst h
   have hk:=hg.kid hm
   have h1:=qdK hm
   have h2:=qjl hm
   have e1:hgt (.mk 0 (M+1) [] [] [])=1:=by rw[hgt,qcS]
   have e2:qaJ (.mk 0 (M+1) [] [] [])=1:=by rw[qaJ,qaF]
   have s1:=qpJ (.mk 0 (M+1) [] [] []) kids N.toNat
   have s2:=qrG (.mk 0 (M+1) [] [] []) kids N.toNat
   rw[hgt] at hd
   rw[qaJ] at hz
   have hfit:TFit (.mk op n binds (kids.set N.toNat (.mk 0 (M+1) [] [] [])) alts):=by
    cases hg.fit with
    | mk _ _ _ _ _ f1 f2 f3 f4 =>
    refine .mk _ _ _ _ _ f1 (by rw[List.length_set];exact f2) f3 fun k hk'=>?_
    rcases List.mem_or_eq_of_mem_set hk' with hk' | rfl
    ·exact f4 k hk'
    ·exact .mk _ _ _ _ _ (by simp) (by simp) (by simp) fun k hk=>by cases hk
   refine⟨qkX _ hk.fit hfit,?_,?_⟩
   ·rw[qiH,qaJ];omega
   ·rw[qk4,hgt,hgt];omega
section
variable {L:Lib} (hR:RLib L)
include hR
theorem qlD (w p:Nat) (at' N op:Int) (cs:List AVal) (H H':Heap) (r:AVal) (hbx:H[p]? = some (.box (.int .i64 op::cs)))
  (hc:call L 303 [qar w,qar p,.int .i64 N] (H++[.box [.int .i64 10,.int .i64 at',.int .i64 N]])=some (.val r,H')) :
  call L 294 [qar w,.agg [.int .i64 10,.int .i64 at',.int .i64 N],qar p] H=some (.val r,H'):=by
 have hL:=hR.plain
 refine qaL (hL.summ 294 (by rw[hR.f294];simp)) hR.f294 ?_
 have hb2:(H++[AObj.box [.int .i64 10,.int .i64 at',.int .i64 N]])[p]? = some (.box (.int .i64 op::cs)):=by rw[hga (hlt hbx)];exact hbx
 have hs2:(H++[AObj.box [.int .i64 10,.int .i64 at',.int .i64 N]])[H.length]? = some (.box [.int .i64 10,.int .i64 at',.int .i64 N]):=hgl rfl
 unfold qar at *
 cases b1:(N==0)<;>cases b2:(op==4)<;>unfold fn294<;>simp -implicitDefEqProofs only[ev_,aOp,opd,qaa,qaB,qaA,qab,qaf,qag,qai,qan,qac,qae,qaj,qaz,↓reduceIte,reduceCtorEq,Nat.reduceEqDiff,Int.reduceBEq,hb2,hs2,hc,b1,b2,bne]
end
section
variable {L:Lib} (hR:RLib L)
include hR
theorem qss (h303:L.fns 303=some fm303) (h319:L.fns 319=some fn319) (h256:L.fns 256=some fn256)
  (e:List CExpr) (hl:e.length<2 ^ 30) (hf:∀ x∈e,NodeFit x) (hz:qaD e=0) (i:Nat) (hil:i<e.length) (N:Int) (h:Heap) :
  pcall L 283 [.list (e.map qam) none,.agg [.int .i64 10,.int .i64 (i:Int),.int .i64 N]] h=some (.val (.tuple [.list ((qc0 e i (qex (qbK (qaG e (e.length-1))) N (qaG e i))).1.map qam) none,.int .i64 (qc0 e i (qex (qbK (qaG e (e.length-1))) N (qaG e i))).2]),h):=by
 have hL:=hR.plain
 have hp:=hL.pure
 have hdE:=qaI e
 have hck:=qcW hR.toCLib e hl hf
 refine qaX hL hR.f283 (by simp only[qaH,qax,qaI,Bool.and_self]) ?_ h
 rw[hz] at hck
 have hr1:¬ ((10:Int)<1):=by decide
 have ha1:¬ ((i:Int)<0):=by omega
 have ha2:¬ ((e.length:Int)≤(i:Int)):=by omega
 obtain⟨hT,hn4,hdeep,hlab,_⟩:=qa8 hz
 have hpos:=hT.pos
 obtain⟨H,ps,ow,c1,hO,hke⟩:=qnT hL hR.f293 e hl hpos hf hT.ahead [.box [.int .i64 10,.int .i64 (i:Int),.int .i64 N]]
 rw[List.length_singleton] at c1 hO hke
 have hH0:H[0]? = some (.box [.int .i64 10,.int .i64 (i:Int),.int .i64 N]):=by rw[hke 0 (by omega)];rfl
 have hps:=hO.len
 have hgi:ps.getD i 0=ps[i]'(by omega):=by rw[List.getD_eq_getElem?_getD,List.getElem?_eq_getElem (by omega)];rfl
 have hgn:(ps.map qar)[i]? = some (.ptr (some (ps.getD i 0,0))):=by rw[List.getElem?_map,List.getElem?_eq_getElem (by omega),hgi];rfl
 obtain⟨ob,ok,avs,oa,n1,n2⟩:=hO.node i hil (by omega)
 rw[← hgi] at n1
 have hp0:=hO.low (ps.getD i 0) (by rw[hgi];exact List.getElem_mem _)
 have hw0:H[1]? = some (.box [.list (ps.map qar) ow,qar (ps.getD (e.length-1) 0)]):=hO.work
 generalize hsb:AObj.box [AVal.int .i64 10,.int .i64 (i:Int),.int .i64 N]=sb at *
 have hA:∀ q,q<H.length→(H++[sb])[q]? = H[q]? := fun q hq=>hga hq
 have hw1:(H++[sb])[1]? = some (.box [.list (ps.map qar) ow,qar (ps.getD (e.length-1) 0)]):=by rw[hA 1 (hlt hw0)];exact hw0
 have hgood:=qeR hz hf i hil
 have hte:=qb0 e hT.ahead i hil
 have hkids:∀ x (hx:x<e[i].kids.length),e[i].kids[x].toNat∈qbm e i∧e[i].kids[x].toNat<i:=fun x hx=>by
  have:=hT.ahead i hil _ (List.getElem_mem hx)
  refine⟨?_,by omega⟩
  unfold qbm
  rw[List.getElem?_eq_getElem hil]
  exact List.mem_map_of_mem (List.getElem_mem hx)
 have hkw:∀ x (hx:x<e[i].kids.length),WS H (At e ps e[i].kids[x].toNat) (qaG e e[i].kids[x].toNat) (ps.getD e[i].kids[x].toNat 0):=fun x hx=>hO.ws hT.ahead _ (by have:=(hkids x hx).2;omega)
 have hrootw:=(hO.ws hT.ahead (e.length-1) (by omega)).frame' hA
 have hrg:=qeR hz hf (e.length-1) (by omega)
 have hMb:=qr3 hz
 have hM0:=qiC (qaG e (e.length-1))
 generalize hpi:ps.getD i 0=p at *
 have hu:=qxP hR h303 h319 h256 (qbK (qaG e (e.length-1))) N e[i].op e[i].n e[i].binds (e[i].kids.map fun k:Int=>qaG e k.toNat) e[i].alts (by rw[← hte];exact hgood) (H++[sb]) 1 p (ps.getD (e.length-1) 0) (.list (ps.map qar) ow) (e[i].kids.map fun k:Int=>ps.getD k.toNat 0) ob ok avs oa (qaG e (e.length-1)) (S:=fun _=>True) hw1 (hrootw.mono fun _ _=>trivial) hrg.fit (by have:=hrg.deep;omega) rfl hMb (by rw[hA _ hp0.2];exact n1) n2 (by simp) (fun x hx=>by
   rw[List.length_map] at hx
   rw[List.getElem_map,List.getElem_map]
   exact ((hkw x hx).frame' hA).mono fun _ _=>trivial)
 rw[← hte] at hu
 have hnb:H[p]? = some (.box (.int .i64 e[i].op::[.int .i64 e[i].n,.list (e[i].binds.map qav) ob,.list ((e[i].kids.map fun k:Int=>ps.getD k.toNat 0).map qar) ok,.list avs oa])):=n1
 cases hd:qex (qbK (qaG e (e.length-1))) N (qaG e i) with
 | none =>
   rw[hd] at hu
   dsimp only at hu
   rw[← hsb] at hu
   have c2:=qlD hR 1 p (i:Int) N e[i].op _ H _ _ hnb hu
   unfold qc0
   dsimp only
   unfold qar at *
   subst hsb
   unfold fn283
   simp -implicitDefEqProofs only[ev_,aOp,opd,qaa,qaB,qbd,qaA,aEq,qad,qab,qaf,qag,qaS,qai,qan,qac,qae,qaj,qaz,↓reduceIte,reduceCtorEq,Nat.reduceEqDiff,Nat.reduceAdd,Int.reduceLT,ge_iff_le,gt_iff_lt,qaw,qak,Option.isNone_none,hck,hr1,ha1,ha2,hdE,c1,hH0,hw0,hgn,c2,qal L hp,hp,List.map_nil,bne]
 | some t' =>
   rw[hd] at hu
   obtain⟨hN0,hNk,c2'⟩:=hu
   obtain⟨f1,f2,f3⟩:=qmU hgood hd
   rw[List.length_map] at hNk
   obtain⟨H2,hH2⟩:∃ H2,H2=H++[sb]++[.box [.int .i64 e[i].op,.int .i64 e[i].n,.list (e[i].binds.map qav) ob,.vec ((H++[sb]).length+1) (e[i].kids.map fun k:Int=>qaG e k.toNat).length,.list avs oa],
    .vec (((e[i].kids.map fun k:Int=>ps.getD k.toNat 0).map qar).take N.toNat++qar ((H++[sb]).length+2)::((e[i].kids.map fun k:Int=>ps.getD k.toNat 0).map qar).drop (N.toNat+1)) 1,.box [.int .i64 0,.int .i64 (qbK (qaG e (e.length-1))+1),.list [] (some none),.list [] (some none),.list [] (some none)],qkd (qbK (qaG e (e.length-1))+1) ((e[i].kids.map fun k:Int=>ps.getD k.toNat 0).getD N.toNat 0) (H++[sb]).length]:=⟨_,rfl⟩
   rw[← hH2] at c2'
   have k3:∀ x,x<H.length→H2[x]? = H[x]? := fun x hx=>by rw[hH2,hga (by simp;omega),hA x hx]
   have hX:H2[(H++[sb]).length]? = some (.box [.int .i64 e[i].op,.int .i64 e[i].n,.list (e[i].binds.map qav) ob,.vec ((H++[sb]).length+1) (e[i].kids.map fun k:Int=>qaG e k.toNat).length,.list avs oa]):=by rw[hH2];exact hgl rfl
   have hV:H2[(H++[sb]).length+1]? = some (.vec (((e[i].kids.map fun k:Int=>ps.getD k.toNat 0).map qar).take N.toNat++qar ((H++[sb]).length+2)::((e[i].kids.map fun k:Int=>ps.getD k.toNat 0).map qar).drop (N.toNat+1)) 1):=by rw[hH2];exact qrF rfl
   have hY:H2[(H++[sb]).length+2]? = some (.box [.int .i64 0,.int .i64 (qbK (qaG e (e.length-1))+1),.list [] (some none),.list [] (some none),.list [] (some none)]):=by rw[hH2];exact qzp rfl
   have hbq:H2[(H++[sb]).length+3]? = some (qkd (qbK (qaG e (e.length-1))+1) ((e[i].kids.map fun k:Int=>ps.getD k.toNat 0).getD N.toNat 0) (H++[sb]).length):=by rw[hH2];exact qCs rfl
   rw[← hsb] at c2'
   have c2:=qlD hR 1 p (i:Int) N e[i].op _ H _ _ hnb c2'
   have hql:(H++[AObj.box [AVal.int .i64 10,.int .i64 (i:Int),.int .i64 N]]).length=(H++[sb]).length:=by simp
   rw[hql] at c2
   clear hH2
   have hp2:H2[p]? = some (.box (.int .i64 e[i].op::[.int .i64 e[i].n,.list (e[i].binds.map qav) ob,.list ((e[i].kids.map fun k:Int=>ps.getD k.toNat 0).map qar) ok,.list avs oa])):=by rw[k3 p hp0.2];exact hnb
   have hlp2:=hlt hp2
   have hpA:p<(H++[sb]).length:=by simp;omega
   obtain⟨B,hB⟩:∃ B,B=(H++[sb]).length:=⟨_,rfl⟩
   rw[← hB] at hX hV hY hbq c2 hpA
   obtain⟨kp,hkp0⟩:∃ kp,kp=(e[i].kids.map fun k:Int=>ps.getD k.toNat 0).getD N.toNat 0:=⟨_,rfl⟩
   rw[← hkp0] at hbq
   have hkids3:∀ x (hx:x<e[i].kids.length),VW (H2.set p (qkd (qbK (qaG e (e.length-1))+1) kp B)) (qaG e e[i].kids[x].toNat) (ps.getD e[i].kids[x].toNat 0):=fun x hx=>by
    refine ((hkw x hx).frame fun j hj=>?_).view
    have hjl:=At.lt hO hj
    have hjp:j≠p:=by
     obtain⟨m,m1,m2,m3⟩:=hj
     intro he
     have hm:=qky hT.ahead m1
     have:=(hkids x hx).2
     have:=qjH hO.nodup (a:=m) (b:=i) (by omega) (by omega) (by rw[← m3,he,hpi])
     omega
    rw[Go.Abs.hgn (fun e=>hjp e.symm),k3 j hjl]
   have hvw3:VW (H2.set p (qkd (qbK (qaG e (e.length-1))+1) kp B)) t' p:=by
    have hdd:=hd
    rw[hte,qex] at hdd
    have hkv:(e[i].kids.map fun k:Int=>qaG e k.toNat).getD N.toNat .none=qaG e e[i].kids[N.toNat].toNat:=by
     rw[List.getD_eq_getElem?_getD,List.getElem?_map,List.getElem?_eq_getElem hNk];rfl
    have hkpv:kp=ps.getD e[i].kids[N.toNat].toNat 0:=by
     rw[hkp0,List.getD_eq_getElem?_getD,List.getElem?_map,List.getElem?_eq_getElem hNk];rfl
    rw[hkv] at hdd
    split at hdd
    ·cases hdd
    ·split at hdd
     ·cases hdd
     ·split at hdd
      ·cases hdd
      ·injection hdd with hdd
       rw[← hdd]
       refine qrc 4 0 [qbK (qaG e (e.length-1))+1] [qaG e e[i].kids[N.toNat].toNat,_] [] p [kp,B] (some none) (some none) [] (some none) (hgs hlp2) rfl rfl fun x hx=>?_
       match x,hx with
       | 0,_ =>
         have:=hkids3 N.toNat hNk
         rw[← hkpv] at this
         exact this
       | 1,_ =>
         refine qyo e[i].op e[i].n e[i].binds _ e[i].alts B ((e[i].kids.map fun k:Int=>ps.getD k.toNat 0).set N.toNat (B+2)) ob (B+1) avs oa ?_ ?_ n2 (by simp) fun x hx=>?_
         ·rw[Go.Abs.hgn (by omega),hX,List.length_set]
         ·rw[Go.Abs.hgn (by omega),hV,List.map_set,List.set_eq_take_append_cons_drop,if_pos (by simpa using hNk)]
         ·rw[List.length_set,List.length_map] at hx
          by_cases hxN:x=N.toNat
          ·subst hxN
           simp only[List.getElem_set_self]
           exact qrc 0 (qbK (qaG e (e.length-1))+1) [] [] [] (B+2) [] (some none) (some none) [] (some none) (by rw[Go.Abs.hgn (by omega),hY];rfl) rfl rfl fun x hx=>by cases hx
          ·have hxN':N.toNat≠x:=fun h=>hxN h.symm
           simp only[List.getElem_set_ne hxN',List.getElem_map]
           exact hkids3 x hx
   have hglob:=quL hT hO hil (t':=t') (H2:=H2.set p (qkd (qbK (qaG e (e.length-1))+1) kp B)) (by rw[hpi];exact hvw3) (fun k hk hb=>by
    have hkp:ps.getD k 0≠p:=fun he=>by
     have:=qjH hO.nodup (a:=k) (b:=i) (by omega) (by omega) (by rw[he,hpi])
     subst this
     exact hb (.refl _)
    have hkl:=hO.low (ps.getD k 0) (by rw[List.getD_eq_getElem?_getD,List.getElem?_eq_getElem (by omega)];exact List.getElem_mem _)
    rw[Go.Abs.hgn (fun e=>hkp e.symm),k3 _ hkl.2]) (e.length-1) (by omega) (by
     by_cases hie:e.length-1=i
     ·exact .inl hie
     ·exact .inr fun hb=>by have:=qky hT.ahead hb;omega)
   obtain⟨b1,b2,b3⟩:=qn2 hT.ahead i hil t' f1 420 f3 (fun k hk=>qgE hz hf k hk) (e.length-1) (by omega)
   have hroot:=(qdO hz hf).2
   rw[qdJ] at hroot hdeep
   have hsz:qaJ (qbF e i t' (e.length-1))<2 ^ 30:=by
    rw[hroot] at b2
    have:e.length*qaJ t'≤4096*20000:=Nat.mul_le_mul hn4 f2
    omega
   have hw3':(H2.set p (qkd (qbK (qaG e (e.length-1))+1) kp B))[1]? = some (.box [.list (ps.map qar) ow,qar (ps.getD (e.length-1) 0)]):=by
    rw[Go.Abs.hgn (by omega),k3 1 (hlt hw0)]
    exact hw0
   generalize hTT:qbF e i t' (e.length-1)=T at *
   have hvw:=qnf hw3' rfl hglob (by omega)
   have hls:=hR.list T b1 hsz
   have hck2:=qcW hR.toCLib (qau T) (by unfold qau;rw[qcv];exact hsz) (qec T 0 b1)
   have hdL:=qaI (qau T)
   obtain⟨tc,htc,hdt⟩:=qbC T
   rw[htc] at hvw hls
   unfold qc0
   dsimp only
   rw[hTT]
   clear hglob hvw3 hkids3 hX hV hY
   unfold qkd at *
   unfold qar at *
   subst hsb
   by_cases hz2:qaD (qau T)=0
   ·rw[if_pos hz2]
    rw[hz2] at hck2
    generalize qaV _ 1999 _=X at hvw
    unfold fn283
    simp -implicitDefEqProofs only[ev_,aOp,opd,qaa,qay,qaB,qbd,qaA,aEq,qad,qab,qaf,qag,qaT,qaS,qai,leaf,qat,qan,qac,qae,qaj,qaz,↓reduceIte,reduceCtorEq,Nat.reduceEqDiff,Nat.reduceAdd,Int.reduceLT,ge_iff_le,gt_iff_lt,qaw,qak,hck,hr1,ha1,ha2,hdE,c1,hH0,hw0,hgn,c2,hbq,hp2,qf2,hvw,hls,hdt,hdL,hck2,qcV,qal L hp,hp,List.map_nil,bne]
   ·have hne2:(qaD (qau T)==0)=false:=by simpa using hz2
    rw[if_neg hz2]
    generalize qaV _ 1999 _=X at hvw
    generalize qaD (qau T)=rr at *
    unfold fn283
    simp -implicitDefEqProofs only[ev_,aOp,opd,qaa,qay,qaB,qbd,qaA,aEq,qad,qab,qaf,qag,qaT,qaS,qai,leaf,qat,qan,qac,qae,qaj,qaz,↓reduceIte,reduceCtorEq,Nat.reduceEqDiff,Nat.reduceAdd,Int.reduceLT,ge_iff_le,gt_iff_lt,qaw,qak,hck,hr1,ha1,ha2,hdE,c1,hH0,hw0,hgn,c2,hbq,hp2,qf2,hvw,hls,hdt,hdL,hck2,hne2,qcV,qal L hp,hp,List.map_nil,bne]
end
def qdp (e:List CExpr) (rule at' N:Int):List CExpr × Int :=
 if qaD e=0 then (if rule<1∨12<rule then ([],4) else if at'<0∨(e.length:Int)≤at' then ([],12) else qc0 e at'.toNat (qtk e rule N at'.toNat)) else ([],qaD e)
section
variable {L:Lib} (hR:RLib L)
include hR
theorem qpE (wv:AVal) (at' N:Int) (op n:Int) (binds:List Int) (kids:List CTree) (alts:List CAlt) (hg:TGood (.mk op n binds kids alts)) (hno:N≠0∨op≠0) (H:Heap) (p:Nat) (ps:List Nat) (ob ok oa:Option (Option Nat)) (avs:List AVal) (Sk:Nat→Nat→Prop)
  (hbox:H[p]? = some (.box [.int .i64 op,.int .i64 n,.list (binds.map qav) ob,.list (ps.map qar) ok,.list avs oa])) (ha:RA alts avs) (hl:ps.length=kids.length) (hk:∀ (i:Nat) (hi:i<kids.length),WS H (Sk i) kids[i] (ps[i]'(by omega)))
  (hdis:∀ i j q,i≠j→Sk i q→¬ Sk j q) (hlt':∀ i q,Sk i q→q<H.length) :
  ∃ H',call L 294 [wv,.agg [.int .i64 12,.int .i64 at',.int .i64 N],.ptr (some (p,0))] H=some (.val (.ptr none),H'):=by
 have hL:=hR.plain
 have hs:=hL.summ 294 (by rw[hR.f294];simp)
 have hsh:=hg.shape
 obtain⟨sb,hsb⟩:∃ sb,sb=AObj.box [.int .i64 12,.int .i64 at',.int .i64 N]:=⟨_,rfl⟩
 have hA:∀ q,q<H.length→(H++[sb])[q]? = H[q]? := fun q hq=>hga hq
 have hlp:=hlt hbox
 have hbx:(H++[sb])[p]? = some (.box [.int .i64 op,.int .i64 n,.list (binds.map qav) ob,.list (ps.map qar) ok,.list avs oa]):=by rw[hA p hlp];exact hbox
 have hsx:(H++[sb])[H.length]? = some (.box [.int .i64 12,.int .i64 at',.int .i64 N]):=by rw[hgl rfl,hsb]
 have hk1:∀ (i:Nat) (hi:i<kids.length),WS (H++[sb]) (Sk i) kids[i] (ps[i]'(by omega)):=fun i hi=>(hk i hi).frame fun q hq=>hA q (hlt' i q hq)
 have hsbx:[AObj.box [.int .i64 12,.int .i64 at',.int .i64 N]]=[sb]:=by rw[hsb]
 by_cases hN:N=0
 case neg =>
  have hN':(N==0)=false:=by simpa using hN
  refine⟨H++[sb],qaL hs hR.f294 ?_⟩
  unfold fn294
  simp -implicitDefEqProofs only[ev_,aOp,opd,qaa,qaB,qaA,qab,qaf,qag,qai,qan,qac,qae,qaj,↓reduceIte,Nat.reduceEqDiff,Int.reduceBEq,hsbx,hsx,hN',bne]
 subst hN
 have h0:op≠0:=hno.elim (fun h=>absurd rfl h) id
 by_cases h4:op=4
 ·subst h4
  obtain⟨sk,sb',_,_⟩:=qcE hsh rfl
  obtain⟨v,body,rfl⟩:=qhL sk
  obtain⟨id,rfl⟩:=qhK sb'
  obtain⟨pv,pb,rfl⟩:=qhL (hl.trans rfl)
  have gv:=hg.kid (k:=v) (by simp)
  have gb:=hg.kid (k:=body) (by simp)
  have wv1:=hk1 0 (by simp)
  have wb1:=hk1 1 (by simp)
  simp only[List.getElem_cons_zero,List.getElem_cons_succ] at wv1 wb1
  obtain⟨H',r,c1,c2,c3,c4⟩:=qmL hL hR.prims hR.mprims hR.f187 hR.f159 hR.f160 hR.f316 hR.f313 hR.f314 hR.f315 hR.f317 hR.f298 12 n id v body alts gv.fit gv.sh (by have:=gv.deep;omega) gb.fit gb.sh (by have:=gb.size;omega) (H++[sb]) (Sk 0) (Sk 1) p pv pb ob ok oa avs hbx wv1 wb1
   (fun q hq=>hdis 1 0 q (by decide) (wb1.reach hq).1)
  have hno':qeb 12 (.mk 4 n [id] [v,body] alts)=none:=by
   cases v with
   | mk vo vn vb vk va =>
   rw[qdw]
   simp
  rw[hno'] at c2
  have hr:r=.ptr none:=c2
  subst hr
  refine⟨H',qaL hs hR.f294 ?_⟩
  have hbx':(H++[sb])[p]? = some (.box [.int .i64 4,.int .i64 n,.list [.int .i64 id] ob,.list [.ptr (some (pv,0)),.ptr (some (pb,0))] ok,.list avs oa]):=hbx
  unfold fn294
  simp -implicitDefEqProofs only[ev_,aOp,opd,qaa,qaB,qaA,qab,qaf,qag,qai,qan,qac,qae,qaj,qaz,↓reduceIte,Nat.reduceEqDiff,Int.reduceBEq,hsbx,hsx,hbx',c1,bne]
 have b4:(op==4)=false:=by simpa using h4
 have b0:(op==0)=false:=by simpa using h0
 refine⟨H++[sb],qaL hs hR.f294 ?_⟩
 unfold fn294
 simp -implicitDefEqProofs only[ev_,aOp,opd,qaa,qaB,qaA,qab,qaf,qag,qai,qan,qac,qae,qaj,qaz,↓reduceIte,Nat.reduceEqDiff,Int.reduceBEq,hsbx,hsx,hbx,b4,b0,bne]
theorem qqj (e:List CExpr) (hl:e.length<2 ^ 30) (hf:∀ x∈e,NodeFit x) (hz:qaD e=0) (i:Nat) (hil:i<e.length) (N:Int) (hno:N≠0∨e[i].op≠0) (h:Heap) :
  pcall L 283 [.list (e.map qam) none,.agg [.int .i64 12,.int .i64 (i:Int),.int .i64 N]] h=some (.val (.tuple [.list [] none,.int .i64 12]),h):=by
 have hL:=hR.plain
 have hp:=hL.pure
 have hdE:=qaI e
 have hck:=qcW hR.toCLib e hl hf
 refine qaX hL hR.f283 rfl ?_ h
 rw[hz] at hck
 have ha1:¬ ((i:Int)<0):=by omega
 have ha2:¬ ((e.length:Int)≤(i:Int)):=by omega
 obtain⟨hT,hn4,hdeep,hlab,_⟩:=qa8 hz
 have hpos:=hT.pos
 obtain⟨H,ps,ow,c1,hO,hke⟩:=qnT hL hR.f293 e hl hpos hf hT.ahead [.box [.int .i64 12,.int .i64 (i:Int),.int .i64 N]]
 rw[List.length_singleton] at c1 hO hke
 have hH0:H[0]? = some (.box [.int .i64 12,.int .i64 (i:Int),.int .i64 N]):=by rw[hke 0 (by omega)];rfl
 have hps:=hO.len
 have hgi:ps.getD i 0=ps[i]'(by omega):=by rw[List.getD_eq_getElem?_getD,List.getElem?_eq_getElem (by omega)];rfl
 have hgn:(ps.map qar)[i]? = some (.ptr (some (ps.getD i 0,0))):=by rw[List.getElem?_map,List.getElem?_eq_getElem (by omega),hgi];rfl
 obtain⟨ob,ok,avs,oa,n1,n2⟩:=hO.node i hil (by omega)
 rw[← hgi] at n1
 have hw0:H[1]? = some (.box [.list (ps.map qar) ow,qar (ps.getD (e.length-1) 0)]):=hO.work
 have hgood:=qeR hz hf i hil
 have hte:=qb0 e hT.ahead i hil
 have hkids:∀ x (hx:x<e[i].kids.length),e[i].kids[x].toNat∈qbm e i∧e[i].kids[x].toNat<i:=fun x hx=>by
  have:=hT.ahead i hil _ (List.getElem_mem hx)
  refine⟨?_,by omega⟩
  unfold qbm
  rw[List.getElem?_eq_getElem hil]
  exact List.mem_map_of_mem (List.getElem_mem hx)
 obtain⟨H2,c2⟩:=qpE hR (.ptr (some (1,0))) (i:Int) N e[i].op e[i].n e[i].binds (e[i].kids.map fun k:Int=>qaG e k.toNat) e[i].alts (by rw[← hte];exact hgood) hno H (ps.getD i 0) (e[i].kids.map fun k:Int=>ps.getD k.toNat 0) ob ok oa avs
  (fun x q=>∃ hx:x<e[i].kids.length,At e ps e[i].kids[x].toNat q) n1 n2 (by simp) (fun x hx=>by
   rw[List.length_map] at hx
   rw[List.getElem_map,List.getElem_map]
   exact (hO.ws hT.ahead _ (by have:=(hkids x hx).2;omega)).mono fun q hq=>⟨hx,hq⟩)
  (fun x y q hxy ⟨hx,m,m1,m2,m3⟩ ⟨hy,m',m1',m2',m3'⟩=>by
   have:=qjH hO.nodup (a:=m) (b:=m') (by omega) (by omega) (by rw[← m3,← m3'])
   subst this
   refine qtW hT (hkids x hx).1 (hkids y hy).1 (fun he=>?_) m1 m1'
   have h1:=hT.ahead i hil _ (List.getElem_mem hx)
   have h2:=hT.ahead i hil _ (List.getElem_mem hy)
   exact quZ hT hil hx hy hxy (by omega))
  (fun x q ⟨hx,hq⟩=>At.lt hO hq)
 generalize hpi:ps.getD i 0=p at *
 unfold qar at *
 unfold fn283
 simp -implicitDefEqProofs only[ev_,aOp,opd,qaa,qaB,qbd,qaA,aEq,qad,qab,qaf,qag,qaS,qai,qan,qac,qae,qaj,qaz,↓reduceIte,reduceCtorEq,Nat.reduceEqDiff,Nat.reduceAdd,Int.reduceLT,ge_iff_le,gt_iff_lt,qaw,qak,Option.isNone_none,hck,ha1,ha2,hdE,c1,hH0,hw0,hgn,c2,qal L hp,hp,List.map_nil,bne]
theorem qqk (e:List CExpr) (hl:e.length<2 ^ 30) (hf:∀ x∈e,NodeFit x) (rule at' N:Int) (hr:1≤rule∧rule≤12) (hb:qaD e≠0∨at'<0∨(e.length:Int)≤at') (h:Heap) :
  pcall L 283 [.list (e.map qam) none,.agg [.int .i64 rule,.int .i64 at',.int .i64 N]] h=some (.val (.tuple [.list [] none,.int .i64 (if qaD e=0 then 12 else qaD e)]),h):=by
 have hL:=hR.plain
 have hp:=hL.pure
 have hdE:=qaI e
 have hck:=qcW hR.toCLib e hl hf
 refine qaX hL hR.f283 rfl ?_ h
 have hr1:¬ rule<1:=by omega
 have hr2:¬ 12<rule:=by omega
 by_cases hz:qaD e=0
 case neg =>
  have hne:(qaD e != 0)=true:=by simpa using hz
  rw[if_neg hz]
  generalize qaD e=r at *
  unfold fn283
  simp -implicitDefEqProofs only[ev_,aOp,opd,qaa,qaB,qaA,qab,qan,qac,qae,qaj,↓reduceIte,reduceCtorEq,Nat.reduceEqDiff,qaw,qak,hck,hne,hdE,qal L hp,hp,List.map_nil]
 rw[if_pos hz]
 rw[hz] at hck
 by_cases ha1:at'<0
 ·unfold fn283
  simp -implicitDefEqProofs only[ev_,aOp,opd,qaa,qaB,qaA,qab,qaf,qag,qai,qan,qac,qae,qaj,↓reduceIte,reduceCtorEq,Nat.reduceEqDiff,gt_iff_lt,qaw,qak,hck,hr1,hr2,ha1,hdE,qal L hp,hp,List.map_nil,bne]
 have ha2:(e.length:Int)≤at':=by
  rcases hb with h | h | h
  ·exact absurd hz h
  ·exact absurd h ha1
  ·exact h
 unfold fn283
 simp -implicitDefEqProofs only[ev_,aOp,opd,qaa,qaB,qbd,qaA,qab,qaf,qag,qai,qan,qac,qae,qaj,↓reduceIte,reduceCtorEq,Nat.reduceEqDiff,ge_iff_le,gt_iff_lt,qaw,qak,hck,hr1,hr2,ha1,ha2,hdE,qal L hp,hp,List.map_nil,bne]
theorem qot (h303:L.fns 303=some fm303) (h319:L.fns 319=some fn319) (h304:L.fns 304=some fn304) (h320:L.fns 320=some fn320) (h256:L.fns 256=some fn256) (h171:L.fns 171=some fn171) (h207:L.fns 207=some fn207) (h208:L.fns 208=some fn208)
  (e:List CExpr) (hl:e.length<2 ^ 30) (hf:∀ x∈e,NodeFit x) (rule at' N:Int) (h:Heap) :
  pcall L 283 [.list (e.map qam) none,.agg [.int .i64 rule,.int .i64 at',.int .i64 N]] h=some (.val (.tuple [.list ((qdp e rule at' N).1.map qam) none,.int .i64 (qdp e rule at' N).2]),h):=by
 by_cases hr:rule=10∨rule=12
 case neg =>
  have:=qwM hR e hl hf rule at' N ⟨fun h=>hr (.inl h),fun h=>hr (.inr h)⟩ h
  have e1:qdp e rule at' N=qku e rule at' N:=by
   unfold qdp qku qtk
   rw[if_neg fun h=>hr (.inl h),if_neg fun h=>hr (.inr h)]
  rw[e1]
  exact this
 have hr12:1≤rule∧rule≤12:=by rcases hr with h | h<;>omega
 by_cases hb:qaD e≠0∨at'<0∨(e.length:Int)≤at'
 ·have:=qqk hR e hl hf rule at' N hr12 hb h
  have e1:qdp e rule at' N=([],if qaD e=0 then 12 else qaD e):=by
   unfold qdp
   by_cases hz:qaD e=0
   ·rw[if_pos hz,if_neg (by omega),if_pos (by rcases hb with h | h;exact absurd hz h;exact h),if_pos hz]
   ·rw[if_neg hz,if_neg hz]
  rw[e1]
  exact this
 have hz:qaD e=0:=Classical.not_not.1 fun h=>hb (.inl h)
 obtain⟨i,rfl⟩:∃ i:Nat,at'=(i:Int):=⟨at'.toNat,by omega⟩
 have hil:i<e.length:=by omega
 have e1:qdp e rule (i:Int) N=qc0 e i (qtk e rule N i):=by
  unfold qdp
  rw[if_pos hz,if_neg (by omega),if_neg (by omega),Int.toNat_natCast]
 rw[e1]
 unfold qtk
 rcases hr with rfl | rfl
 ·rw[if_pos rfl]
  exact qss hR h303 h319 h256 e hl hf hz i hil N h
 ·rw[if_neg (by decide),if_pos rfl]
  have hT:=(qa8 hz).1
  have hte:=qb0 e hT.ahead i hil
  by_cases hc:N=0∧qce (qaG e i)=0
  ·rw[if_pos hc]
   obtain⟨rfl,ho⟩:=hc
   rw[hte] at ho ⊢
   exact qst hR h304 h320 h256 h171 h207 h208 e hl hf hz i hil ho h
  ·rw[if_neg hc]
   refine qqj hR e hl hf hz i hil N ?_ h
   by_cases hN:N=0
   ·refine .inr fun ho=>hc ⟨hN,?_⟩
    rw[hte]
    exact ho
   ·exact .inl hN
end
theorem qsu {e:List CExpr} (hz:qaD e=0) {rule a N:Int} (h:(qdp e rule a N).2=0) :
  ∃ (i:Nat) (t':CTree),a=(i:Int)∧i<e.length∧(1≤rule∧rule≤12)∧qtk e rule N i=some t'∧qaD (qau (qbF e i t' (e.length-1)))=0∧qdp e rule a N=(qau (qbF e i t' (e.length-1)),0):=by
 unfold qdp at *
 rw[if_pos hz] at *
 by_cases hr:rule<1∨12<rule
 ·rw[if_pos hr] at h;exact absurd (show (4:Int)=0 from h) (by decide)
 rw[if_neg hr] at *
 by_cases ha:a<0∨(e.length:Int)≤a
 ·rw[if_pos ha] at h;exact absurd (show (12:Int)=0 from h) (by decide)
 rw[if_neg ha] at *
 cases hq:qtk e rule N a.toNat with
 | none=>rw[hq] at h;exact absurd (show (12:Int)=0 from h) (by decide)
 | some t' =>
   rw[hq] at h
   unfold qc0 at *
   dsimp only at *
   by_cases hc:qaD (qau (qbF e a.toNat t' (e.length-1)))=0
   ·rw[if_pos hc]
    exact⟨a.toNat,t',by omega,by omega,by omega,hq,hc,rfl⟩
   ·rw[if_neg hc] at h;exact absurd (show (2:Int)=0 from h) (by decide)
theorem qvS {e:List CExpr} (hz:qaD e=0) (hf:∀ x∈e,NodeFit x) {rule N:Int} {i:Nat} (hi:i<e.length) {t':CTree} (h:qtk e rule N i=some t'):TFit t'∧hgt t'≤hgt (qaG e i)+420:=by
 have hg:=qeR hz hf i hi
 unfold qtk at h
 by_cases h10:rule=10
 ·rw[if_pos h10] at h
  have:=qmU hg h
  exact⟨this.1,this.2.2⟩
 ·rw[if_neg h10] at h
  by_cases h12:rule=12
  ·rw[if_pos h12] at h
   split at h
   ·unfold qBh at h
    cases hd:qiU e (qCb (qaG e i)) with
    | none=>rw[hd] at h;cases h
    | some r =>
      rw[hd] at h
      rw[Option.map_some] at h
      injection h with h
      subst h
      obtain⟨hT,_,_,hlab,_⟩:=qa8 hz
      have hr:=qnw hT.ahead (qn6 hlab) hd
      have hgr:=qeR hz hf r hr
      exact⟨qkh _ hgr.fit _,by rw[qiE];have:=hgr.deep;omega⟩
   ·cases h
  ·rw[if_neg h12] at h
   have:=qse rule N _ hg h
   exact⟨this.1,this.2.2⟩
theorem qsd {e:List CExpr} (hz:qaD e=0) (hf:∀ x∈e,NodeFit x) {rule N:Int} {i:Nat} (hi:i<e.length) {t':CTree} (h:qtk e rule N i=some t'):TFit (qbF e i t' (e.length-1)):=by
 obtain⟨h1,h2⟩:=qvS hz hf hi h
 exact (qn2 (qa8 hz).1.ahead i hi t' h1 420 h2 (fun k hk=>qgE hz hf k hk) (e.length-1) (by omega)).1
section
variable {L:Lib} (hR:RLib L)
include hR
theorem qje (hC:CLib2 L) (h325:L.fns 325=some fn325) (h303:L.fns 303=some fm303) (h319:L.fns 319=some fn319) (h304:L.fns 304=some fn304) (h320:L.fns 320=some fn320) (h256:L.fns 256=some fn256) (h160:L.fns 160=some fm160) (h171:L.fns 171=some fn171) (h207:L.fns 207=some fn207) (h208:L.fns 208=some fn208) (h140:L.fns 140=some fn140)
  (hfact:∀ h:Heap,pcall L 282 [] h=some (.val (.bool true),h)) (e:List CExpr) (hl:e.length<2 ^ 30) (hf:∀ x∈e,NodeFit x) (rule a N frm:Int) (hfrm : -9223372036854775808≤frm∧frm<9223372036854775808) (h:Heap) :
  pcall L 325 [.list (e.map qam) none,.agg [.int .i64 rule,.int .i64 a,.int .i64 N],.int .i64 frm] h=some (.val (.bool true),h):=by
 have hL:=hR.plain
 have hp:=hL.pure
 have hdE:=qaI e
 have hord:=qr7 hC e hl hf
 refine qaX hL h325 rfl ?_ h
 unfold qls at hord
 by_cases hz:qaD e=0
 case neg =>
  have hne:(qaD e==0)=false:=by simpa using hz
  rw[if_neg hz] at hord
  dsimp only at hord
  rw[List.map_nil] at hord
  generalize qaD e=r at *
  unfold fn325
  simp -implicitDefEqProofs only[ev_,aOp,opd,qaa,qaB,qaA,aUn,qab,qan,qac,qae,qaj,↓reduceIte,reduceCtorEq,Nat.reduceEqDiff,qaw,qak,hfact,hord,hne,hdE,bne,qal L hp,hp]
 rw[if_pos hz] at hord
 obtain⟨hTL,hn4,hh,hlab,_,hcl⟩:=qa8 hz
 obtain⟨hft,hsz⟩:=qdO hz hf
 have hTok:=qpV hz
 generalize qbD e=T at *
 have hzE:qaD (qau T)=0:=by rw[qgi hTok,if_pos hcl]
 have hlenE:(qau T).length=qaJ T:=by unfold qau;exact qcv T 0
 have hlE:(qau T).length<2 ^ 30:=by omega
 have hfE:∀ x∈qau T,NodeFit x:=qec T 0 hft
 have hdT:=qaI (qau T)
 have hap:=fun h=>qot hR h303 h319 h304 h320 h256 h171 h207 h208 (qau T) hlE hfE rule a N h
 by_cases hg:(qdp (qau T) rule a N).2=0
 case neg =>
  have hgb:((qdp (qau T) rule a N).2==0)=false:=by simpa using hg
  have hdA:=qaI (qdp (qau T) rule a N).1
  generalize (qdp (qau T) rule a N).1=A at *
  generalize (qdp (qau T) rule a N).2=r at *
  unfold fn325
  simp -implicitDefEqProofs only[ev_,aOp,opd,qaa,qaB,qaA,aUn,qab,qaS,qan,qac,qae,qaj,↓reduceIte,reduceCtorEq,Nat.reduceEqDiff,Nat.reduceAdd,qaw,qak,hfact,hord,hap,hgb,hdE,hdT,hdA,bne,qal L hp,hp]
 obtain⟨i,t',rfl,hi,hr12,hres,hckF,happ⟩:=qsu hzE hg
 rw[happ] at hap
 dsimp only at hap
 obtain⟨k,hk1,hk2⟩:=qCA frm 3000 hfrm (by decide)
 have hfF:=qsd hzE hfE hi hres
 rw[hlenE] at hckF hap hfF
 obtain⟨t'',hres2,hck2,hsame⟩:=qpm hTok hcl (k:Int) (by omega) (by omega) rule N i (by omega) t' hres hckF
 have hren:=fun h=>qx7 hC hR.mprims h160 h171 h207 h208 h140 (qau T) hlE hfE (k:Int) h
 obtain⟨r0,_,hsm,hre⟩:=qvR hzE hfE (k:Int) (by omega) (by omega)
 rw[qb5] at hre
 rw[r0,hre] at hren
 rw[hre] at hsm
 have hTf':=qkh T hft ([],(k:Int))
 have hsz':qaJ (qb3 T ([],(k:Int))).1=qaJ T:=qgy T _
 generalize (qb3 T ([],(k:Int))).1=T' at *
 have hzJ:qaD (qau T')=0:=by
  unfold qlJ at hsm
  simp only[Bool.and_eq_true,beq_iff_eq] at hsm
  exact hsm.1.2
 have hlenJ:(qau T').length=qaJ T:=by rw[← hsz'];unfold qau;exact qcv T' 0
 have hlJ:(qau T').length<2 ^ 30:=by omega
 have hfJ:∀ x∈qau T',NodeFit x:=qec T' 0 hTf'
 have hap2:=fun h=>qot hR h303 h319 h304 h320 h256 h171 h207 h208 (qau T') hlJ hfJ rule (i:Int) N h
 have hF2:=qsd hzJ hfJ (by omega) hres2
 rw[hlenJ] at hF2
 have happ2:qdp (qau T') rule (i:Int) N=(qau (qbF (qau T') i t'' (qaJ T-1)),0):=by
  unfold qdp
  rw[if_pos hzJ,if_neg (by omega),if_neg (by omega),Int.toNat_natCast,hres2]
  unfold qc0
  dsimp only
  rw[hlenJ,if_pos hck2]
 rw[happ2] at hap2
 dsimp only at hap2
 generalize qbF (qau T) i t' (qaJ T-1)=F at *
 generalize qbF (qau T') i t'' (qaJ T-1)=F' at *
 have lenF:(qau F).length<2 ^ 30:=by have:=(qa8 hckF).2.1;omega
 have lenF':(qau F').length<2 ^ 30:=by have:=(qa8 hck2).2.1;omega
 have nfF:∀ x∈qau F,NodeFit x:=qec F 0 hfF
 have nfF':∀ x∈qau F',NodeFit x:=qec F' 0 hF2
 have hord2:=qr7 hC (qau F) lenF nfF
 unfold qls at hord2
 rw[if_pos hckF,qb5] at hord2
 dsimp only at hord2
 have hsl:=qq3 hC (qau F) lenF nfF
 have hs3:=qto hC (qau F) (qau F') lenF nfF lenF' nfF'
 have hso:qlJ (qau F) (qau F')=true:=by
  unfold qlJ
  rw[hckF,hck2,qb5,qb5,hsame]
  rfl
 rw[hso] at hs3
 have hdF:=qaI (qau F)
 have hdF':=qaI (qau F')
 have hdJ:=qaI (qau T')
 have hk0:(0:Int)≤(k:Int):=by omega
 clear hres hres2 hsame happ happ2 hg
 generalize qau F=LF at *
 generalize qau F'=LF' at *
 generalize qau T'=LJ at *
 generalize qau T=LE at *
 unfold fn325
 simp -implicitDefEqProofs only[ev_,aOp,opd,qaa,qaB,qaA,aUn,qab,qaf,qaS,qan,qac,qae,qaj,↓reduceIte,reduceCtorEq,Nat.reduceEqDiff,Nat.reduceAdd,Int.reduceEq,gt_iff_lt,qaw,qak,hfact,hord,hap,hord2,qeq,hk1,hren,hap2,hsl,hs3,hdE,hdT,hdF,hdF',hdJ,bne,qal L hp,hp]
end
end Go.Abs
