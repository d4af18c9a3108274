/-
  PARTS OF A PROOF, joined: an abstract machine for quiet code, its evaluation, and what the seat's functions answer on it. Conditions: none.
-/
import Derived.Test.YtpchghpipgpkfaaDoorRP
import Derived.Test.YtpchghpipgpkfaaDoorRAE
set_option linter.unusedVariables false
set_option linter.unusedSimpArgs false
set_option maxRecDepth 100000
set_option maxHeartbeats 8000000
namespace Go.Abs
mutual
def qbK:CTree→Int
 | .mk op n binds kids alts=>qdl kids (qf7 (-1) (qaq op binds alts))
def qdl:List CTree→Int→Int
 | [],m=>m
 | k::ks,m=>qdl ks (if qbK k > m then qbK k else m)
end
theorem qlj:∀ (ks:List CTree) (m:Int),qdl ks m=ks.foldl (fun m k=>if qbK k > m then qbK k else m) m
 | [],m=>by rw[qdl];rfl
 | k::ks,m=>by rw[qdl,qlj ks];rfl
section
variable {L:Lib}
theorem qs7 (V:AVal) (hV:qaH V=true) (l:List Int) (hl:l.length<2 ^ 30) (n0:Int) :
  qba L.pure (call L) 0 [0,3,9,10,11] [0,3] 0 qij ⟨kt [0,3,9,10,11] [V,.int .i64 n0,.list (l.map qav) none,.int .i64 l.length,.int .i64 0],[]⟩=some (.normal,⟨kt [0,3] [V,.int .i64 (qf7 n0 l)],[]⟩):=by
 have key:=qek (pure:=L.pure) (call:=call L) (b:=0) (keep:=[0,3,9,10,11]) (fk:=[0,3]) (id:=0) (body:=qij) l (fun n x=>if x > n then x else n)
  (fun n j=>⟨kt [0,3,9,10,11] [V,.int .i64 n,.list (l.map qav) none,.int .i64 l.length,.int .i64 j],[]⟩)
  (fun n=>⟨kt [0,3] [V,.int .i64 n],[]⟩)
  (fun n j=>qf7 n (l.drop j)=qf7 n0 l) n0 rfl ?_ ?_
 ·obtain⟨h1,h2⟩:=key
  rw[List.drop_length] at h1
  rw[show l.foldl (fun n x=>if x > n then x else n) n0=qf7 n0 l from rfl] at h2
  exact h2
 ·intro j hj n hn
  obtain⟨h1,h2,h3⟩:=qaN qav l hl j hj
  have hd:l.drop j=l[j]::l.drop (j+1):=List.drop_eq_getElem_cons hj
  refine⟨?_,by rw[← hn,hd];rfl⟩
  clear hd hn
  have hdI:=qah l
  generalize l[j]=y at *
  unfold qij
  simp -implicitDefEqProofs only[ev_,aOp,opd,qaa,qaB,qaA,qad,qab,qag,qaC,ren,renC,qa9,qbq,↓reduceIte,reduceCtorEq,Nat.reduceEqDiff,gt_iff_lt,qa1,h1,h2,h3,hV,hdI,qeq]
 ·intro n hn
  have h0:=qaQ l.length
  have hdI:=qah l
  unfold qij
  simp -implicitDefEqProofs only[ev_,aOp,opd,qaa,qaB,qaA,qab,gcE,qaC,ren,renC,qa9,qbq,↓reduceIte,reduceCtorEq,Nat.reduceEqDiff,h0,hV,hdI]
theorem qs8 (hL:Plain L) (ks:List CTree) (hl:ks.length<2 ^ 30) (n0:Int) (hk:∀ k∈ks,∀ h:Heap,pcall L 256 [qao k] h=some (.val (.int .i64 (qbK k)),h)) :
  qba L.pure (call L) 0 [3,22,23,24] [3] 2 qik ⟨kt [3,22,23,24] [.int .i64 n0,.list (ks.map qao) none,.int .i64 ks.length,.int .i64 0],[]⟩=some (.normal,⟨kt [3] [.int .i64 (qdl ks n0)],[]⟩):=by
 have hp:=hL.pure
 have key:=qek (pure:=L.pure) (call:=call L) (b:=0) (keep:=[3,22,23,24]) (fk:=[3]) (id:=2) (body:=qik) ks (fun m k=>if qbK k > m then qbK k else m)
  (fun n j=>⟨kt [3,22,23,24] [.int .i64 n,.list (ks.map qao) none,.int .i64 ks.length,.int .i64 j],[]⟩)
  (fun n=>⟨kt [3] [.int .i64 n],[]⟩)
  (fun n j=>qdl (ks.drop j) n=qdl ks n0) n0 rfl ?_ ?_
 ·obtain⟨h1,h2⟩:=key
  rw[← qlj] at h2
  exact h2
 ·intro j hj n hn
  obtain⟨h1,h2,h3⟩:=qaN qao ks hl j hj
  have hd:ks.drop j=ks[j]::ks.drop (j+1):=List.drop_eq_getElem_cons hj
  refine⟨?_,by rw[← hn,hd,qdl]⟩
  clear hd hn
  have hdT:=qbi ks
  have hk1:=hk _ (List.getElem_mem hj)
  have hdk:=qbY ks[j]
  generalize ks[j]=y at *
  generalize qbK y=w at *
  unfold qik
  simp -implicitDefEqProofs only[ev_,aOp,opd,qaa,qaB,qaA,qad,qab,qag,qaC,ren,renC,qa9,qbq,↓reduceIte,Nat.reduceEqDiff,gt_iff_lt,qaw,qer,qwv,h1,h2,h3,hdk,hk1,hdT,qeq,qal L hp,hp]
 ·intro n hn
  have h0:=qaQ ks.length
  have hdT:=qbi ks
  unfold qik
  simp -implicitDefEqProofs only[ev_,aOp,opd,qaa,qaB,qaA,qab,gcE,qaC,ren,renC,qa9,qbq,↓reduceIte,Nat.reduceEqDiff,h0,hdT]
theorem qmT (hL:Plain L) (h232:L.fns 232=some fn232) (h256:L.fns 256=some fn256) (t:CTree) (hf:TFit t):∀ h:Heap,pcall L 256 [qao t] h=some (.val (.int .i64 (qbK t)),h):=by
 have hp:=hL.pure
 induction t using CTree.ind with
 | h op n binds kids alts ih =>
   intro h
   cases hf with
   | mk _ _ _ _ _ hb hk ha hfk =>
   have ih':=fun k hk=>ih k hk (hfk k hk)
   have hdK:=qbi kids
   have hbn:=fun h=>qe1 hL h232 op n binds (.list (kids.map qao) none) (by rw[qa3];exact hdK) alts ha (Nat.le_of_lt hb) h
   have hbl:(qaq op binds alts).length<2 ^ 30:=by
    rw[List.length_append] at hb
    unfold qaq
    split<;>rw[List.length_append]<;>(try rw[List.length_nil])<;>omega
   have c0:=qs7 (L:=L) (.vptr [.int .i64 op,.int .i64 n,.list (binds.map qav) none,.list (kids.map qao) none,.list (alts.map qas) none] 0) (by rw[← qbj];exact qbY _) (qaq op binds alts) hbl (-1)
   have c1:=qs8 hL kids hk (qf7 (-1) (qaq op binds alts)) ih'
   have hdV:qaH (.vptr [.int .i64 op,.int .i64 n,.list (binds.map qav) none,.list (kids.map qao) none,.list (alts.map qas) none] 0)=true:=by rw[← qbj];exact qbY _
   refine qaX hL h256 rfl ?_ h
   rw[qbj,qbK]
   generalize qdl kids (qf7 (-1) (qaq op binds alts))=mm at *
   have hdB:=qah (qaq op binds alts)
   generalize qf7 (-1) (qaq op binds alts)=m0 at *
   unfold fn256
   simp -implicitDefEqProofs only[ev_,aOp,opd,qaa,qbd,qag,qai,qan,qac,qae,qaj,qaC,ren,renC,qa9,qbq,↓reduceIte,reduceCtorEq,Nat.reduceEqDiff,Int.reduceNeg,qak,hbn,c0,c1,hdV,hdB,hdK,List.length_map,qal L hp,hp]
end
def opN (e:List CExpr) (k:Nat):Int:=(e[k]?.map (·.op)).getD 0
def qhk (e:List CExpr) (x:CExpr) (id:Int) (i:Nat) (n:Int):Option Nat :=
 if n=id∧(x.op=4∨x.op=5)∧opN e (x.kids.getD i 0).toNat=2 then some (x.kids.getD i 0).toNat else none
def qhF (e:List CExpr) (id:Int) (x:CExpr):Option Nat:=qaE (qhk e x id) x.binds 0
def qiU (e:List CExpr) (id:Int):Option Nat:=qaE (fun _ x=>qhF e id x) e 0
section
variable {L:Lib}
theorem qyx {b:Nat} (e:List CExpr) (x:CExpr) (hx:NodeFit x) (ps:List Nat) (hps:ps.length=e.length) (hkid:∀ k∈x.kids,0≤k∧k.toNat<e.length) (hsh:x.op=4∨x.op=5→x.binds.length≤x.kids.length) (id:Int) (H:Heap) (p:Nat) (ow:Option (Option Nat)) (np:Int) (k:Nat)
  (hp:qmj x ps H p) (hn:∀ (k:Nat) (hk:k<e.length),qmj e[k] ps H (ps[k]'(by omega))) (ob:Option (Option Nat)) :
  qba L.pure (call L) b [1000000,1,6,12,13,14,21,22,23] [1000000,1,4,12,13,14] 2 qdH
   ⟨kt [1,6,12,13,14,21,22,23] [.int .i64 id,qar p,.list (ps.map qar) ow,.int .i64 np,.int .i64 k,.list (x.binds.map qav) ob,.int .i64 x.binds.length,.int .i64 0],H⟩ =
   some (qbh (fun r=>⟨kt [1,4,12,13,14] [.int .i64 id,qar (ps.getD r 0),.list (ps.map qar) ow,.int .i64 np,.int .i64 k],H⟩) ⟨kt [1,4,12,13,14] [.int .i64 id,.junk,.list (ps.map qar) ow,.int .i64 np,.int .i64 k],H⟩ (qhF e id x)):=by
 obtain⟨ob',ok,avs,oa,n1,n2⟩:=hp
 refine qb6 (pure:=L.pure) (call:=call L) (b:=b) (keep:=[1000000,1,6,12,13,14,21,22,23]) (fk:=[1000000,1,4,12,13,14]) (id:=2) (body:=qdH) x.binds (qhk e x id)
  (fun i=>⟨kt [1,6,12,13,14,21,22,23] [.int .i64 id,qar p,.list (ps.map qar) ow,.int .i64 np,.int .i64 k,.list (x.binds.map qav) ob,.int .i64 x.binds.length,.int .i64 i],H⟩) _ _ ?_ ?_ ?_
 ·intro i hi hg
  obtain⟨h1,h2,h3⟩:=qaN qav x.binds hx.binds i hi
  unfold qhk at hg
  unfold nb at n1
  unfold qar at *
  by_cases hid:x.binds[i]=id
  case neg =>
   have hid':(x.binds[i]==id)=false:=by simpa using hid
   clear hg
   generalize x.binds[i]=y at *
   unfold qdH
   simp -implicitDefEqProofs only[ev_,aOp,opd,qaa,qaB,qaA,qad,qab,qaf,qag,↓reduceIte,Nat.reduceEqDiff,qa1,h1,h2,h3,n1,hid']
  have hid':(x.binds[i]==id)=true:=by simpa using hid
  by_cases ho:x.op=4∨x.op=5
  case neg =>
   have o4:(x.op==4)=false:=by simpa using fun h=>ho (.inl h)
   have o5:(x.op==5)=false:=by simpa using fun h=>ho (.inr h)
   clear hg
   generalize x.binds[i]=y at *
   unfold qdH
   simp -implicitDefEqProofs only[ev_,aOp,opd,qaa,qaB,qaA,qad,qab,qaf,qag,qai,↓reduceIte,Nat.reduceEqDiff,qa1,h1,h2,h3,n1,hid',o4,o5]
  have hik:i<x.kids.length:=by have:=hsh ho;omega
  have hkm:=hkid _ (List.getElem_mem hik)
  have hge:x.kids.getD i 0=x.kids[i]:=by rw[List.getD_eq_getElem?_getD,List.getElem?_eq_getElem hik];rfl
  rw[hge] at hg
  obtain⟨ob2,ok2,avs2,oa2,m1,m2⟩:=hn _ hkm.2
  have hlk:((x.kids.map fun k=>ps.getD k.toNat 0).map fun p=>AVal.ptr (some (p,0)))[i]? = some (.ptr (some (ps[x.kids[i].toNat]'(by omega),0))):=by
   rw[List.getElem?_map,List.getElem?_map,List.getElem?_eq_getElem hik,Option.map_some,Option.map_some,List.getD_eq_getElem?_getD,List.getElem?_eq_getElem (by omega)]
   rfl
  have hop:(e[x.kids[i].toNat].op==2)=false:=by
   have:opN e x.kids[i].toNat=e[x.kids[i].toNat].op:=by unfold opN;rw[List.getElem?_eq_getElem hkm.2];rfl
   rw[this] at hg
   by_cases h2:e[x.kids[i].toNat].op=2
   ·rw[if_pos ⟨hid,ho,h2⟩] at hg;cases hg
   ·simpa using h2
  clear hg
  generalize x.binds[i]=y at *
  unfold nb at m1
  generalize ps[x.kids[i].toNat]'(by omega)=kp at *
  generalize e[x.kids[i].toNat]=kx at *
  have hi0:(0:Int)≤(i:Int):=by omega
  rcases ho with ho | ho
  ·have o4:(x.op==4)=true:=by simpa using ho
   unfold qdH
   simp -implicitDefEqProofs only[ev_,aOp,opd,qaa,qaB,qaA,qad,qab,qaf,qag,qai,↓reduceIte,Nat.reduceEqDiff,qa1,h1,h2,h3,n1,hid',o4,hlk,m1,hop]
  ·have o4:(x.op==4)=false:=by rw[ho];rfl
   have o5:(x.op==5)=true:=by simpa using ho
   unfold qdH
   simp -implicitDefEqProofs only[ev_,aOp,opd,qaa,qaB,qaA,qad,qab,qaf,qag,qai,↓reduceIte,Nat.reduceEqDiff,qa1,h1,h2,h3,n1,hid',o4,o5,hlk,m1,hop]
 ·intro i hi r hg
  obtain⟨h1,h2,h3⟩:=qaN qav x.binds hx.binds i hi
  unfold qhk at hg
  unfold nb at n1
  unfold qar at *
  split at hg
  case isFalse=>cases hg
  rename_i hq
  obtain⟨hid,ho,hop⟩:=hq
  injection hg with hg
  subst hg
  have hid':(x.binds[i]==id)=true:=by simpa using hid
  have hik:i<x.kids.length:=by have:=hsh ho;omega
  have hkm:=hkid _ (List.getElem_mem hik)
  have hge:x.kids.getD i 0=x.kids[i]:=by rw[List.getD_eq_getElem?_getD,List.getElem?_eq_getElem hik];rfl
  rw[hge] at hop
  rw[hge]
  obtain⟨ob2,ok2,avs2,oa2,m1,m2⟩:=hn _ hkm.2
  have hgp:ps.getD x.kids[i].toNat 0=ps[x.kids[i].toNat]'(by omega):=by rw[List.getD_eq_getElem?_getD,List.getElem?_eq_getElem (by omega)];rfl
  have hlk:((x.kids.map fun k=>ps.getD k.toNat 0).map fun p=>AVal.ptr (some (p,0)))[i]? = some (.ptr (some (ps[x.kids[i].toNat]'(by omega),0))):=by
   rw[List.getElem?_map,List.getElem?_map,List.getElem?_eq_getElem hik,Option.map_some,Option.map_some,hgp]
  have hop':(e[x.kids[i].toNat].op==2)=true:=by
   have:opN e x.kids[i].toNat=e[x.kids[i].toNat].op:=by unfold opN;rw[List.getElem?_eq_getElem hkm.2];rfl
   rw[this] at hop
   simpa using hop
  rw[hgp]
  generalize x.binds[i]=y at *
  unfold nb at m1
  clear hgp hop
  generalize ps[x.kids[i].toNat]'(by omega)=kp at *
  generalize e[x.kids[i].toNat]=kx at *
  rcases ho with ho | ho
  ·have o4:(x.op==4)=true:=by simpa using ho
   unfold qdH
   simp -implicitDefEqProofs only[ev_,aOp,opd,qaa,qaB,qaA,qad,qab,qaf,qag,qai,gcE,↓reduceIte,Nat.reduceEqDiff,qa1,h1,h2,h3,n1,hid',o4,hlk,m1,hop']
  ·have o4:(x.op==4)=false:=by rw[ho];rfl
   have o5:(x.op==5)=true:=by simpa using ho
   unfold qdH
   simp -implicitDefEqProofs only[ev_,aOp,opd,qaa,qaB,qaA,qad,qab,qaf,qag,qai,gcE,↓reduceIte,Nat.reduceEqDiff,qa1,h1,h2,h3,n1,hid',o4,o5,hlk,m1,hop']
 ·have h0:=qaQ x.binds.length
  unfold qdH
  simp -implicitDefEqProofs only[ev_,aOp,opd,qaa,qaB,qaA,qab,gcE,↓reduceIte,Nat.reduceEqDiff,h0]
theorem qBo {b:Nat} (e:List CExpr) (hl:e.length<2 ^ 30) (hf:∀ x∈e,NodeFit x) (ps:List Nat) (hps:ps.length=e.length) (hA:qdr e) (hsh:∀ x∈e,x.op=4∨x.op=5→x.binds.length≤x.kids.length) (id:Int) (H:Heap) (ow:Option (Option Nat))
  (hn:∀ (k:Nat) (hk:k<e.length),qmj e[k] ps H (ps[k]'(by omega))) :
  qba L.pure (call L) b [1000000,1,12,13,14] [1000000,4] 0 qg9 ⟨kt [1,12,13,14] [.int .i64 id,.list (ps.map qar) ow,.int .i64 e.length,.int .i64 ((0:Nat):Int)],H⟩ =
   some (qbh (fun r=>⟨kt [4] [qar (ps.getD r 0)],H⟩) ⟨kt [4] [.junk],H⟩ (qiU e id)):=by
 refine qb6 (pure:=L.pure) (call:=call L) (b:=b) (keep:=[1000000,1,12,13,14]) (fk:=[1000000,4]) (id:=0) (body:=qg9) e (fun _ x=>qhF e id x)
  (fun i=>⟨kt [1,12,13,14] [.int .i64 id,.list (ps.map qar) ow,.int .i64 e.length,.int .i64 i],H⟩) _ _ ?_ ?_ ?_
 ·intro i hi hg
  obtain⟨h1,h2,h3⟩:=qaN qar ps (by omega) i (by omega)
  have hx:=hf _ (List.getElem_mem hi)
  have hkid:∀ k∈e[i].kids,0≤k∧k.toNat<e.length:=fun k hk=>by have:=hA i hi k hk;omega
  obtain⟨ob,ok,avs,oa,n1,n2⟩:=hn i hi
  have c0:=qyx (L:=L) (b:=H.length) e e[i] hx ps hps hkid (hsh _ (List.getElem_mem hi)) id H ps[i] ow e.length i (hn i hi) hn ob
  rw[hg] at c0
  rw[hps] at h1
  generalize ps[i]'(by omega)=p at *
  generalize e[i]=x at *
  unfold nb at n1
  unfold qar at *
  unfold qbh at c0
  dsimp only at c0
  unfold qg9
  simp -implicitDefEqProofs only[ev_,aOp,opd,qaa,qaB,qbd,qaA,qad,qab,qag,qai,↓reduceIte,Nat.reduceEqDiff,h1,h2,h3,n1,c0,List.length_map]
 ·intro i hi r hg
  obtain⟨h1,h2,h3⟩:=qaN qar ps (by omega) i (by omega)
  have hx:=hf _ (List.getElem_mem hi)
  have hkid:∀ k∈e[i].kids,0≤k∧k.toNat<e.length:=fun k hk=>by have:=hA i hi k hk;omega
  obtain⟨ob,ok,avs,oa,n1,n2⟩:=hn i hi
  have c0:=qyx (L:=L) (b:=H.length) e e[i] hx ps hps hkid (hsh _ (List.getElem_mem hi)) id H ps[i] ow e.length i (hn i hi) hn ob
  rw[hg] at c0
  rw[hps] at h1
  generalize ps[i]'(by omega)=p at *
  generalize e[i]=x at *
  unfold nb at n1
  unfold qar at *
  unfold qbh at c0
  dsimp only at c0
  unfold qg9
  simp -implicitDefEqProofs only[ev_,aOp,opd,qaa,qaB,qbd,qaA,qad,qab,qag,qai,gcE,↓reduceIte,Nat.reduceEqDiff,h1,h2,h3,n1,c0,List.length_map]
 ·have h0:=qaQ e.length
  unfold qg9
  simp -implicitDefEqProofs only[ev_,aOp,opd,qaa,qaB,qaA,qab,gcE,↓reduceIte,Nat.reduceEqDiff,h0]
theorem qBp (hL:Plain L) (h320:L.fns 320=some fn320) (e:List CExpr) (hl:e.length<2 ^ 30) (hf:∀ x∈e,NodeFit x) (ps:List Nat) (hps:ps.length=e.length) (hA:qdr e) (hsh:∀ x∈e,x.op=4∨x.op=5→x.binds.length≤x.kids.length) (id:Int) (H:Heap) (ow:Option (Option Nat)) (w:Nat) (rt:AVal)
  (hw:H[w]? = some (.box [.list (ps.map qar) ow,rt])) (hn:∀ (k:Nat) (hk:k<e.length),qmj e[k] ps H (ps[k]'(by omega))) :
  call L 320 [qar w,.int .i64 id] H=some (.val (match qiU e id with | none=>.ptr none | some r=>qar (ps.getD r 0)),H):=by
 have c0:=qBo (L:=L) (b:=H.length) e hl hf ps hps hA hsh id H ow hn
 refine qaL (hL.summ 320 (by rw[h320];simp)) h320 ?_
 have hlen:((ps.length:Nat):Int)=e.length:=by rw[hps]
 rw[Int.natCast_zero] at c0
 unfold qar at *
 cases hd:qiU e id with
 | none =>
   rw[hd] at c0
   unfold qbh at c0
   dsimp only at c0
   unfold fn320
   simp -implicitDefEqProofs only[ev_,aOp,opd,qaa,qbd,qag,qai,qan,qac,qae,qaj,↓reduceIte,reduceCtorEq,Nat.reduceEqDiff,hw,hlen,c0]
 | some r =>
   rw[hd] at c0
   unfold qbh at c0
   dsimp only at c0
   unfold fn320
   simp -implicitDefEqProofs only[ev_,aOp,opd,qaa,qbd,qag,qai,qan,qac,qae,qaj,↓reduceIte,reduceCtorEq,Nat.reduceEqDiff,hw,hlen,c0]
end
theorem qlk:∀ (ks:List CTree) (m:Int),m≤qdl ks m
 | [],m=>by rw[qdl];exact Int.le_refl _
 | k :: ks,m => by
   rw[qdl]
   exact Int.le_trans (show m≤(if qbK k > m then qbK k else m) by split<;>omega) (qlk ks _)
theorem qiC (t:CTree) : -1≤qbK t:=by
 cases t with
 | mk op n binds kids alts =>
   rw[qbK]
   have:=qlk kids (qf7 (-1) (qaq op binds alts))
   have:=(qiB (qaq op binds alts) (-1)).1
   omega
theorem qr4 (B:Int) (hB : -1≤B) (t:CTree) (h:∀ x∈(qbg t).flatMap qbn,x≤B):qbK t≤B:=by
 induction t using CTree.ind with
 | h op n binds kids alts ih =>
   rw[qbg,List.flatMap_append] at h
   have h1:∀ x∈qaq op binds alts,x≤B:=fun x hx=>h x (List.mem_append_right _ (by simpa[qbn] using hx))
   have h2:∀ x∈(qaY kids).flatMap qbn,x≤B:=fun x hx=>h x (List.mem_append_left _ hx)
   rw[qbK]
   have key:∀ (ks:List CTree) (m:Int),(∀ k∈ks,k∈kids)→m≤B→(∀ x∈(qaY ks).flatMap qbn,x≤B)→qdl ks m≤B:=by
    intro ks
    induction ks with
    | nil=>intro m _ hm _;rw[qdl];exact hm
    | cons k ks ihk =>
      intro m hk hm hx
      rw[qaY,List.flatMap_append] at hx
      have:=ih k (hk k (by simp)) fun x h=>hx x (List.mem_append_left _ h)
      rw[qdl]
      exact ihk _ (fun q hq=>hk q (by simp[hq])) (by split<;>omega) fun x h=>hx x (List.mem_append_right _ h)
   exact key kids _ (fun k hk=>hk) (qnP _ _ _ hB h1) h2
theorem qr3 {e:List CExpr} (hz:qaD e=0):qbK (qaG e (e.length-1))≤1048576:=by
 have h1:=qAH hz
 refine Int.le_trans (qr4 (qvf e) (qxN e) _ fun x hx=>?_) h1
 obtain⟨hT,_⟩:=qa8 hz
 refine (qiB (e.flatMap qbB) (-1)).2 x ?_
 rw[← qdJ] at hx
 rw[qes e]
 exact ((qdy e hT).flatMap_right qbn).mem_iff.1 hx
section
variable {L:Lib}
theorem qti (hL:Plain L) (h171:L.fns 171=some fn171) (h207:L.fns 207=some fn207) (h208:L.fns 208=some fn208) (t:CTree) (hf:TFit t) (H:Heap) (p:Nat) (fp:List Nat) (hT:HT H t p fp) (hnd:fp.Nodup) (a:Int) (ha:0≤a) (hb:(qb3 t ([],a)).2.2<2 ^ 50) :
  ∃ H',call L 171 [qar p,.int .i64 a] H=some (.val (.int .i64 (qb3 t ([],a)).2.2),H')∧HT H' (qb3 t ([],a)).1 p fp∧H.length≤H'.length∧∀ q,q<H.length→q∉fp→H'[q]? = H[q]? := by
 have hlt':=hT.lt
 have hE:RE (H++[.box [.int .i64 a],.map [],.box [.map (some (H.length+1))],.box [.func 207 [] [qar (H.length+2),qar H.length,qar (H.length+3)]]]) (H.length+2) H.length (H.length+3) (H.length+1) ([],a) :=
  ⟨qzp rfl,hgl rfl,by simp,qrF rfl⟩
 obtain⟨H',c1,c2,c3,c4,c5⟩:=qyK hL h207 h208 t hf _ p fp ([],a) _ _ _ _ (hT.frame fun q hq=>hga (hlt' q hq)) hnd hE (fun h=>by have:=hlt' _ h;omega) (fun h=>by have:=hlt' _ h;omega) (fun h=>by have:=hlt' _ h;omega) (fun h=>by have:=hlt' _ h;omega) ha hb
 refine⟨H',?_,c3,by rw[c4];simp,fun q hq hqf=>by rw[c5 q (by omega) (by omega) hqf,hga hq]⟩
 refine qaL (hL.summ 171 (by rw[h171];simp)) h171 ?_
 have g1:=c2.f
 unfold qar at *
 unfold fn171
 simp -implicitDefEqProofs only[ev_,aOp,opd,qaa,qay,qag,qaT,leaf,qat,qan,qac,qae,qaj,↓reduceIte,reduceCtorEq,Nat.reduceEqDiff,Nat.reduceAdd,c1,g1,hgl,qrF,qzp,qCs,hsl,qB7,qCu,qCK,hga]
theorem qsK (hL:Plain L) (hP:CPrims L qa6) (hM:MPrims L) (h187:L.fns 187=some fm187) (h159:L.fns 159=some fm159) (h160:L.fns 160=some fm160) (h316:L.fns 316=some fn316) (t:CTree) (hf:TFit t) (hsz:qaJ t<2 ^ 30) (hn:∀ x∈qau t,NodeFit x) (H:Heap) (p:Nat) (hv:WT H H.length t p) :
  ∃ H' q fp,call L 316 [qar p] H=some (.val (qar q),H')∧HT H' t q fp∧fp.Nodup∧(∀ x∈fp,H.length≤x)∧H.length≤H'.length∧∀ i,i<H.length→H'[i]? = H[i]? := by
 obtain⟨H1,own,c1,c2,c3⟩:=qnK hL hP h187 h159 t hf hsz H H.length (Nat.le_refl _) (qar p) (.inr ⟨p,rfl,hv⟩)
 obtain⟨H2,q,fp,g1,g2,g3,g4,g5,g6⟩:=qli hL hM h160 own (qau t) (by unfold qau;rw[qcv];exact hsz) hn (qgH t) H1
 rw[qb5] at g2
 refine⟨H2,q,fp,?_,g2,g3,fun x hx=>by have:=g4 x hx;omega,by omega,fun i hi=>by rw[g6 i (by omega),c3 i hi]⟩
 refine qaL (hL.summ 316 (by rw[h316];simp)) h316 ?_
 unfold qar at *
 unfold fn316
 simp -implicitDefEqProofs only[ev_,aOp,opd,qan,qac,qae,qaj,↓reduceIte,reduceCtorEq,c1,g1]
variable (hR:RLib L)
include hR
theorem qwl (h304:L.fns 304=some fn304) (h320:L.fns 320=some fn320) (h256:L.fns 256=some fn256) (h171:L.fns 171=some fn171) (h207:L.fns 207=some fn207) (h208:L.fns 208=some fn208)
  (e:List CExpr) (hz:qaD e=0) (hf:∀ x∈e,NodeFit x) (H:Heap) (ps:List Nat) (hps:ps.length=e.length) (ow:Option (Option Nat)) (w:Nat) (hw:H[w]? = some (.box [.list (ps.map qar) ow,qar (ps.getD (e.length-1) 0)]))
  (hn:∀ (k:Nat) (hk:k<e.length),qmj e[k] ps H (ps[k]'(by omega))) (hws:∀ k,k<e.length→WS H (fun i=>i<H.length) (qaG e k) (ps.getD k 0)) (p:Nat) (id:Int) (o:AVal) (cs:List AVal) (hbx:H[p]? = some (.box (o::.int .i64 id::cs))) :
  match qiU e id with
  | none=>call L 304 [qar w,qar p] H=some (.val (.ptr none),H)
  | some r=>r<e.length→∃ H' q fp,call L 304 [qar w,qar p] H=some (.val (qar q),H')∧HT H' (qb3 (qaG e r) ([],qbK (qaG e (e.length-1))+1)).1 q fp∧(∀ x∈fp,H.length≤x)∧H.length≤H'.length∧∀ i,i<H.length→H'[i]? = H[i]? := by
 have hL:=hR.plain
 have hp:=hL.pure
 obtain⟨hT,hn4,hdeep,hlab,_⟩:=qa8 hz
 have hpos:=hT.pos
 have hl:e.length<2 ^ 30:=by omega
 have hsh:∀ x∈e,x.op=4∨x.op=5→x.binds.length≤x.kids.length:=by
  intro x hx ho
  obtain⟨h1,_⟩:=qdb (hlab x hx)
  unfold qhb at h1
  dsimp only at h1
  rw[List.length_map] at h1
  rcases ho with ho | ho
  ·have:=qcE h1 ho;omega
  ·have:=qdT h1 ho;omega
 have cd:=qBp hL h320 e hl hf ps hps hT.ahead hsh id H ow w _ hw hn
 have hs:=hL.summ 304 (by rw[h304];simp)
 cases hd:qiU e id with
 | none =>
   rw[hd] at cd
   dsimp only at cd ⊢
   refine qaL hs h304 ?_
   unfold qar at *
   unfold fn304
   simp -implicitDefEqProofs only[ev_,aOp,opd,qaa,qaB,aEq,qag,qai,qan,qac,qae,qaj,↓reduceIte,reduceCtorEq,Nat.reduceEqDiff,Option.isNone_none,hbx,cd]
 | some r =>
   rw[hd] at cd
   dsimp only at cd ⊢
   intro hr
   have hg:=qeR hz hf r hr
   have hx:∀ x∈qau (qaG e r),NodeFit x:=qec (qaG e r) 0 hg.fit
   obtain⟨H1,q,fp,c1,t1,nd1,lo1,le1,k1⟩:=qsK hL hR.prims hR.mprims hR.f187 hR.f159 hR.f160 hR.f316 (qaG e r) hg.fit (by have:=hg.size;omega) hx H (ps.getD r 0) (hws r hr).toT
   have hroot:=(hws (e.length-1) (by omega)).frame (H':=H1) fun i hi=>k1 i hi
   have hlk:=hroot.lookV (by have:=(qeR hz hf (e.length-1) (by omega)).deep;omega)
   have hm:=qr3 hz
   have hm0:=qiC (qaG e (e.length-1))
   have hfr:=qeR hz hf (e.length-1) (by omega)
   have cm:=qmT hL hR.f232 h256 (qaG e (e.length-1)) hfr.fit
   have hdt:=qbY (qaG e (e.length-1))
   have hvc:qgI (call L) 256 [qar (ps.getD (e.length-1) 0)] H1=some (.val (.int .i64 (qbK (qaG e (e.length-1)))),H1) :=
    qdE (args':=[qao (qaG e (e.length-1))]) (by rw[List.map_cons,List.map_nil];exact congrArg (fun x=>[x]) hlk) (by rw[qax,hdt];rfl) rfl (cm H1)
   have hcnt:=(qgA (qaG e r) (qkw _ hg.lab) ([],qbK (qaG e (e.length-1))+1)).1
   have hmx:=qfs (qoe (qpV hz) (qsf hT r hr))
   obtain⟨H2,c2,t2,le2,k2⟩:=qti hL h171 h207 h208 (qaG e r) hg.fit H1 q fp t1 nd1 (qbK (qaG e (e.length-1))+1) (by omega) (by dsimp only at hcnt;rw[hcnt];omega)
   refine⟨H2,q,fp,?_,t2,lo1,by omega,fun i hi=>by rw[k2 i (by omega) fun h=>by have:=lo1 i h;omega,k1 i hi]⟩
   have hp1:H1[p]? = some (.box (o::.int .i64 id::cs)):=by rw[k1 p (hlt hbx)];exact hbx
   have hw1:H1[w]? = some (.box [.list (ps.map qar) ow,qar (ps.getD (e.length-1) 0)]):=by rw[k1 w (hlt hw)];exact hw
   have hwr:IntKind.i64.wrap (qbK (qaG e (e.length-1))+1)=qbK (qaG e (e.length-1))+1:=qcy (by omega) (by omega)
   refine qaL hs h304 ?_
   clear hroot hcnt hlk cm
   generalize (qb3 (qaG e r) ([],qbK (qaG e (e.length-1))+1)).2.2=z at *
   generalize qbK (qaG e (e.length-1))=mm at *
   unfold qar at *
   unfold fn304
   simp -implicitDefEqProofs only[ev_,aOp,opd,qaa,qaB,qaA,aEq,qab,qag,qai,qan,qac,qae,qaj,↓reduceIte,reduceCtorEq,Nat.reduceEqDiff,hbx,hp1,hw1,cd,c1,hvc,hwr,c2,qal L hp,hp]
end
def VW (H:Heap) (t:CTree) (p:Nat):Prop:=∀ n,2*hgt t+2≤n→qaV H n (qar p)=qao t
theorem qrc {H:Heap} (op n:Int) (binds:List Int) (kids:List CTree) (alts:List CAlt) (p:Nat) (ps:List Nat) (ob ok:Option (Option Nat)) (avs:List AVal) (oa:Option (Option Nat))
  (hbox:H[p]? = some (.box [.int .i64 op,.int .i64 n,.list (binds.map qav) ob,.list (ps.map qar) ok,.list avs oa])) (ha:RA alts avs) (hl:ps.length=kids.length)
  (hk:∀ (i:Nat) (hi:i<kids.length),VW H kids[i] (ps[i]'(by omega))):VW H (.mk op n binds kids alts) p:=by
 intro m hm
 rw[hgt] at hm
 obtain⟨q,rfl⟩:∃ q,m=q+1+1+1:=⟨m-3,by omega⟩
 unfold qar
 rw[qaV,if_neg (by simp[qaH])]
 unfold qcx
 dsimp only
 rw[hbox]
 dsimp only
 have hlf:([.int .i64 op,.int .i64 n,.list (binds.map qav) ob,.list (ps.map qar) ok,.list avs oa]:List AVal).all leaf=true:=rfl
 rw[if_pos hlf]
 simp only[List.map_cons,List.map_nil]
 rw[qbG (v:=.int .i64 op) rfl,qbG (v:=.int .i64 n) rfl,qcn H _ (qah binds),ha.viewL,qbj]
 have hkids:qaV H (q+1+1) (.list (ps.map qar) ok)=.list (kids.map qao) none:=by
  have hmap:(ps.map qar).map (qaV H (q+1))=kids.map qao:=by
   refine List.ext_getElem (by simp[hl]) fun i h1 h2=>?_
   have hi:i<kids.length:=by simpa using h2
   rw[List.getElem_map,List.getElem_map,List.getElem_map]
   refine hk i hi _ ?_
   have:=qdK (List.getElem_mem hi)
   have:0<hgt kids[i]:=by generalize kids[i]=t';cases t';rw[hgt];omega
   omega
  cases hps:ps with
  | nil =>
    have hk0:kids=[]:=List.length_eq_zero_iff.1 (by rw[← hl,hps];rfl)
    subst hk0
    exact qcn H _ rfl ok
  | cons p0 ps' =>
    rw[hps] at hmap
    have hnd:qax ((p0::ps').map qar)=false:=by rw[List.map_cons,qax];simp[qar,qaH]
    rw[qaV,if_neg (qll (by rw[hnd];simp) ok)]
    generalize hW:(p0::ps').map qar=W at hmap hnd
    show (if qax W=true then AVal.list W none else if (W.map fun x=>(acells (qaV H (q+1) x)).length)=W.map fun x=>(acells x).length then AVal.list (W.map (qaV H (q+1))) none else .junk)=_
    rw[if_neg (by rw[hnd];simp),if_pos,hmap]
    have e1:(W.map fun x=>(acells (qaV H (q+1) x)).length)=(W.map (qaV H (q+1))).map fun y=>(acells y).length:=by rw[List.map_map];rfl
    rw[e1,hmap,← hW,List.map_map,List.map_map]
    have:(kids.map ((fun y=>(acells y).length) ∘ qao))=kids.map fun _=>1:=List.map_congr_left fun t _=>by
     show (acells (qao t)).length=1
     rw[qer];rfl
    have h2:((p0::ps').map ((fun x=>(acells x).length) ∘ qar))=(p0::ps').map fun _=>1:=rfl
    rw[this,h2,List.map_const',List.map_const',← hl,hps]
 rw[hkids]
 rfl
theorem quL {e:List CExpr} (hT:TreeL e) {w0:Nat} {H H2:Heap} {ps:List Nat} {ow:Option (Option Nat)} {rt:AVal} (h:OJ e w0 e.length H ps ow rt) {i:Nat} (hi:i<e.length) {t':CTree} (hw:VW H2 t' (ps.getD i 0))
  (hk:∀ k,k<e.length→¬ Blw e i k→H2[ps.getD k 0]? = H[ps.getD k 0]?):∀ k,k<e.length→(k=i∨¬ Blw e i k)→VW H2 (qbF e i t' k) (ps.getD k 0):=by
 intro k
 induction k using Nat.strongRecOn with
 | ind k ih =>
   intro hkl hc
   rw[qfm e hT.ahead i t' k hkl]
   by_cases hki:k=i
   ·rw[if_pos hki]
    subst hki
    exact hw
   ·rw[if_neg hki]
    have hnb:¬ Blw e i k:=by
     rcases hc with h | h
     ·exact absurd h hki
     ·exact h
    have hl:=h.len
    obtain⟨ob,ok,avs,oa,n1,n2⟩:=h.node k hkl (by omega)
    have hg:ps.getD k 0=ps[k]'(by omega):=by
     rw[List.getD_eq_getElem?_getD,List.getElem?_eq_getElem (by omega)]
     rfl
    have hh:=hk k hkl hnb
    rw[hg] at hh ⊢
    refine qrc _ _ _ _ _ _ _ ob ok avs oa (by rw[hh];exact n1) n2 (by simp) fun x hx=>?_
    rw[List.length_map] at hx
    rw[List.getElem_map,List.getElem_map]
    have hlt:=hT.ahead k hkl _ (List.getElem_mem hx)
    have hkid:e[k].kids[x].toNat∈qbm e k:=by
     unfold qbm
     rw[List.getElem?_eq_getElem hkl]
     exact List.mem_map_of_mem (List.getElem_mem hx)
    refine ih _ (by omega) (by omega) ?_
    by_cases hci:e[k].kids[x].toNat=i
    ·exact .inl hci
    ·exact .inr fun hb=>hnb (qe2 hT hb (fun e=>hci e.symm) hkid)
theorem qnf {H:Heap} {w r:Nat} {a:AVal} {T:CTree} (hw:H[w]? = some (.box [a,qar r])) (ha:leaf a=true) (hT:VW H T r) (hh:hgt T≤900):viewV H (.ptr (some (w,0)))=.vptr [qaV H 1999 a,qao T] 0:=by
 unfold viewV
 rw[show (2000:Nat)=1999+1 from rfl,qaV,if_neg (by simp[qaH])]
 unfold qcx
 dsimp only
 rw[hw]
 dsimp only
 rw[if_pos (by rw[List.all_cons,ha];rfl),List.map_cons,List.map_cons,List.map_nil,hT 1999 (by omega)]
theorem qzq {H:Heap} {t:CTree} {q:Nat} {fp:List Nat} (h:HT H t q fp):∃ (a b:Int) (bv:AVal) (l1:List AVal) (o1:Option (Option Nat)) (l2:List AVal) (o2:Option (Option Nat)),H[q]? = some (.box [.int .i64 a,.int .i64 b,bv,.list l1 o1,.list l2 o2])∧leaf bv=true∧∀ {H':Heap} {p:Nat},H'[p]? = some (.box [.int .i64 a,.int .i64 b,bv,.list l1 o1,.list l2 o2])→(∀ x∈fp,H'[x]? = H[x]?)→∃ fp',HT H' t p fp':=by
 cases h with
 | mk op n binds kids alts _ bv fb ps ow fks avs oa fa hbox hb ha hl1 hl2 hk =>
 refine⟨_,_,_,_,_,_,_,hbox,hb.leaf,fun {H' p} hp he=>⟨p::(fb++(fa++fks.flatten)),?_⟩⟩
 refine .mk op n binds kids alts p bv fb ps ow fks avs oa fa hp (hb.frame fun x hx=>he x (by simp[hx])) (ha.frame fun x hx=>he x (by simp[hx])) hl1 hl2 fun i hi=>(hk i hi).frame fun x hx=>he x ?_
 exact List.mem_cons_of_mem _ (List.mem_append_right _ (List.mem_append_right _ (List.mem_flatten.2 ⟨_,List.getElem_mem _,hx⟩)))
def qBh (e:List CExpr) (id:Int):Option CTree:=(qiU e id).map fun r=>(qb3 (qaG e r) ([],qbK (qaG e (e.length-1))+1)).1
theorem qnw {e:List CExpr} (hA:qdr e) (hsh:∀ x∈e,x.op=4∨x.op=5→x.binds.length≤x.kids.length) {id:Int} {r:Nat} (h:qiU e id=some r):r<e.length:=by
 have key2:∀ (x:CExpr) (k:Nat) (hk:k<e.length),e[k]=x→∀ (l:List Int) (i:Nat),i+l.length≤x.binds.length→qaE (qhk e x id) l i=some r→r<e.length:=by
  intro x k hk hx l
  induction l with
  | nil=>intro i _ h;simp[qaE] at h
  | cons y l ih =>
    intro i hi h
    rw[qaE] at h
    cases hq:qhk e x id i y with
    | none=>rw[hq] at h;exact ih (i+1) (by simp at hi;omega) h
    | some r' =>
      rw[hq] at h
      injection h with h
      subst h
      unfold qhk at hq
      split at hq
      ·rename_i hc
       injection hq with hq
       have h1:=hsh x (hx ▸ List.getElem_mem hk) hc.2.1
       have hik:i<x.kids.length:=by simp at hi;omega
       have h2:x.kids.getD i 0=x.kids[i]:=by rw[List.getD_eq_getElem?_getD,List.getElem?_eq_getElem hik];rfl
       rw[h2] at hq
       subst hx
       have:=hA k hk _ (List.getElem_mem hik)
       omega
      ·cases hq
 have key:∀ (l:List CExpr) (i:Nat),(∀ x∈l,x∈e)→qaE (fun _ x=>qhF e id x) l i=some r→r<e.length:=by
  intro l
  induction l with
  | nil=>intro i _ h;simp[qaE] at h
  | cons x l ih =>
    intro i hm h
    rw[qaE] at h
    cases hq:qhF e id x with
    | none=>rw[hq] at h;exact ih (i+1) (fun y hy=>hm y (by simp[hy])) h
    | some r' =>
      rw[hq] at h
      injection h with h
      subst h
      obtain⟨k,hk,hx⟩:=List.getElem_of_mem (hm x (by simp))
      exact key2 x k hk hx x.binds 0 (by omega) hq
 exact key e 0 (fun x h=>h) h
section
variable {L:Lib} (hR:RLib L)
include hR
theorem qlE (h304:L.fns 304=some fn304) (w p:Nat) (at':Int) (cs:List AVal) (H H':Heap) (r:AVal) (hbx:H[p]? = some (.box (.int .i64 0::cs)))
  (hc:call L 304 [qar w,qar p] (H++[.box [.int .i64 12,.int .i64 at',.int .i64 0]])=some (.val r,H')) :
  call L 294 [qar w,.agg [.int .i64 12,.int .i64 at',.int .i64 0],qar p] H=some (.val r,H'):=by
 have hL:=hR.plain
 refine qaL (hL.summ 294 (by rw[hR.f294];simp)) hR.f294 ?_
 have hb2:(H++[AObj.box [.int .i64 12,.int .i64 at',.int .i64 0]])[p]? = some (.box (.int .i64 0::cs)):=by rw[hga (hlt hbx)];exact hbx
 have hs2:(H++[AObj.box [.int .i64 12,.int .i64 at',.int .i64 0]])[H.length]? = some (.box [.int .i64 12,.int .i64 at',.int .i64 0]):=hgl rfl
 unfold qar at *
 unfold fn294
 simp -implicitDefEqProofs only[ev_,aOp,opd,qaa,qaB,qaA,qab,qaf,qag,qai,qan,qac,qae,qaj,qaz,↓reduceIte,reduceCtorEq,Nat.reduceEqDiff,Int.reduceBEq,hb2,hs2,hc,bne]
end
theorem qn6 {e:List CExpr} (hlab:∀ x∈e,qbL false (qhb e x)=0):∀ x∈e,x.op=4∨x.op=5→x.binds.length≤x.kids.length:=by
 intro x hx ho
 obtain⟨h1,_⟩:=qdb (hlab x hx)
 unfold qhb at h1
 dsimp only at h1
 rw[List.length_map] at h1
 rcases ho with ho | ho
 ·have:=qcE h1 ho;omega
 ·have:=qdT h1 ho;omega
section
variable {L:Lib} (hR:RLib L)
include hR
theorem qst (h304:L.fns 304=some fn304) (h320:L.fns 320=some fn320) (h256:L.fns 256=some fn256) (h171:L.fns 171=some fn171) (h207:L.fns 207=some fn207) (h208:L.fns 208=some fn208)
  (e:List CExpr) (hl:e.length<2 ^ 30) (hf:∀ x∈e,NodeFit x) (hz:qaD e=0) (i:Nat) (hil:i<e.length) (ho:e[i].op=0) (h:Heap) :
  pcall L 283 [.list (e.map qam) none,.agg [.int .i64 12,.int .i64 (i:Int),.int .i64 0]] h=some (.val (.tuple [.list ((qc0 e i (qBh e e[i].n)).1.map qam) none,.int .i64 (qc0 e i (qBh e e[i].n)).2]),h):=by
 have hL:=hR.plain
 have hp:=hL.pure
 have hdE:=qaI e
 have hck:=qcW hR.toCLib e hl hf
 refine qaX hL hR.f283 (by simp only[qaH,qax,qaI,Bool.and_self]) ?_ h
 rw[hz] at hck
 have hr1:¬ ((12:Int)<1):=by decide
 have ha1:¬ ((i:Int)<0):=by omega
 have ha2:¬ ((e.length:Int)≤(i:Int)):=by omega
 obtain⟨hT,hn4,hdeep,hlab,_⟩:=qa8 hz
 have hpos:=hT.pos
 obtain⟨H,ps,ow,c1,hO,hke⟩:=qnT hL hR.f293 e hl hpos hf hT.ahead [.box [.int .i64 12,.int .i64 (i:Int),.int .i64 0]]
 rw[List.length_singleton] at c1 hO hke
 have hH0:H[0]? = some (.box [.int .i64 12,.int .i64 (i:Int),.int .i64 0]):=by rw[hke 0 (by omega)];rfl
 have hps:=hO.len
 have hgi:ps.getD i 0=ps[i]'(by omega):=by rw[List.getD_eq_getElem?_getD,List.getElem?_eq_getElem (by omega)];rfl
 have hgn:(ps.map qar)[i]? = some (.ptr (some (ps.getD i 0,0))):=by rw[List.getElem?_map,List.getElem?_eq_getElem (by omega),hgi];rfl
 obtain⟨ob,ok,avs,oa,n1,n2⟩:=hO.node i hil (by omega)
 rw[← hgi] at n1
 have hp0:=hO.low (ps.getD i 0) (by rw[hgi];exact List.getElem_mem _)
 have hw0:H[1]? = some (.box [.list (ps.map qar) ow,qar (ps.getD (e.length-1) 0)]):=hO.work
 have hnb:H[ps.getD i 0]? = some (.box (.int .i64 0::.int .i64 e[i].n::[.list (e[i].binds.map qav) ob,.list ((e[i].kids.map fun k:Int=>ps.getD k.toNat 0).map qar) ok,.list avs oa])):=by
  rw[n1];unfold nb;rw[ho]
 generalize hsb:AObj.box [AVal.int .i64 12,.int .i64 (i:Int),.int .i64 0]=sb at *
 have hA:∀ q,q<H.length→(H++[sb])[q]? = H[q]? := fun q hq=>hga hq
 have hw1:(H++[sb])[1]? = some (.box [.list (ps.map qar) ow,qar (ps.getD (e.length-1) 0)]):=by rw[hA 1 (hlt hw0)];exact hw0
 have hu:=qwl hR h304 h320 h256 h171 h207 h208 e hz hf (H++[sb]) ps hps ow 1 hw1
  (fun k hk=>by
   obtain⟨a,b,c,d,m1,m2⟩:=hO.node k hk (by omega)
   exact⟨a,b,c,d,by rw[hA _ (hlt m1)];exact m1,m2⟩)
  (fun k hk=>((hO.ws hT.ahead k hk).frame' hA).mono fun q hq=>by have:=At.lt hO hq;simp;omega)
  (ps.getD i 0) e[i].n _ _ (by rw[hA _ hp0.2];exact hnb)
 generalize hpi:ps.getD i 0=p at *
 unfold qBh
 cases hd:qiU e e[i].n with
 | none =>
   rw[hd] at hu
   dsimp only at hu
   rw[← hsb] at hu
   have c2:=qlE hR h304 1 p (i:Int) _ H _ _ hnb hu
   rw[Option.map_none]
   unfold qc0
   dsimp only
   unfold qar at *
   subst hsb
   unfold fn283
   simp -implicitDefEqProofs only[ev_,aOp,opd,qaa,qaB,qbd,qaA,aEq,qad,qab,qaf,qag,qaS,qai,qan,qac,qae,qaj,qaz,↓reduceIte,reduceCtorEq,Nat.reduceEqDiff,Nat.reduceAdd,Int.reduceLT,ge_iff_le,gt_iff_lt,qaw,qak,Option.isNone_none,hck,hr1,ha1,ha2,hdE,c1,hH0,hw0,hgn,c2,qal L hp,hp,List.map_nil,bne]
 | some r =>
   rw[hd] at hu
   dsimp only at hu
   have hrl:=qnw hT.ahead (qn6 hlab) hd
   obtain⟨H2,q,fp,c2',t2,lo2,le2,k2⟩:=hu hrl
   rw[← hsb] at c2'
   have c2:=qlE hR h304 1 p (i:Int) _ H _ _ hnb c2'
   rw[Option.map_some]
   generalize ht':(qb3 (qaG e r) ([],qbK (qaG e (e.length-1))+1)).1=t' at *
   have k3:∀ x,x<H.length→H2[x]? = H[x]? := fun x hx=>by rw[k2 x (by simp;omega),hA x hx]
   obtain⟨d0,d1,d2,l1,o1,l2,o2,hbq,hlf,hcp⟩:=qzq t2
   have hp2:H2[p]? = some (.box (.int .i64 0::.int .i64 e[i].n::[.list (e[i].binds.map qav) ob,.list ((e[i].kids.map fun k:Int=>ps.getD k.toNat 0).map qar) ok,.list avs oa])):=by rw[k3 p hp0.2];exact hnb
   have hlp2:=hlt hp2
   have hpf:∀ x∈fp,(H2.set p (.box [.int .i64 d0,.int .i64 d1,d2,.list l1 o1,.list l2 o2]))[x]? = H2[x]? := fun x hx=>Go.Abs.hgn (fun e=>by have:=lo2 x hx;simp at this;omega)
   obtain⟨fp',t3⟩:=hcp (H':=H2.set p (.box [.int .i64 d0,.int .i64 d1,d2,.list l1 o1,.list l2 o2])) (p:=p) (hgs hlp2) hpf
   have hglob:=quL hT hO hil (t':=t') (H2:=H2.set p (.box [.int .i64 d0,.int .i64 d1,d2,.list l1 o1,.list l2 o2])) (by rw[hpi];exact t3.view) (fun k hk hb=>by
    have hkp:ps.getD k 0≠p:=fun he=>by
     have:=qjH hO.nodup (a:=k) (b:=i) (by omega) (by omega) (by rw[he,hpi])
     subst this
     exact hb (.refl _)
    have hkl:=hO.low (ps.getD k 0) (by rw[List.getD_eq_getElem?_getD,List.getElem?_eq_getElem (by omega)];exact List.getElem_mem _)
    rw[Go.Abs.hgn (fun e=>hkp e.symm),k3 _ hkl.2]) (e.length-1) (by omega) (by
     by_cases hie:e.length-1=i
     ·exact .inl hie
     ·exact .inr fun hb=>by have:=qky hT.ahead hb;omega)
   have hgr:=qeR hz hf r hrl
   have f1:TFit t':=by rw[← ht'];exact qkh _ hgr.fit _
   have f2:qaJ t'≤20000:=by rw[← ht',qgy];have:=hgr.size;omega
   have f3:hgt t'≤hgt (qaG e i)+420:=by rw[← ht',qiE];have:=hgr.deep;omega
   obtain⟨b1,b2,b3⟩:=qn2 hT.ahead i hil t' f1 420 f3 (fun k hk=>qgE hz hf k hk) (e.length-1) (by omega)
   have hroot:=(qdO hz hf).2
   rw[qdJ] at hroot hdeep
   have hsz:qaJ (qbF e i t' (e.length-1))<2 ^ 30:=by
    rw[hroot] at b2
    have:e.length*qaJ t'≤4096*20000:=Nat.mul_le_mul hn4 f2
    omega
   have hw3':(H2.set p (.box [.int .i64 d0,.int .i64 d1,d2,.list l1 o1,.list l2 o2]))[1]? = some (.box [.list (ps.map qar) ow,qar (ps.getD (e.length-1) 0)]):=by
    rw[Go.Abs.hgn (by omega),k3 1 (hlt hw0)]
    exact hw0
   generalize hTT:qbF e i t' (e.length-1)=T at *
   have hvw:=qnf hw3' rfl hglob (by omega)
   have hls:=hR.list T b1 hsz
   have hck2:=qcW hR.toCLib (qau T) (by unfold qau;rw[qcv];exact hsz) (qec T 0 b1)
   have hdL:=qaI (qau T)
   obtain⟨tc,htc,hdt⟩:=qbC T
   rw[htc] at hvw hls
   unfold qc0
   dsimp only
   rw[hTT]
   clear hcp t3 t2 hglob hpf
   have hlf2:=hlf
   unfold leaf at hlf2
   unfold qar at *
   subst hsb
   by_cases hz2:qaD (qau T)=0
   ·rw[if_pos hz2]
    rw[hz2] at hck2
    generalize qaV _ 1999 _=X at hvw
    unfold fn283
    simp -implicitDefEqProofs only[ev_,aOp,opd,qaa,qay,qaB,qbd,qaA,aEq,qad,qab,qaf,qag,qaT,qaS,qai,leaf,qat,qan,qac,qae,qaj,qaz,↓reduceIte,reduceCtorEq,Nat.reduceEqDiff,Nat.reduceAdd,Int.reduceLT,ge_iff_le,gt_iff_lt,qaw,qak,hck,hr1,ha1,ha2,hdE,c1,hH0,hw0,hgn,c2,hbq,hp2,hlf2,qf2,hvw,hls,hdt,hdL,hck2,qcV,qal L hp,hp,List.map_nil,bne]
   ·have hne2:(qaD (qau T)==0)=false:=by simpa using hz2
    rw[if_neg hz2]
    generalize qaV _ 1999 _=X at hvw
    generalize qaD (qau T)=rr at *
    unfold fn283
    simp -implicitDefEqProofs only[ev_,aOp,opd,qaa,qay,qaB,qbd,qaA,aEq,qad,qab,qaf,qag,qaT,qaS,qai,leaf,qat,qan,qac,qae,qaj,qaz,↓reduceIte,reduceCtorEq,Nat.reduceEqDiff,Nat.reduceAdd,Int.reduceLT,ge_iff_le,gt_iff_lt,qaw,qak,hck,hr1,ha1,ha2,hdE,c1,hH0,hw0,hgn,c2,hbq,hp2,hlf2,qf2,hvw,hls,hdt,hdL,hck2,hne2,qcV,qal L hp,hp,List.map_nil,bne]
end
end Go.Abs
