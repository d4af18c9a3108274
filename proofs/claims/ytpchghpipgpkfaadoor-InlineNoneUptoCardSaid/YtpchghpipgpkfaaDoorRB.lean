/-
  PARTS OF A PROOF, joined: an abstract machine for quiet code, its evaluation, and what the seat's functions answer on it. Conditions: none.
-/
import Derived.Test.YtpchghpipgpkfaaDoorRP
import Derived.Test.YtpchghpipgpkfaaDoorRAE
import Derived.Test.YtpchghpipgpkfaaDoorD
import Derived.Test.YtpchghpipgpkfaaDoorUG
set_option linter.unusedVariables false
set_option linter.unusedSimpArgs false
set_option maxRecDepth 100000
set_option maxHeartbeats 8000000
namespace Go.Abs
mutual
def qc1:CTree→Int
 | .mk op n binds kids alts=>qdy kids (qfM (-1) (qaN op binds alts))
def qdy:List CTree→Int→Int
 | [],m=>m
 | k::ks,m=>qdy ks (if qc1 k > m then qc1 k else m)
end
theorem qkk:∀ (ks:List CTree) (m:Int),qdy ks m=ks.foldl (fun m k=>if qc1 k > m then qc1 k else m) m
 | [],m=>by rw[qdy];rfl
 | k::ks,m=>by rw[qdy,qkk ks];rfl
section
variable {L:Lib}
theorem qr9 (V:AVal) (hV:qaB V=true) (l:List Int) (hl:l.length<2 ^ 30) (n0:Int) :
  qa2 L.pure (call L) 0 [0,3,9,10,11] [0,3] 0 qhs ⟨kt [0,3,9,10,11] [V,.int .i64 n0,.list (l.map qat) none,.int .i64 l.length,.int .i64 0],[]⟩=some (.normal,⟨kt [0,3] [V,.int .i64 (qfM n0 l)],[]⟩):=by
 have key:=qdL (pure:=L.pure) (call:=call L) (b:=0) (keep:=[0,3,9,10,11]) (fk:=[0,3]) (id:=0) (body:=qhs) l (fun n x=>if x > n then x else n)
  (fun n j=>⟨kt [0,3,9,10,11] [V,.int .i64 n,.list (l.map qat) none,.int .i64 l.length,.int .i64 j],[]⟩)
  (fun n=>⟨kt [0,3] [V,.int .i64 n],[]⟩)
  (fun n j=>qfM n (l.drop j)=qfM n0 l) n0 rfl ?_ ?_
 ·obtain⟨h1,h2⟩:=key
  rw[List.drop_length] at h1
  rw[show l.foldl (fun n x=>if x > n then x else n) n0=qfM n0 l from rfl] at h2
  exact h2
 ·intro j hj n hn
  obtain⟨h1,h2,h3⟩:=qaM qat l hl j hj
  have hd:l.drop j=l[j]::l.drop (j+1):=List.drop_eq_getElem_cons hj
  refine⟨?_,by rw[← hn,hd];rfl⟩
  clear hd hn
  have hdI:=qah l
  generalize l[j]=y at *
  unfold qhs
  simp -implicitDefEqProofs only[ev_,aOp,opd,qaa,qaA,qaz,qad,qab,qag,qax,ren,renC,qa0,qbb,↓reduceIte,reduceCtorEq,Nat.reduceEqDiff,gt_iff_lt,qaT,h1,h2,h3,hV,hdI,qec]
 ·intro n hn
  have h0:=qaQ l.length
  have hdI:=qah l
  unfold qhs
  simp -implicitDefEqProofs only[ev_,aOp,opd,qaa,qaA,qaz,qab,gcE,qax,ren,renC,qa0,qbb,↓reduceIte,reduceCtorEq,Nat.reduceEqDiff,h0,hV,hdI]
theorem qsa (hL:Plain L) (ks:List CTree) (hl:ks.length<2 ^ 30) (n0:Int) (hk:∀ k∈ks,∀ h:Heap,pcall L 256 [qao k] h=some (.val (.int .i64 (qc1 k)),h)) :
  qa2 L.pure (call L) 0 [3,22,23,24] [3] 2 qht ⟨kt [3,22,23,24] [.int .i64 n0,.list (ks.map qao) none,.int .i64 ks.length,.int .i64 0],[]⟩=some (.normal,⟨kt [3] [.int .i64 (qdy ks n0)],[]⟩):=by
 have hp:=hL.pure
 have key:=qdL (pure:=L.pure) (call:=call L) (b:=0) (keep:=[3,22,23,24]) (fk:=[3]) (id:=2) (body:=qht) ks (fun m k=>if qc1 k > m then qc1 k else m)
  (fun n j=>⟨kt [3,22,23,24] [.int .i64 n,.list (ks.map qao) none,.int .i64 ks.length,.int .i64 j],[]⟩)
  (fun n=>⟨kt [3] [.int .i64 n],[]⟩)
  (fun n j=>qdy (ks.drop j) n=qdy ks n0) n0 rfl ?_ ?_
 ·obtain⟨h1,h2⟩:=key
  rw[← qkk] at h2
  exact h2
 ·intro j hj n hn
  obtain⟨h1,h2,h3⟩:=qaM qao ks hl j hj
  have hd:ks.drop j=ks[j]::ks.drop (j+1):=List.drop_eq_getElem_cons hj
  refine⟨?_,by rw[← hn,hd,qdy]⟩
  clear hd hn
  have hdT:=qbd ks
  have hk1:=hk _ (List.getElem_mem hj)
  have hdk:=qbO ks[j]
  generalize ks[j]=y at *
  generalize qc1 y=w at *
  unfold qht
  simp -implicitDefEqProofs only[ev_,aOp,opd,qaa,qaA,qaz,qad,qab,qag,qax,ren,renC,qa0,qbb,↓reduceIte,Nat.reduceEqDiff,gt_iff_lt,qav,qc4,qpl,h1,h2,h3,hdk,hk1,hdT,qec,qam L hp,hp]
 ·intro n hn
  have h0:=qaQ ks.length
  have hdT:=qbd ks
  unfold qht
  simp -implicitDefEqProofs only[ev_,aOp,opd,qaa,qaA,qaz,qab,gcE,qax,ren,renC,qa0,qbb,↓reduceIte,Nat.reduceEqDiff,h0,hdT]
theorem qsb (hL:Plain L) (h232:L.fns 232=some fn232) (h256:L.fns 256=some fn256) (t:CTree) (hf:TFit t):∀ h:Heap,pcall L 256 [qao t] h=some (.val (.int .i64 (qc1 t)),h):=by
 have hp:=hL.pure
 induction t using CTree.ind with
 | h op n binds kids alts ih =>
   intro h
   cases hf with
   | mk _ _ _ _ _ hb hk ha hfk =>
   have ih':=fun k hk=>ih k hk (hfk k hk)
   have hdK:=qbd kids
   have hbn:=fun h=>qem hL h232 op n binds (.list (kids.map qao) none) (by rw[qaS];exact hdK) alts ha (Nat.le_of_lt hb) h
   have hbl:(qaN op binds alts).length<2 ^ 30:=by
    rw[List.length_append] at hb
    unfold qaN
    split<;>rw[List.length_append]<;>(try rw[List.length_nil])<;>omega
   have c0:=qr9 (L:=L) (.vptr [.int .i64 op,.int .i64 n,.list (binds.map qat) none,.list (kids.map qao) none,.list (alts.map qas) none] 0) (by rw[← qa5];exact qbO _) (qaN op binds alts) hbl (-1)
   have c1:=qsa hL kids hk (qfM (-1) (qaN op binds alts)) ih'
   have hdV:qaB (.vptr [.int .i64 op,.int .i64 n,.list (binds.map qat) none,.list (kids.map qao) none,.list (alts.map qas) none] 0)=true:=by rw[← qa5];exact qbO _
   refine qaV hL h256 rfl ?_ h
   rw[qa5,qc1]
   generalize qdy kids (qfM (-1) (qaN op binds alts))=mm at *
   have hdB:=qah (qaN op binds alts)
   generalize qfM (-1) (qaN op binds alts)=m0 at *
   unfold fn256
   simp -implicitDefEqProofs only[ev_,aOp,opd,qaa,qa7,qag,qai,qap,qac,qaf,qaj,qax,ren,renC,qa0,qbb,↓reduceIte,reduceCtorEq,Nat.reduceEqDiff,Int.reduceNeg,qak,hbn,c0,c1,hdV,hdB,hdK,List.length_map,qam L hp,hp]
end
def opN (e:List CExpr) (k:Nat):Int:=(e[k]?.map (·.op)).getD 0
def qjP (e:List CExpr) (x:CExpr) (id:Int) (i:Nat) (n:Int):Option Nat :=
 if n=id∧(x.op=4∨x.op=5)∧opN e (x.kids.getD i 0).toNat=2 then some (x.kids.getD i 0).toNat else none
def qjQ (e:List CExpr) (id:Int) (x:CExpr):Option Nat:=qaF (qjP e x id) x.binds 0
def qmx (e:List CExpr) (id:Int):Option Nat:=qaF (fun _ x=>qjQ e id x) e 0
section
variable {L:Lib}
theorem qwx {b:Nat} (e:List CExpr) (x:CExpr) (hx:NodeFit x) (ps:List Nat) (hps:ps.length=e.length) (hkid:∀ k∈x.kids,0≤k∧k.toNat<e.length) (hsh:x.op=4∨x.op=5→x.binds.length≤x.kids.length) (id:Int) (H:Heap) (p:Nat) (ow:Option (Option Nat)) (np:Int) (k:Nat)
  (hp:qld x ps H p) (hn:∀ (k:Nat) (hk:k<e.length),qld e[k] ps H (ps[k]'(by omega))) (ob:Option (Option Nat)) :
  qa2 L.pure (call L) b [1000000,1,6,12,13,14,21,22,23] [1000000,1,4,12,13,14] 2 qdh
   ⟨kt [1,6,12,13,14,21,22,23] [.int .i64 id,qau p,.list (ps.map qau) ow,.int .i64 np,.int .i64 k,.list (x.binds.map qat) ob,.int .i64 x.binds.length,.int .i64 0],H⟩ =
   some (qbf (fun r=>⟨kt [1,4,12,13,14] [.int .i64 id,qau (ps.getD r 0),.list (ps.map qau) ow,.int .i64 np,.int .i64 k],H⟩) ⟨kt [1,4,12,13,14] [.int .i64 id,.junk,.list (ps.map qau) ow,.int .i64 np,.int .i64 k],H⟩ (qjQ e id x)):=by
 obtain⟨ob',ok,avs,oa,n1,n2⟩:=hp
 refine qbN (pure:=L.pure) (call:=call L) (b:=b) (keep:=[1000000,1,6,12,13,14,21,22,23]) (fk:=[1000000,1,4,12,13,14]) (id:=2) (body:=qdh) x.binds (qjP e x id)
  (fun i=>⟨kt [1,6,12,13,14,21,22,23] [.int .i64 id,qau p,.list (ps.map qau) ow,.int .i64 np,.int .i64 k,.list (x.binds.map qat) ob,.int .i64 x.binds.length,.int .i64 i],H⟩) _ _ ?_ ?_ ?_
 ·intro i hi hg
  obtain⟨h1,h2,h3⟩:=qaM qat x.binds hx.binds i hi
  unfold qjP at hg
  unfold nb at n1
  unfold qau at *
  by_cases hid:x.binds[i]=id
  case neg =>
   have hid':(x.binds[i]==id)=false:=by simpa using hid
   clear hg
   generalize x.binds[i]=y at *
   unfold qdh
   simp -implicitDefEqProofs only[ev_,aOp,opd,qaa,qaA,qaz,qad,qab,qae,qag,↓reduceIte,Nat.reduceEqDiff,qaT,h1,h2,h3,n1,hid']
  have hid':(x.binds[i]==id)=true:=by simpa using hid
  by_cases ho:x.op=4∨x.op=5
  case neg =>
   have o4:(x.op==4)=false:=by simpa using fun h=>ho (.inl h)
   have o5:(x.op==5)=false:=by simpa using fun h=>ho (.inr h)
   clear hg
   generalize x.binds[i]=y at *
   unfold qdh
   simp -implicitDefEqProofs only[ev_,aOp,opd,qaa,qaA,qaz,qad,qab,qae,qag,qai,↓reduceIte,Nat.reduceEqDiff,qaT,h1,h2,h3,n1,hid',o4,o5]
  have hik:i<x.kids.length:=by have:=hsh ho;omega
  have hkm:=hkid _ (List.getElem_mem hik)
  have hge:x.kids.getD i 0=x.kids[i]:=by rw[List.getD_eq_getElem?_getD,List.getElem?_eq_getElem hik];rfl
  rw[hge] at hg
  obtain⟨ob2,ok2,avs2,oa2,m1,m2⟩:=hn _ hkm.2
  have hlk:((x.kids.map fun k=>ps.getD k.toNat 0).map fun p=>AVal.ptr (some (p,0)))[i]? = some (.ptr (some (ps[x.kids[i].toNat]'(by omega),0))):=by
   rw[List.getElem?_map,List.getElem?_map,List.getElem?_eq_getElem hik,Option.map_some,Option.map_some,List.getD_eq_getElem?_getD,List.getElem?_eq_getElem (by omega)]
   rfl
  have hop:(e[x.kids[i].toNat].op==2)=false:=by
   have:opN e x.kids[i].toNat=e[x.kids[i].toNat].op:=by unfold opN;rw[List.getElem?_eq_getElem hkm.2];rfl
   rw[this] at hg
   by_cases h2:e[x.kids[i].toNat].op=2
   ·rw[if_pos ⟨hid,ho,h2⟩] at hg;cases hg
   ·simpa using h2
  clear hg
  generalize x.binds[i]=y at *
  unfold nb at m1
  generalize ps[x.kids[i].toNat]'(by omega)=kp at *
  generalize e[x.kids[i].toNat]=kx at *
  have hi0:(0:Int)≤(i:Int):=by omega
  rcases ho with ho | ho
  ·have o4:(x.op==4)=true:=by simpa using ho
   unfold qdh
   simp -implicitDefEqProofs only[ev_,aOp,opd,qaa,qaA,qaz,qad,qab,qae,qag,qai,↓reduceIte,Nat.reduceEqDiff,qaT,h1,h2,h3,n1,hid',o4,hlk,m1,hop]
  ·have o4:(x.op==4)=false:=by rw[ho];rfl
   have o5:(x.op==5)=true:=by simpa using ho
   unfold qdh
   simp -implicitDefEqProofs only[ev_,aOp,opd,qaa,qaA,qaz,qad,qab,qae,qag,qai,↓reduceIte,Nat.reduceEqDiff,qaT,h1,h2,h3,n1,hid',o4,o5,hlk,m1,hop]
 ·intro i hi r hg
  obtain⟨h1,h2,h3⟩:=qaM qat x.binds hx.binds i hi
  unfold qjP at hg
  unfold nb at n1
  unfold qau at *
  split at hg
  case isFalse=>cases hg
  rename_i hq
  obtain⟨hid,ho,hop⟩:=hq
  injection hg with hg
  subst hg
  have hid':(x.binds[i]==id)=true:=by simpa using hid
  have hik:i<x.kids.length:=by have:=hsh ho;omega
  have hkm:=hkid _ (List.getElem_mem hik)
  have hge:x.kids.getD i 0=x.kids[i]:=by rw[List.getD_eq_getElem?_getD,List.getElem?_eq_getElem hik];rfl
  rw[hge] at hop
  rw[hge]
  obtain⟨ob2,ok2,avs2,oa2,m1,m2⟩:=hn _ hkm.2
  have hgp:ps.getD x.kids[i].toNat 0=ps[x.kids[i].toNat]'(by omega):=by rw[List.getD_eq_getElem?_getD,List.getElem?_eq_getElem (by omega)];rfl
  have hlk:((x.kids.map fun k=>ps.getD k.toNat 0).map fun p=>AVal.ptr (some (p,0)))[i]? = some (.ptr (some (ps[x.kids[i].toNat]'(by omega),0))):=by
   rw[List.getElem?_map,List.getElem?_map,List.getElem?_eq_getElem hik,Option.map_some,Option.map_some,hgp]
  have hop':(e[x.kids[i].toNat].op==2)=true:=by
   have:opN e x.kids[i].toNat=e[x.kids[i].toNat].op:=by unfold opN;rw[List.getElem?_eq_getElem hkm.2];rfl
   rw[this] at hop
   simpa using hop
  rw[hgp]
  generalize x.binds[i]=y at *
  unfold nb at m1
  clear hgp hop
  generalize ps[x.kids[i].toNat]'(by omega)=kp at *
  generalize e[x.kids[i].toNat]=kx at *
  rcases ho with ho | ho
  ·have o4:(x.op==4)=true:=by simpa using ho
   unfold qdh
   simp -implicitDefEqProofs only[ev_,aOp,opd,qaa,qaA,qaz,qad,qab,qae,qag,qai,gcE,↓reduceIte,Nat.reduceEqDiff,qaT,h1,h2,h3,n1,hid',o4,hlk,m1,hop']
  ·have o4:(x.op==4)=false:=by rw[ho];rfl
   have o5:(x.op==5)=true:=by simpa using ho
   unfold qdh
   simp -implicitDefEqProofs only[ev_,aOp,opd,qaa,qaA,qaz,qad,qab,qae,qag,qai,gcE,↓reduceIte,Nat.reduceEqDiff,qaT,h1,h2,h3,n1,hid',o4,o5,hlk,m1,hop']
 ·have h0:=qaQ x.binds.length
  unfold qdh
  simp -implicitDefEqProofs only[ev_,aOp,opd,qaa,qaA,qaz,qab,gcE,↓reduceIte,Nat.reduceEqDiff,h0]
theorem qzo {b:Nat} (e:List CExpr) (hl:e.length<2 ^ 30) (hf:∀ x∈e,NodeFit x) (ps:List Nat) (hps:ps.length=e.length) (hA:qdz e) (hsh:∀ x∈e,x.op=4∨x.op=5→x.binds.length≤x.kids.length) (id:Int) (H:Heap) (ow:Option (Option Nat))
  (hn:∀ (k:Nat) (hk:k<e.length),qld e[k] ps H (ps[k]'(by omega))) :
  qa2 L.pure (call L) b [1000000,1,12,13,14] [1000000,4] 0 qgn ⟨kt [1,12,13,14] [.int .i64 id,.list (ps.map qau) ow,.int .i64 e.length,.int .i64 ((0:Nat):Int)],H⟩ =
   some (qbf (fun r=>⟨kt [4] [qau (ps.getD r 0)],H⟩) ⟨kt [4] [.junk],H⟩ (qmx e id)):=by
 refine qbN (pure:=L.pure) (call:=call L) (b:=b) (keep:=[1000000,1,12,13,14]) (fk:=[1000000,4]) (id:=0) (body:=qgn) e (fun _ x=>qjQ e id x)
  (fun i=>⟨kt [1,12,13,14] [.int .i64 id,.list (ps.map qau) ow,.int .i64 e.length,.int .i64 i],H⟩) _ _ ?_ ?_ ?_
 ·intro i hi hg
  obtain⟨h1,h2,h3⟩:=qaM qau ps (by omega) i (by omega)
  have hx:=hf _ (List.getElem_mem hi)
  have hkid:∀ k∈e[i].kids,0≤k∧k.toNat<e.length:=fun k hk=>by have:=hA i hi k hk;omega
  obtain⟨ob,ok,avs,oa,n1,n2⟩:=hn i hi
  have c0:=qwx (L:=L) (b:=H.length) e e[i] hx ps hps hkid (hsh _ (List.getElem_mem hi)) id H ps[i] ow e.length i (hn i hi) hn ob
  rw[hg] at c0
  rw[hps] at h1
  generalize ps[i]'(by omega)=p at *
  generalize e[i]=x at *
  unfold nb at n1
  unfold qau at *
  unfold qbf at c0
  dsimp only at c0
  unfold qgn
  simp -implicitDefEqProofs only[ev_,aOp,opd,qaa,qaA,qa7,qaz,qad,qab,qag,qai,↓reduceIte,Nat.reduceEqDiff,h1,h2,h3,n1,c0,List.length_map]
 ·intro i hi r hg
  obtain⟨h1,h2,h3⟩:=qaM qau ps (by omega) i (by omega)
  have hx:=hf _ (List.getElem_mem hi)
  have hkid:∀ k∈e[i].kids,0≤k∧k.toNat<e.length:=fun k hk=>by have:=hA i hi k hk;omega
  obtain⟨ob,ok,avs,oa,n1,n2⟩:=hn i hi
  have c0:=qwx (L:=L) (b:=H.length) e e[i] hx ps hps hkid (hsh _ (List.getElem_mem hi)) id H ps[i] ow e.length i (hn i hi) hn ob
  rw[hg] at c0
  rw[hps] at h1
  generalize ps[i]'(by omega)=p at *
  generalize e[i]=x at *
  unfold nb at n1
  unfold qau at *
  unfold qbf at c0
  dsimp only at c0
  unfold qgn
  simp -implicitDefEqProofs only[ev_,aOp,opd,qaa,qaA,qa7,qaz,qad,qab,qag,qai,gcE,↓reduceIte,Nat.reduceEqDiff,h1,h2,h3,n1,c0,List.length_map]
 ·have h0:=qaQ e.length
  unfold qgn
  simp -implicitDefEqProofs only[ev_,aOp,opd,qaa,qaA,qaz,qab,gcE,↓reduceIte,Nat.reduceEqDiff,h0]
theorem qzp (hL:Plain L) (h320:L.fns 320=some fn320) (e:List CExpr) (hl:e.length<2 ^ 30) (hf:∀ x∈e,NodeFit x) (ps:List Nat) (hps:ps.length=e.length) (hA:qdz e) (hsh:∀ x∈e,x.op=4∨x.op=5→x.binds.length≤x.kids.length) (id:Int) (H:Heap) (ow:Option (Option Nat)) (w:Nat) (rt:AVal)
  (hw:H[w]? = some (.box [.list (ps.map qau) ow,rt])) (hn:∀ (k:Nat) (hk:k<e.length),qld e[k] ps H (ps[k]'(by omega))) :
  call L 320 [qau w,.int .i64 id] H=some (.val (match qmx e id with | none=>.ptr none | some r=>qau (ps.getD r 0)),H):=by
 have c0:=qzo (L:=L) (b:=H.length) e hl hf ps hps hA hsh id H ow hn
 refine qaK (hL.summ 320 (by rw[h320];simp)) h320 ?_
 have hlen:((ps.length:Nat):Int)=e.length:=by rw[hps]
 rw[Int.natCast_zero] at c0
 unfold qau at *
 cases hd:qmx e id with
 | none =>
   rw[hd] at c0
   unfold qbf at c0
   dsimp only at c0
   unfold fn320
   simp -implicitDefEqProofs only[ev_,aOp,opd,qaa,qa7,qag,qai,qap,qac,qaf,qaj,↓reduceIte,reduceCtorEq,Nat.reduceEqDiff,hw,hlen,c0]
 | some r =>
   rw[hd] at c0
   unfold qbf at c0
   dsimp only at c0
   unfold fn320
   simp -implicitDefEqProofs only[ev_,aOp,opd,qaa,qa7,qag,qai,qap,qac,qaf,qaj,↓reduceIte,reduceCtorEq,Nat.reduceEqDiff,hw,hlen,c0]
end
theorem qom:∀ (ks:List CTree) (m:Int),m≤qdy ks m
 | [],m=>by rw[qdy];exact Int.le_refl _
 | k :: ks,m => by
   rw[qdy]
   exact Int.le_trans (show m≤(if qc1 k > m then qc1 k else m) by split<;>omega) (qom ks _)
theorem qvW (t:CTree) : -1≤qc1 t:=by
 cases t with
 | mk op n binds kids alts =>
   rw[qc1]
   have:=qom kids (qfM (-1) (qaN op binds alts))
   have:=(qjd (qaN op binds alts) (-1)).1
   omega
theorem qvX (B:Int) (hB : -1≤B) (t:CTree) (h:∀ x∈(qbG t).flatMap qbF,x≤B):qc1 t≤B:=by
 induction t using CTree.ind with
 | h op n binds kids alts ih =>
   rw[qbG,List.flatMap_append] at h
   have h1:∀ x∈qaN op binds alts,x≤B:=fun x hx=>h x (List.mem_append_right _ (by simpa[qbF] using hx))
   have h2:∀ x∈(qbB kids).flatMap qbF,x≤B:=fun x hx=>h x (List.mem_append_left _ hx)
   rw[qc1]
   have key:∀ (ks:List CTree) (m:Int),(∀ k∈ks,k∈kids)→m≤B→(∀ x∈(qbB ks).flatMap qbF,x≤B)→qdy ks m≤B:=by
    intro ks
    induction ks with
    | nil=>intro m _ hm _;rw[qdy];exact hm
    | cons k ks ihk =>
      intro m hk hm hx
      rw[qbB,List.flatMap_append] at hx
      have:=ih k (hk k (by simp)) fun x h=>hx x (List.mem_append_left _ h)
      rw[qdy]
      exact ihk _ (fun q hq=>hk q (by simp[hq])) (by split<;>omega) fun x h=>hx x (List.mem_append_right _ h)
   exact key kids _ (fun k hk=>hk) (qmT _ _ _ hB h1) h2
theorem qvV {e:List CExpr} (hz:qaO e=0):qc1 (qaW e (e.length-1))≤1048576:=by
 have h1:=qyK hz
 refine Int.le_trans (qvX (qtQ e) (qvY e) _ fun x hx=>?_) h1
 obtain⟨hT,_⟩:=qbc hz
 refine (qjd (e.flatMap qbw) (-1)).2 x ?_
 rw[← qe1] at hx
 rw[qjx e]
 exact ((qc8 e hT).flatMap_right qbF).mem_iff.1 hx
section
variable {L:Lib}
theorem qsi (hL:Plain L) (h171:L.fns 171=some fn171) (h207:L.fns 207=some fn207) (h208:L.fns 208=some fn208) (t:CTree) (hf:TFit t) (H:Heap) (p:Nat) (fp:List Nat) (hT:HT H t p fp) (hnd:fp.Nodup) (a:Int) (ha:0≤a) (hb:(qfR t ([],a)).2.2<2 ^ 50) :
  ∃ H',call L 171 [qau p,.int .i64 a] H=some (.val (.int .i64 (qfR t ([],a)).2.2),H')∧HT H' (qfR t ([],a)).1 p fp∧H.length≤H'.length∧∀ q,q<H.length→q∉fp→H'[q]? = H[q]? := by
 have hlt':=hT.lt
 have hE:RE (H++[.box [.int .i64 a],.map [],.box [.map (some (H.length+1))],.box [.func 207 [] [qau (H.length+2),qau H.length,qau (H.length+3)]]]) (H.length+2) H.length (H.length+3) (H.length+1) ([],a) :=
  ⟨qAo rfl,hgl rfl,by simp,qqO rfl⟩
 obtain⟨H',c1,c2,c3,c4,c5⟩:=qzQ hL h207 h208 t hf _ p fp ([],a) _ _ _ _ (hT.frame fun q hq=>hga (hlt' q hq)) hnd hE (fun h=>by have:=hlt' _ h;omega) (fun h=>by have:=hlt' _ h;omega) (fun h=>by have:=hlt' _ h;omega) (fun h=>by have:=hlt' _ h;omega) ha hb
 refine⟨H',?_,c3,by rw[c4];simp,fun q hq hqf=>by rw[c5 q (by omega) (by omega) hqf,hga hq]⟩
 refine qaK (hL.summ 171 (by rw[h171];simp)) h171 ?_
 have g1:=c2.f
 unfold qau at *
 unfold fn171
 simp -implicitDefEqProofs only[ev_,aOp,opd,qaa,qar,qag,qaI,leaf,qaq,qap,qac,qaf,qaj,↓reduceIte,reduceCtorEq,Nat.reduceEqDiff,Nat.reduceAdd,c1,g1,hgl,qqO,qAo,qAG,hsl,qy9,qAH,qAI,hga]
theorem qrQ (hL:Plain L) (hP:CPrims L qa3) (hM:MPrims L) (h187:L.fns 187=some fm187) (h159:L.fns 159=some fm159) (h160:L.fns 160=some fm160) (h316:L.fns 316=some fn316) (t:CTree) (hf:TFit t) (hsz:qaR t<2 ^ 30) (hn:∀ x∈qa6 t,NodeFit x) (H:Heap) (p:Nat) (hv:WT H H.length t p) :
  ∃ H' q fp,call L 316 [qau p] H=some (.val (qau q),H')∧HT H' t q fp∧fp.Nodup∧(∀ x∈fp,H.length≤x)∧H.length≤H'.length∧∀ i,i<H.length→H'[i]? = H[i]? := by
 obtain⟨H1,own,c1,c2,c3⟩:=qmP hL hP h187 h159 t hf hsz H H.length (Nat.le_refl _) (qau p) (.inr ⟨p,rfl,hv⟩)
 obtain⟨H2,q,fp,g1,g2,g3,g4,g5,g6⟩:=qkj hL hM h160 own (qa6 t) (by unfold qa6;rw[qcV];exact hsz) hn (qkK t) H1
 rw[qcK] at g2
 refine⟨H2,q,fp,?_,g2,g3,fun x hx=>by have:=g4 x hx;omega,by omega,fun i hi=>by rw[g6 i (by omega),c3 i hi]⟩
 refine qaK (hL.summ 316 (by rw[h316];simp)) h316 ?_
 unfold qau at *
 unfold fn316
 simp -implicitDefEqProofs only[ev_,aOp,opd,qap,qac,qaf,qaj,↓reduceIte,reduceCtorEq,c1,g1]
variable (hR:RLib L)
include hR
theorem quI (h304:L.fns 304=some fn304) (h320:L.fns 320=some fn320) (h256:L.fns 256=some fn256) (h171:L.fns 171=some fn171) (h207:L.fns 207=some fn207) (h208:L.fns 208=some fn208)
  (e:List CExpr) (hz:qaO e=0) (hf:∀ x∈e,NodeFit x) (H:Heap) (ps:List Nat) (hps:ps.length=e.length) (ow:Option (Option Nat)) (w:Nat) (hw:H[w]? = some (.box [.list (ps.map qau) ow,qau (ps.getD (e.length-1) 0)]))
  (hn:∀ (k:Nat) (hk:k<e.length),qld e[k] ps H (ps[k]'(by omega))) (hws:∀ k,k<e.length→WS H (fun i=>i<H.length) (qaW e k) (ps.getD k 0)) (p:Nat) (id:Int) (o:AVal) (cs:List AVal) (hbx:H[p]? = some (.box (o::.int .i64 id::cs))) :
  match qmx e id with
  | none=>call L 304 [qau w,qau p] H=some (.val (.ptr none),H)
  | some r=>r<e.length→∃ H' q fp,call L 304 [qau w,qau p] H=some (.val (qau q),H')∧HT H' (qfR (qaW e r) ([],qc1 (qaW e (e.length-1))+1)).1 q fp∧(∀ x∈fp,H.length≤x)∧H.length≤H'.length∧∀ i,i<H.length→H'[i]? = H[i]? := by
 have hL:=hR.plain
 have hp:=hL.pure
 obtain⟨hT,hn4,hdeep,hlab,_⟩:=qbc hz
 have hpos:=hT.pos
 have hl:e.length<2 ^ 30:=by omega
 have hsh:∀ x∈e,x.op=4∨x.op=5→x.binds.length≤x.kids.length:=by
  intro x hx ho
  obtain⟨h1,_⟩:=qcl (hlab x hx)
  unfold qd0 at h1
  dsimp only at h1
  rw[List.length_map] at h1
  rcases ho with ho | ho
  ·have:=qdr h1 ho;omega
  ·have:=qeG h1 ho;omega
 have cd:=qzp hL h320 e hl hf ps hps hT.ahead hsh id H ow w _ hw hn
 have hs:=hL.summ 304 (by rw[h304];simp)
 cases hd:qmx e id with
 | none =>
   rw[hd] at cd
   dsimp only at cd ⊢
   refine qaK hs h304 ?_
   unfold qau at *
   unfold fn304
   simp -implicitDefEqProofs only[ev_,aOp,opd,qaa,qaA,aEq,qag,qai,qap,qac,qaf,qaj,↓reduceIte,reduceCtorEq,Nat.reduceEqDiff,Option.isNone_none,hbx,cd]
 | some r =>
   rw[hd] at cd
   dsimp only at cd ⊢
   intro hr
   have hg:=qgX hz hf r hr
   have hx:∀ x∈qa6 (qaW e r),NodeFit x:=qd8 (qaW e r) 0 hg.fit
   obtain⟨H1,q,fp,c1,t1,nd1,lo1,le1,k1⟩:=qrQ hL hR.prims hR.mprims hR.f187 hR.f159 hR.f160 hR.f316 (qaW e r) hg.fit (by have:=hg.size;omega) hx H (ps.getD r 0) (hws r hr).toT
   have hroot:=(hws (e.length-1) (by omega)).frame (H':=H1) fun i hi=>k1 i hi
   have hlk:=hroot.lookV (by have:=(qgX hz hf (e.length-1) (by omega)).deep;omega)
   have hm:=qvV hz
   have hm0:=qvW (qaW e (e.length-1))
   have hfr:=qgX hz hf (e.length-1) (by omega)
   have cm:=qsb hL hR.f232 h256 (qaW e (e.length-1)) hfr.fit
   have hdt:=qbO (qaW e (e.length-1))
   have hvc:qio (call L) 256 [qau (ps.getD (e.length-1) 0)] H1=some (.val (.int .i64 (qc1 (qaW e (e.length-1)))),H1) :=
    qfi (args':=[qao (qaW e (e.length-1))]) (by rw[List.map_cons,List.map_nil];exact congrArg (fun x=>[x]) hlk) (by rw[qaw,hdt];rfl) rfl (cm H1)
   have hcnt:=(qum (qaW e r) (qzl _ hg.lab) ([],qc1 (qaW e (e.length-1))+1)).1
   have hmx:=qpE (quD (qwR hz) (qwP hT r hr))
   obtain⟨H2,c2,t2,le2,k2⟩:=qsi hL h171 h207 h208 (qaW e r) hg.fit H1 q fp t1 nd1 (qc1 (qaW e (e.length-1))+1) (by omega) (by dsimp only at hcnt;rw[hcnt];omega)
   refine⟨H2,q,fp,?_,t2,lo1,by omega,fun i hi=>by rw[k2 i (by omega) fun h=>by have:=lo1 i h;omega,k1 i hi]⟩
   have hp1:H1[p]? = some (.box (o::.int .i64 id::cs)):=by rw[k1 p (hlt hbx)];exact hbx
   have hw1:H1[w]? = some (.box [.list (ps.map qau) ow,qau (ps.getD (e.length-1) 0)]):=by rw[k1 w (hlt hw)];exact hw
   have hwr:IntKind.i64.wrap (qc1 (qaW e (e.length-1))+1)=qc1 (qaW e (e.length-1))+1:=qb3 (by omega) (by omega)
   refine qaK hs h304 ?_
   clear hroot hcnt hlk cm
   generalize (qfR (qaW e r) ([],qc1 (qaW e (e.length-1))+1)).2.2=z at *
   generalize qc1 (qaW e (e.length-1))=mm at *
   unfold qau at *
   unfold fn304
   simp -implicitDefEqProofs only[ev_,aOp,opd,qaa,qaA,qaz,aEq,qab,qag,qai,qap,qac,qaf,qaj,↓reduceIte,reduceCtorEq,Nat.reduceEqDiff,hbx,hp1,hw1,cd,c1,hvc,hwr,c2,qam L hp,hp]
end
def VW (H:Heap) (t:CTree) (p:Nat):Prop:=∀ n,2*hgt t+2≤n→qaU H n (qau p)=qao t
theorem qy4 {H:Heap} (op n:Int) (binds:List Int) (kids:List CTree) (alts:List CAlt) (p:Nat) (ps:List Nat) (ob ok:Option (Option Nat)) (avs:List AVal) (oa:Option (Option Nat))
  (hbox:H[p]? = some (.box [.int .i64 op,.int .i64 n,.list (binds.map qat) ob,.list (ps.map qau) ok,.list avs oa])) (ha:RA alts avs) (hl:ps.length=kids.length)
  (hk:∀ (i:Nat) (hi:i<kids.length),VW H kids[i] (ps[i]'(by omega))):VW H (.mk op n binds kids alts) p:=by
 intro m hm
 rw[hgt] at hm
 obtain⟨q,rfl⟩:∃ q,m=q+1+1+1:=⟨m-3,by omega⟩
 unfold qau
 rw[qaU,if_neg (by simp[qaB])]
 unfold qcz
 dsimp only
 rw[hbox]
 dsimp only
 have hlf:([.int .i64 op,.int .i64 n,.list (binds.map qat) ob,.list (ps.map qau) ok,.list avs oa]:List AVal).all leaf=true:=rfl
 rw[if_pos hlf]
 simp only[List.map_cons,List.map_nil]
 rw[qbD (v:=.int .i64 op) rfl,qbD (v:=.int .i64 n) rfl,qcr H _ (qah binds),ha.viewL,qa5]
 have hkids:qaU H (q+1+1) (.list (ps.map qau) ok)=.list (kids.map qao) none:=by
  have hmap:(ps.map qau).map (qaU H (q+1))=kids.map qao:=by
   refine List.ext_getElem (by simp[hl]) fun i h1 h2=>?_
   have hi:i<kids.length:=by simpa using h2
   rw[List.getElem_map,List.getElem_map,List.getElem_map]
   refine hk i hi _ ?_
   have:=qd7 (List.getElem_mem hi)
   have:0<hgt kids[i]:=by generalize kids[i]=t';cases t';rw[hgt];omega
   omega
  cases hps:ps with
  | nil =>
    have hk0:kids=[]:=List.length_eq_zero_iff.1 (by rw[← hl,hps];rfl)
    subst hk0
    exact qcr H _ rfl ok
  | cons p0 ps' =>
    rw[hps] at hmap
    have hnd:qaw ((p0::ps').map qau)=false:=by rw[List.map_cons,qaw];simp[qau,qaB]
    rw[qaU,if_neg (qkl (by rw[hnd];simp) ok)]
    generalize hW:(p0::ps').map qau=W at hmap hnd
    show (if qaw W=true then AVal.list W none else if (W.map fun x=>(acells (qaU H (q+1) x)).length)=W.map fun x=>(acells x).length then AVal.list (W.map (qaU H (q+1))) none else .junk)=_
    rw[if_neg (by rw[hnd];simp),if_pos,hmap]
    have e1:(W.map fun x=>(acells (qaU H (q+1) x)).length)=(W.map (qaU H (q+1))).map fun y=>(acells y).length:=by rw[List.map_map];rfl
    rw[e1,hmap,← hW,List.map_map,List.map_map]
    have:(kids.map ((fun y=>(acells y).length) ∘ qao))=kids.map fun _=>1:=List.map_congr_left fun t _=>by
     show (acells (qao t)).length=1
     rw[qc4];rfl
    have h2:((p0::ps').map ((fun x=>(acells x).length) ∘ qau))=(p0::ps').map fun _=>1:=rfl
    rw[this,h2,List.map_const',List.map_const',← hl,hps]
 rw[hkids]
 rfl
theorem qxr {e:List CExpr} (hT:TreeL e) {w0:Nat} {H H2:Heap} {ps:List Nat} {ow:Option (Option Nat)} {rt:AVal} (h:OJ e w0 e.length H ps ow rt) {i:Nat} (hi:i<e.length) {t':CTree} (hw:VW H2 t' (ps.getD i 0))
  (hk:∀ k,k<e.length→¬ Blw e i k→H2[ps.getD k 0]? = H[ps.getD k 0]?):∀ k,k<e.length→(k=i∨¬ Blw e i k)→VW H2 (qct e i t' k) (ps.getD k 0):=by
 intro k
 induction k using Nat.strongRecOn with
 | ind k ih =>
   intro hkl hc
   rw[qky e hT.ahead i t' k hkl]
   by_cases hki:k=i
   ·rw[if_pos hki]
    subst hki
    exact hw
   ·rw[if_neg hki]
    have hnb:¬ Blw e i k:=by
     rcases hc with h | h
     ·exact absurd h hki
     ·exact h
    have hl:=h.len
    obtain⟨ob,ok,avs,oa,n1,n2⟩:=h.node k hkl (by omega)
    have hg:ps.getD k 0=ps[k]'(by omega):=by
     rw[List.getD_eq_getElem?_getD,List.getElem?_eq_getElem (by omega)]
     rfl
    have hh:=hk k hkl hnb
    rw[hg] at hh ⊢
    refine qy4 _ _ _ _ _ _ _ ob ok avs oa (by rw[hh];exact n1) n2 (by simp) fun x hx=>?_
    rw[List.length_map] at hx
    rw[List.getElem_map,List.getElem_map]
    have hlt:=hT.ahead k hkl _ (List.getElem_mem hx)
    have hkid:e[k].kids[x].toNat∈qbl e k:=by
     unfold qbl
     rw[List.getElem?_eq_getElem hkl]
     exact List.mem_map_of_mem (List.getElem_mem hx)
    refine ih _ (by omega) (by omega) ?_
    by_cases hci:e[k].kids[x].toNat=i
    ·exact .inl hci
    ·exact .inr fun hb=>hnb (qen hT hb (fun e=>hci e.symm) hkid)
theorem qss {H:Heap} {w r:Nat} {a:AVal} {T:CTree} (hw:H[w]? = some (.box [a,qau r])) (ha:leaf a=true) (hT:VW H T r) (hh:hgt T≤900):viewV H (.ptr (some (w,0)))=.vptr [qaU H 1999 a,qao T] 0:=by
 unfold viewV
 rw[show (2000:Nat)=1999+1 from rfl,qaU,if_neg (by simp[qaB])]
 unfold qcz
 dsimp only
 rw[hw]
 dsimp only
 rw[if_pos (by rw[List.all_cons,ha];rfl),List.map_cons,List.map_cons,List.map_nil,hT 1999 (by omega)]
theorem qxt {H:Heap} {t:CTree} {q:Nat} {fp:List Nat} (h:HT H t q fp):∃ (a b:Int) (bv:AVal) (l1:List AVal) (o1:Option (Option Nat)) (l2:List AVal) (o2:Option (Option Nat)),H[q]? = some (.box [.int .i64 a,.int .i64 b,bv,.list l1 o1,.list l2 o2])∧leaf bv=true∧∀ {H':Heap} {p:Nat},H'[p]? = some (.box [.int .i64 a,.int .i64 b,bv,.list l1 o1,.list l2 o2])→(∀ x∈fp,H'[x]? = H[x]?)→∃ fp',HT H' t p fp':=by
 cases h with
 | mk op n binds kids alts _ bv fb ps ow fks avs oa fa hbox hb ha hl1 hl2 hk =>
 refine⟨_,_,_,_,_,_,_,hbox,hb.leaf,fun {H' p} hp he=>⟨p::(fb++(fa++fks.flatten)),?_⟩⟩
 refine .mk op n binds kids alts p bv fb ps ow fks avs oa fa hp (hb.frame fun x hx=>he x (by simp[hx])) (ha.frame fun x hx=>he x (by simp[hx])) hl1 hl2 fun i hi=>(hk i hi).frame fun x hx=>he x ?_
 exact List.mem_cons_of_mem _ (List.mem_append_right _ (List.mem_append_right _ (List.mem_flatten.2 ⟨_,List.getElem_mem _,hx⟩)))
def qwp (e:List CExpr) (id:Int):Option CTree:=(qmx e id).map fun r=>(qfR (qaW e r) ([],qc1 (qaW e (e.length-1))+1)).1
theorem qqF {e:List CExpr} (hA:qdz e) (hsh:∀ x∈e,x.op=4∨x.op=5→x.binds.length≤x.kids.length) {id:Int} {r:Nat} (h:qmx e id=some r):r<e.length:=by
 have key2:∀ (x:CExpr) (k:Nat) (hk:k<e.length),e[k]=x→∀ (l:List Int) (i:Nat),i+l.length≤x.binds.length→qaF (qjP e x id) l i=some r→r<e.length:=by
  intro x k hk hx l
  induction l with
  | nil=>intro i _ h;simp[qaF] at h
  | cons y l ih =>
    intro i hi h
    rw[qaF] at h
    cases hq:qjP e x id i y with
    | none=>rw[hq] at h;exact ih (i+1) (by simp at hi;omega) h
    | some r' =>
      rw[hq] at h
      injection h with h
      subst h
      unfold qjP at hq
      split at hq
      ·rename_i hc
       injection hq with hq
       have h1:=hsh x (hx ▸ List.getElem_mem hk) hc.2.1
       have hik:i<x.kids.length:=by simp at hi;omega
       have h2:x.kids.getD i 0=x.kids[i]:=by rw[List.getD_eq_getElem?_getD,List.getElem?_eq_getElem hik];rfl
       rw[h2] at hq
       subst hx
       have:=hA k hk _ (List.getElem_mem hik)
       omega
      ·cases hq
 have key:∀ (l:List CExpr) (i:Nat),(∀ x∈l,x∈e)→qaF (fun _ x=>qjQ e id x) l i=some r→r<e.length:=by
  intro l
  induction l with
  | nil=>intro i _ h;simp[qaF] at h
  | cons x l ih =>
    intro i hm h
    rw[qaF] at h
    cases hq:qjQ e id x with
    | none=>rw[hq] at h;exact ih (i+1) (fun y hy=>hm y (by simp[hy])) h
    | some r' =>
      rw[hq] at h
      injection h with h
      subst h
      obtain⟨k,hk,hx⟩:=List.getElem_of_mem (hm x (by simp))
      exact key2 x k hk hx x.binds 0 (by omega) hq
 exact key e 0 (fun x h=>h) h
section
variable {L:Lib} (hR:RLib L)
include hR
theorem qkz (h304:L.fns 304=some fn304) (w p:Nat) (at':Int) (cs:List AVal) (H H':Heap) (r:AVal) (hbx:H[p]? = some (.box (.int .i64 0::cs)))
  (hc:call L 304 [qau w,qau p] (H++[.box [.int .i64 12,.int .i64 at',.int .i64 0]])=some (.val r,H')) :
  call L 294 [qau w,.agg [.int .i64 12,.int .i64 at',.int .i64 0],qau p] H=some (.val r,H'):=by
 have hL:=hR.plain
 refine qaK (hL.summ 294 (by rw[hR.f294];simp)) hR.f294 ?_
 have hb2:(H++[AObj.box [.int .i64 12,.int .i64 at',.int .i64 0]])[p]? = some (.box (.int .i64 0::cs)):=by rw[hga (hlt hbx)];exact hbx
 have hs2:(H++[AObj.box [.int .i64 12,.int .i64 at',.int .i64 0]])[H.length]? = some (.box [.int .i64 12,.int .i64 at',.int .i64 0]):=hgl rfl
 unfold qau at *
 unfold fn294
 simp -implicitDefEqProofs only[ev_,aOp,opd,qaa,qaA,qaz,qab,qae,qag,qai,qap,qac,qaf,qaj,qay,↓reduceIte,reduceCtorEq,Nat.reduceEqDiff,Int.reduceBEq,hb2,hs2,hc,bne]
end
theorem qrp {e:List CExpr} (hlab:∀ x∈e,qbM false (qd0 e x)=0):∀ x∈e,x.op=4∨x.op=5→x.binds.length≤x.kids.length:=by
 intro x hx ho
 obtain⟨h1,_⟩:=qcl (hlab x hx)
 unfold qd0 at h1
 dsimp only at h1
 rw[List.length_map] at h1
 rcases ho with ho | ho
 ·have:=qdr h1 ho;omega
 ·have:=qeG h1 ho;omega
section
variable {L:Lib} (hR:RLib L)
include hR
theorem qrE (h304:L.fns 304=some fn304) (h320:L.fns 320=some fn320) (h256:L.fns 256=some fn256) (h171:L.fns 171=some fn171) (h207:L.fns 207=some fn207) (h208:L.fns 208=some fn208)
  (e:List CExpr) (hl:e.length<2 ^ 30) (hf:∀ x∈e,NodeFit x) (hz:qaO e=0) (i:Nat) (hil:i<e.length) (ho:e[i].op=0) (h:Heap) :
  pcall L 283 [.list (e.map qal) none,.agg [.int .i64 12,.int .i64 (i:Int),.int .i64 0]] h=some (.val (.tuple [.list ((qcN e i (qwp e e[i].n)).1.map qal) none,.int .i64 (qcN e i (qwp e e[i].n)).2]),h):=by
 have hL:=hR.plain
 have hp:=hL.pure
 have hdE:=qaD e
 have hck:=qd3 hR.toCLib e hl hf
 refine qaV hL hR.f283 (by simp only[qaB,qaw,qaD,Bool.and_self]) ?_ h
 rw[hz] at hck
 have hr1:¬ ((12:Int)<1):=by decide
 have ha1:¬ ((i:Int)<0):=by omega
 have ha2:¬ ((e.length:Int)≤(i:Int)):=by omega
 obtain⟨hT,hn4,hdeep,hlab,_⟩:=qbc hz
 have hpos:=hT.pos
 obtain⟨H,ps,ow,c1,hO,hke⟩:=qt1 hL hR.f293 e hl hpos hf hT.ahead [.box [.int .i64 12,.int .i64 (i:Int),.int .i64 0]]
 rw[List.length_singleton] at c1 hO hke
 have hH0:H[0]? = some (.box [.int .i64 12,.int .i64 (i:Int),.int .i64 0]):=by rw[hke 0 (by omega)];rfl
 have hps:=hO.len
 have hgi:ps.getD i 0=ps[i]'(by omega):=by rw[List.getD_eq_getElem?_getD,List.getElem?_eq_getElem (by omega)];rfl
 have hgn:(ps.map qau)[i]? = some (.ptr (some (ps.getD i 0,0))):=by rw[List.getElem?_map,List.getElem?_eq_getElem (by omega),hgi];rfl
 obtain⟨ob,ok,avs,oa,n1,n2⟩:=hO.node i hil (by omega)
 rw[← hgi] at n1
 have hp0:=hO.low (ps.getD i 0) (by rw[hgi];exact List.getElem_mem _)
 have hw0:H[1]? = some (.box [.list (ps.map qau) ow,qau (ps.getD (e.length-1) 0)]):=hO.work
 have hnb:H[ps.getD i 0]? = some (.box (.int .i64 0::.int .i64 e[i].n::[.list (e[i].binds.map qat) ob,.list ((e[i].kids.map fun k:Int=>ps.getD k.toNat 0).map qau) ok,.list avs oa])):=by
  rw[n1];unfold nb;rw[ho]
 generalize hsb:AObj.box [AVal.int .i64 12,.int .i64 (i:Int),.int .i64 0]=sb at *
 have hA:∀ q,q<H.length→(H++[sb])[q]? = H[q]? := fun q hq=>hga hq
 have hw1:(H++[sb])[1]? = some (.box [.list (ps.map qau) ow,qau (ps.getD (e.length-1) 0)]):=by rw[hA 1 (hlt hw0)];exact hw0
 have hu:=quI hR h304 h320 h256 h171 h207 h208 e hz hf (H++[sb]) ps hps ow 1 hw1
  (fun k hk=>by
   obtain⟨a,b,c,d,m1,m2⟩:=hO.node k hk (by omega)
   exact⟨a,b,c,d,by rw[hA _ (hlt m1)];exact m1,m2⟩)
  (fun k hk=>((hO.ws hT.ahead k hk).frame' hA).mono fun q hq=>by have:=At.lt hO hq;simp;omega)
  (ps.getD i 0) e[i].n _ _ (by rw[hA _ hp0.2];exact hnb)
 generalize hpi:ps.getD i 0=p at *
 unfold qwp
 cases hd:qmx e e[i].n with
 | none =>
   rw[hd] at hu
   dsimp only at hu
   rw[← hsb] at hu
   have c2:=qkz hR h304 1 p (i:Int) _ H _ _ hnb hu
   rw[Option.map_none]
   unfold qcN
   dsimp only
   unfold qau at *
   subst hsb
   unfold fn283
   simp -implicitDefEqProofs only[ev_,aOp,opd,qaa,qaA,qa7,qaz,aEq,qad,qab,qae,qag,qaJ,qai,qap,qac,qaf,qaj,qay,↓reduceIte,reduceCtorEq,Nat.reduceEqDiff,Nat.reduceAdd,Int.reduceLT,ge_iff_le,gt_iff_lt,qav,qak,Option.isNone_none,hck,hr1,ha1,ha2,hdE,c1,hH0,hw0,hgn,c2,qam L hp,hp,List.map_nil,bne]
 | some r =>
   rw[hd] at hu
   dsimp only at hu
   have hrl:=qqF hT.ahead (qrp hlab) hd
   obtain⟨H2,q,fp,c2',t2,lo2,le2,k2⟩:=hu hrl
   rw[← hsb] at c2'
   have c2:=qkz hR h304 1 p (i:Int) _ H _ _ hnb c2'
   rw[Option.map_some]
   generalize ht':(qfR (qaW e r) ([],qc1 (qaW e (e.length-1))+1)).1=t' at *
   have k3:∀ x,x<H.length→H2[x]? = H[x]? := fun x hx=>by rw[k2 x (by simp;omega),hA x hx]
   obtain⟨d0,d1,d2,l1,o1,l2,o2,hbq,hlf,hcp⟩:=qxt t2
   have hp2:H2[p]? = some (.box (.int .i64 0::.int .i64 e[i].n::[.list (e[i].binds.map qat) ob,.list ((e[i].kids.map fun k:Int=>ps.getD k.toNat 0).map qau) ok,.list avs oa])):=by rw[k3 p hp0.2];exact hnb
   have hlp2:=hlt hp2
   have hpf:∀ x∈fp,(H2.set p (.box [.int .i64 d0,.int .i64 d1,d2,.list l1 o1,.list l2 o2]))[x]? = H2[x]? := fun x hx=>Go.Abs.hgn (fun e=>by have:=lo2 x hx;simp at this;omega)
   obtain⟨fp',t3⟩:=hcp (H':=H2.set p (.box [.int .i64 d0,.int .i64 d1,d2,.list l1 o1,.list l2 o2])) (p:=p) (hgs hlp2) hpf
   have hglob:=qxr hT hO hil (t':=t') (H2:=H2.set p (.box [.int .i64 d0,.int .i64 d1,d2,.list l1 o1,.list l2 o2])) (by rw[hpi];exact t3.view) (fun k hk hb=>by
    have hkp:ps.getD k 0≠p:=fun he=>by
     have:=qoD hO.nodup (a:=k) (b:=i) (by omega) (by omega) (by rw[he,hpi])
     subst this
     exact hb (.refl _)
    have hkl:=hO.low (ps.getD k 0) (by rw[List.getD_eq_getElem?_getD,List.getElem?_eq_getElem (by omega)];exact List.getElem_mem _)
    rw[Go.Abs.hgn (fun e=>hkp e.symm),k3 _ hkl.2]) (e.length-1) (by omega) (by
     by_cases hie:e.length-1=i
     ·exact .inl hie
     ·exact .inr fun hb=>by have:=qnv hT.ahead hb;omega)
   have hgr:=qgX hz hf r hrl
   have f1:TFit t':=by rw[← ht'];exact qrk _ hgr.fit _
   have f2:qaR t'≤20000:=by rw[← ht',qoI];have:=hgr.size;omega
   have f3:hgt t'≤hgt (qaW e i)+420:=by rw[← ht',qm0];have:=hgr.deep;omega
   obtain⟨b1,b2,b3⟩:=qm3 hT.ahead i hil t' f1 420 f3 (fun k hk=>qfU hz hf k hk) (e.length-1) (by omega)
   have hroot:=(qdQ hz hf).2
   rw[qe1] at hroot hdeep
   have hsz:qaR (qct e i t' (e.length-1))<2 ^ 30:=by
    rw[hroot] at b2
    have:e.length*qaR t'≤4096*20000:=Nat.mul_le_mul hn4 f2
    omega
   have hw3':(H2.set p (.box [.int .i64 d0,.int .i64 d1,d2,.list l1 o1,.list l2 o2]))[1]? = some (.box [.list (ps.map qau) ow,qau (ps.getD (e.length-1) 0)]):=by
    rw[Go.Abs.hgn (by omega),k3 1 (hlt hw0)]
    exact hw0
   generalize hTT:qct e i t' (e.length-1)=T at *
   have hvw:=qss hw3' rfl hglob (by omega)
   have hls:=hR.list T b1 hsz
   have hck2:=qd3 hR.toCLib (qa6 T) (by unfold qa6;rw[qcV];exact hsz) (qd8 T 0 b1)
   have hdL:=qaD (qa6 T)
   obtain⟨tc,htc,hdt⟩:=qbz T
   rw[htc] at hvw hls
   unfold qcN
   dsimp only
   rw[hTT]
   clear hcp t3 t2 hglob hpf
   have hlf2:=hlf
   unfold leaf at hlf2
   unfold qau at *
   subst hsb
   by_cases hz2:qaO (qa6 T)=0
   ·rw[if_pos hz2]
    rw[hz2] at hck2
    generalize qaU _ 1999 _=X at hvw
    unfold fn283
    simp -implicitDefEqProofs only[ev_,aOp,opd,qaa,qar,qaA,qa7,qaz,aEq,qad,qab,qae,qag,qaI,qaJ,qai,leaf,qaq,qap,qac,qaf,qaj,qay,↓reduceIte,reduceCtorEq,Nat.reduceEqDiff,Nat.reduceAdd,Int.reduceLT,ge_iff_le,gt_iff_lt,qav,qak,hck,hr1,ha1,ha2,hdE,c1,hH0,hw0,hgn,c2,hbq,hp2,hlf2,qjj,hvw,hls,hdt,hdL,hck2,qds,qam L hp,hp,List.map_nil,bne]
   ·have hne2:(qaO (qa6 T)==0)=false:=by simpa using hz2
    rw[if_neg hz2]
    generalize qaU _ 1999 _=X at hvw
    generalize qaO (qa6 T)=rr at *
    unfold fn283
    simp -implicitDefEqProofs only[ev_,aOp,opd,qaa,qar,qaA,qa7,qaz,aEq,qad,qab,qae,qag,qaI,qaJ,qai,leaf,qaq,qap,qac,qaf,qaj,qay,↓reduceIte,reduceCtorEq,Nat.reduceEqDiff,Nat.reduceAdd,Int.reduceLT,ge_iff_le,gt_iff_lt,qav,qak,hck,hr1,ha1,ha2,hdE,c1,hH0,hw0,hgn,c2,hbq,hp2,hlf2,qjj,hvw,hls,hdt,hdL,hck2,hne2,qds,qam L hp,hp,List.map_nil,bne]
end
theorem qAC (bl:List Int) (i:Nat) (v:Int) (hi:i<bl.length):(bl.map qat).take i++.int .i64 v::(bl.map qat).drop (i+1)=(bl.set i v).map qat:=by
 rw[List.set_eq_take_append_cons_drop,if_pos hi,List.map_append,List.map_cons,List.map_take,List.map_drop]
 simp[qat]
section
variable {L:Lib}
theorem qw8 {b:Nat} (E:AVal) (kids:List Int) (hk:kids.length<2 ^ 30) (n i:Nat) (hi:i<n) (hkid:∀ k∈kids,0≤k∧k.toNat<n) (bp:Nat) (H0:Heap) (bl:List Int) (hbl:bl.length=n) (hv:H0[1]? = some (.vec (bl.map qat) 1)) :
  ∃ T,qa2 L.pure (call L) b [1000000,0,5,6,7,8,20,21,22,31,32,33] [1000000,0,5,6,8,20,21,22] 2 qgo
   ⟨kt [0,5,6,7,8,20,21,22,31,32,33] [E,.map (some 0),.vec 1 n,.int .i64 i,qau bp,E,.int .i64 n,.int .i64 i,.list (kids.map qat) none,.int .i64 kids.length,.int .i64 0],H0⟩=some (.normal,T) ∧
   ∃ (H:Heap) (bl':List Int),T=⟨kt [0,5,6,8,20,21,22] [E,.map (some 0),.vec 1 n,qau bp,E,.int .i64 n,.int .i64 i],H⟩∧bl'.length=n∧H[1]? = some (.vec (bl'.map qat) 1)∧H.length=H0.length∧∀ q,q≠1→H[q]? = H0[q]? := by
 refine qbt (pure:=L.pure) (call:=call L) (b:=b) (id:=2) (body:=qgo)
  (fun j s=>∃ (H:Heap) (bl':List Int),s=⟨kt [0,5,6,7,8,20,21,22,31,32,33] [E,.map (some 0),.vec 1 n,.int .i64 i,qau bp,E,.int .i64 n,.int .i64 i,.list (kids.map qat) none,.int .i64 kids.length,.int .i64 j],H⟩∧bl'.length=n∧H[1]? = some (.vec (bl'.map qat) 1)∧H.length=H0.length∧∀ q,q≠1→H[q]? = H0[q]?) kids.length _ ?_ ?_ ?_
 ·intro j s hj hs
  obtain⟨H,bl',rfl,hlen,hvec,hle,hke⟩:=hs
  obtain⟨h1,h2,h3⟩:=qaM qat kids hk j hj
  obtain⟨k0,k1⟩:=hkid _ (List.getElem_mem hj)
  have hlv:=hlt hvec
  obtain⟨x,g1⟩:∃ x,(bl'.map qat)[i]? = some (.int .i64 x):=⟨bl'[i]'(by omega),by rw[List.getElem?_map,List.getElem?_eq_getElem (by omega)];rfl⟩
  obtain⟨y,g2⟩:∃ y,(bl'.map qat)[kids[j].toNat]? = some (.int .i64 y):=⟨bl'[kids[j].toNat]'(by omega),by rw[List.getElem?_map,List.getElem?_eq_getElem (by omega)];rfl⟩
  have g3:kids[j]<(n:Int):=by omega
  have g4:(i:Int)<(n:Int):=by omega
  have g5:i+1≤bl'.length:=by omega
  generalize kids[j]=k at *
  obtain⟨r,hr0⟩:∃ r,qa1 L.pure (call L) b [1000000,0,5,6,7,8,20,21,22,31,32,33] [1000000,0,5,6,8,20,21,22] qgo ⟨kt [0,5,6,7,8,20,21,22,31,32,33] [E,.map (some 0),.vec 1 n,.int .i64 i,qau bp,E,.int .i64 n,.int .i64 i,.list (kids.map qat) none,.int .i64 kids.length,.int .i64 j],H⟩=r:=⟨_,rfl⟩
  have hr:=hr0
  unfold qau at *
  unfold qgo at hr
  simp -implicitDefEqProofs only[ev_,aOp,opd,qaa,qar,qaA,qaz,qad,qab,qae,qag,qaI,leaf,qaq,qay,↓reduceIte,reduceCtorEq,Nat.reduceEqDiff,qaT,Nat.mul_one,h1,h2,h3,k0,g1,g2,g3,g4,g5,hvec,List.length_map] at hr
  subst hr
  refine⟨_,hr0,_,bl'.set i (IntKind.i64.wrap (x+y)),rfl,by rw[List.length_set,hlen],?_,by rw[List.length_set,hle],fun q hq=>by rw[hgn (fun e=>hq e.symm),hke q hq]⟩
  rw[hgs hlv]
  congr 1
  rw[← qAC _ _ _ (by omega)]
 ·intro s hs
  obtain⟨H,bl',rfl,hlen,hvec,hle,hke⟩:=hs
  have h0:=qaQ kids.length
  refine⟨_,?_,H,bl',rfl,hlen,hvec,hle,hke⟩
  unfold qgo
  simp -implicitDefEqProofs only[ev_,aOp,opd,qaa,qaA,qaz,qab,gcE,↓reduceIte,reduceCtorEq,Nat.reduceEqDiff,h0]
 ·exact⟨H0,bl,rfl,hbl,hv,rfl,fun _ _=>rfl⟩
def qgH (e:List CExpr) (x:CExpr):Prop:=x.op=4∧opN e (x.kids.getD 0 0).toNat=2
theorem qwH {e:List CExpr} {k:Nat} (h:k<e.length):opN e k=e[k].op:=by unfold opN;rw[List.getElem?_eq_getElem h];rfl
structure CInv (e:List CExpr) (H:Heap) (m:IM Int) (bl:List Int):Prop where
 len:bl.length=e.length
 map:H[0]? = some (.map (encB m))
 vec:H[1]? = some (.vec (bl.map qat) 1)
 has:m≠[]→∃ x∈e,qgH e x
theorem qw9 {b:Nat} (e:List CExpr) (hl:e.length<2 ^ 30) (hf:∀ x∈e,NodeFit x) (hA:qdz e) (hlet:∀ x∈e,x.op=4→x.kids.length=2∧x.binds.length=1) (H0:Heap) (bl0:List Int) (h0:CInv e H0 [] bl0) :
  ∃ T,qa2 L.pure (call L) b [1000000,0,5,6,20,21,22] [1000000,0,5] 0 qgp
   ⟨kt [0,5,6,20,21,22] [.list (e.map qal) none,.map (some 0),.vec 1 e.length,.list (e.map qal) none,.int .i64 e.length,.int .i64 0],H0⟩=some (.normal,T) ∧
   ∃ (H:Heap) (m:IM Int) (bl:List Int),T=⟨kt [0,5] [.list (e.map qal) none,.map (some 0)],H⟩∧CInv e H m bl:=by
 refine qbt (pure:=L.pure) (call:=call L) (b:=b) (id:=0) (body:=qgp)
  (fun i s=>∃ (H:Heap) (m:IM Int) (bl:List Int),s=⟨kt [0,5,6,20,21,22] [.list (e.map qal) none,.map (some 0),.vec 1 e.length,.list (e.map qal) none,.int .i64 e.length,.int .i64 i],H⟩∧CInv e H m bl) e.length _ ?_ ?_ ?_
 ·intro i s hi hs
  obtain⟨H,m,bl,rfl,hlen,hmap,hvec,hhas⟩:=hs
  obtain⟨h1,h2,h3⟩:=qaM qal e hl i hi
  have hx:=hf _ (List.getElem_mem hi)
  have hkid:∀ k∈e[i].kids,0≤k∧k.toNat<e.length:=fun k hk=>by have:=hA i hi k hk;omega
  have hl4:=hlet _ (List.getElem_mem hi)
  have hxm:e[i]∈e:=List.getElem_mem hi
  have hdX:=qan e[i].alts
  generalize e[i]=x at *
  have hl0:=hlt hmap
  have hl1:=hlt hvec
  have hbb:i+1≤bl.length:=by omega
  have hv1:(H++[qei x])[1]? = some (.vec (bl.map qat) 1):=by rw[hga hl1];exact hvec
  have hm1:(H++[qei x])[0]? = some (.map (encB m)):=by rw[hga hl0];exact hmap
  obtain⟨T,ht,H2,bl2,rfl,l2,v2,le2,k2⟩:=qw8 (L:=L) (b:=(H++[qei x]).length) (.list (e.map qal) none) x.kids hx.kids e.length i hi hkid H.length ((H++[qei x]).set 1 (.vec ((bl.map qat).take i++.int .i64 1::(bl.map qat).drop (i+1)) 1)) (bl.set i 1) (by rw[List.length_set,hlen]) (by rw[hgs (by simp;omega),qAC _ _ _ (by omega)])
  have hm2:H2[0]? = some (.map (encB m)):=by rw[k2 0 (by omega),hgn (by omega)];exact hm1
  have hb2:H2[H.length]? = some (qei x):=by rw[k2 _ (by omega),hgn (by omega)];exact hgl rfl
  have hbS:((H++[qei x]).set 1 (.vec ((bl.map qat).take i++.int .i64 1::(bl.map qat).drop (i+1)) 1))[H.length]? = some (qei x):=by rw[hgn (by omega)];exact hgl rfl
  obtain⟨r,hr0⟩:∃ r,qa1 L.pure (call L) b [1000000,0,5,6,20,21,22] [1000000,0,5] qgp ⟨kt [0,5,6,20,21,22] [.list (e.map qal) none,.map (some 0),.vec 1 e.length,.list (e.map qal) none,.int .i64 e.length,.int .i64 i],H⟩=r:=⟨_,rfl⟩
  have hr:=hr0
  rw[List.length_append,List.length_singleton] at ht
  unfold qei qau at *
  unfold qgp at hr
  by_cases h4:x.op=4
  case neg =>
   have b4:(x.op==4)=false:=by simpa using h4
   simp -implicitDefEqProofs only[ev_,aOp,opd,qaa,qar,qaA,qa7,qaz,qad,qab,qae,qag,qaI,qaJ,qai,leaf,qaq,↓reduceIte,reduceCtorEq,Nat.reduceEqDiff,Nat.reduceAdd,qaP,Nat.mul_one,List.length_set,h1,h2,h3,hdX,hgl,hsl,hga,hv1,hbb,hbS,ht,hb2,b4,List.length_map] at hr
   subst hr
   exact⟨_,hr0,_,m,bl2,rfl,l2,hm2,v2,hhas⟩
  have b4:(x.op==4)=true:=by simpa using h4
  obtain⟨hk2,hb1⟩:=hl4 h4
  obtain⟨ka,kb,hkk⟩:=qk4 hk2
  obtain⟨id,hbi⟩:=qmN hb1
  have hka:=hkid ka (by rw[hkk];simp)
  obtain⟨f,hfe,hfo⟩:∃ f,(e.map qal)[ka.toNat]? = some (qal f)∧opN e ka.toNat=f.op:=⟨e[ka.toNat]'hka.2,by rw[List.getElem?_map,List.getElem?_eq_getElem hka.2];rfl,qwH hka.2⟩
  obtain⟨y,hy⟩:∃ y,(bl2.map qat)[ka.toNat]? = some (.int .i64 y):=⟨bl2[ka.toNat]'(by omega),by rw[List.getElem?_map,List.getElem?_eq_getElem (by omega)];rfl⟩
  have hk0:=hka.1
  have hk1:ka<(e.length:Int):=by omega
  have hdF:=qan f.alts
  have hkz:(x.kids.map qat)[0]? = some (.int .i64 ka):=by rw[hkk];rfl
  have hbz:(x.binds.map qat)[0]? = some (.int .i64 id):=by rw[hbi];rfl
  by_cases hfl:f.op=2
  ·have bf:(f.op==2)=true:=by simpa using hfl
   have hu:=qzZ H2 0 id y m hm2
   simp -implicitDefEqProofs only[ev_,aOp,opd,qaa,qar,qaA,qa7,qaz,qad,qab,qae,qag,qaI,qaJ,qai,leaf,qaq,qay,↓reduceIte,reduceCtorEq,Nat.reduceEqDiff,Nat.reduceAdd,Int.reduceToNat,qaP,Nat.mul_one,List.length_set,Int.le_refl,h1,h2,h3,hdX,hdF,hgl,hsl,hga,hv1,hbb,hkz,hbz,hbS,ht,hb2,b4,hk0,hk1,hfe,bf,hy,v2,hu,List.length_map] at hr
   subst hr
   refine⟨_,hr0,_,qjf id y m,bl2,rfl,l2,?_,?_,fun _=>⟨x,hxm,h4,?_⟩⟩
   ·rw[hgs (hlt hm2)]
   ·rw[hgn (by decide)];exact v2
   ·rw[hkk,List.getD_cons_zero,hfo,hfl]
  ·have bf:(f.op==2)=false:=by simpa using hfl
   simp -implicitDefEqProofs only[ev_,aOp,opd,qaa,qar,qaA,qa7,qaz,qad,qab,qae,qag,qaI,qaJ,qai,leaf,qaq,↓reduceIte,reduceCtorEq,Nat.reduceEqDiff,Nat.reduceAdd,Int.reduceToNat,qaP,Nat.mul_one,List.length_set,Int.le_refl,h1,h2,h3,hdX,hdF,hgl,hsl,hga,hv1,hbb,hkz,hbz,hbS,ht,hb2,b4,hk0,hk1,hfe,bf,hy,v2,List.length_map] at hr
   subst hr
   exact⟨_,hr0,_,m,bl2,rfl,l2,hm2,v2,hhas⟩
 ·intro s hs
  obtain⟨H,m,bl,rfl,hI⟩:=hs
  have h0:=qaQ e.length
  refine⟨_,?_,H,m,bl,rfl,hI⟩
  unfold qgp
  simp -implicitDefEqProofs only[ev_,aOp,opd,qaa,qaA,qaz,qab,gcE,↓reduceIte,reduceCtorEq,Nat.reduceEqDiff,h0]
 ·exact⟨H0,[],bl0,rfl,h0⟩
theorem qxa {b:Nat} (e:List CExpr) (hl:e.length<2 ^ 30) (hA:qdz e) (happ:∀ x∈e,x.op=3→0<x.kids.length) (H0:Heap) (m:IM Int) (hm:H0[0]? = some (.map (encB m))) :
  (∃ T,qa2 L.pure (call L) b [1000000,0,5,75,76,77] [1000000,2,3,4] 4 qeZ
   ⟨kt [0,5,75,76,77] [.list (e.map qal) none,.map (some 0),.list (e.map qal) none,.int .i64 e.length,.int .i64 0],H0⟩=some (.normal,T)∧∃ H,T=⟨kt [2,3,4] [.junk,.junk,.junk],H⟩) ∨
  (∃ T,qa2 L.pure (call L) b [1000000,0,5,75,76,77] [1000000,2,3,4] 4 qeZ
   ⟨kt [0,5,75,76,77] [.list (e.map qal) none,.map (some 0),.list (e.map qal) none,.int .i64 e.length,.int .i64 0],H0⟩=some (.ret,T)∧∃ (H:Heap) (i j:Nat) (hi:i<e.length),T=⟨kt [2,3,4] [.int .i64 i,.int .i64 j,.bool true],H⟩∧e[i].op=0∧j<e.length∧m≠[]):=by
 refine qkg (pure:=L.pure) (call:=call L) (b:=b) (id:=4) (body:=qeZ)
  (fun i s=>∃ H:Heap,s=⟨kt [0,5,75,76,77] [.list (e.map qal) none,.map (some 0),.list (e.map qal) none,.int .i64 e.length,.int .i64 (i:Nat)],H⟩∧H[0]? = some (.map (encB m))) e.length _ _ ?_ ?_ ?_
 ·intro i s hi hs
  obtain⟨H,rfl,hmap⟩:=hs
  obtain⟨h1,h2,h3⟩:=qaM qal e hl i hi
  have hkid:∀ k∈e[i].kids,0≤k∧k.toNat<e.length:=fun k hk=>by have:=hA i hi k hk;omega
  have hap:=happ _ (List.getElem_mem hi)
  have hdX:=qan e[i].alts
  generalize e[i]=x at *
  have hl0:=hlt hmap
  have hm1:(H++[qei x])[0]? = some (.map (encB m)):=by rw[hga hl0];exact hmap
  obtain⟨r,hr0⟩:∃ r,qa1 L.pure (call L) b [1000000,0,5,75,76,77] [1000000,2,3,4] qeZ ⟨kt [0,5,75,76,77] [.list (e.map qal) none,.map (some 0),.list (e.map qal) none,.int .i64 e.length,.int .i64 (i:Nat)],H⟩=r:=⟨_,rfl⟩
  have hr:=hr0
  unfold qeZ at hr
  by_cases h3':x.op=3
  case neg =>
   have b3:(x.op==3)=false:=by simpa using h3'
   unfold qei at *
   simp -implicitDefEqProofs only[ev_,aOp,opd,qaa,qar,qaA,qaz,qad,qab,qag,qaI,qaJ,qai,leaf,qaq,↓reduceIte,reduceCtorEq,Nat.reduceEqDiff,Nat.reduceAdd,qaP,h1,h2,h3,hdX,hgl,hsl,hga,b3,bne] at hr
   subst hr
   exact .inl ⟨_,hr0,_,rfl,hm1⟩
  have b3:(x.op==3)=true:=by simpa using h3'
  have hk1:=hap h3'
  obtain⟨ka,hkz,hka⟩:∃ ka,(x.kids.map qat)[0]? = some (.int .i64 ka)∧ka∈x.kids:=⟨x.kids[0],by rw[List.getElem?_map,List.getElem?_eq_getElem hk1];rfl,List.getElem_mem _⟩
  have hkb:=hkid ka hka
  have hk0:=hkb.1
  obtain⟨f,hfe,hfo⟩:∃ f,(e.map qal)[ka.toNat]? = some (qal f)∧e[ka.toNat]'hkb.2=f:=⟨e[ka.toNat]'hkb.2,by rw[List.getElem?_map,List.getElem?_eq_getElem hkb.2];rfl,rfl⟩
  have hdF:=qan f.alts
  have hm2:(H++[qei x,qei f])[0]? = some (.map (encB m)):=by rw[hga hl0];exact hmap
  have hlook:=qoh qat (H++[qei x,qei f]) 0 (.int .i64 0) true f.n m hm2
  have hg1:(H++[qei x,qei f])[H.length+1]? = some (qei f):=by simp
  have hg0:(H++[qei x,qei f])[H.length]? = some (qei x):=by simp
  have hcast:((ka.toNat:Nat):Int)=ka:=Int.toNat_of_nonneg hk0
  cases hq:qbu f.n m with
  | none =>
    rw[hq] at hlook
    unfold qei at *
    simp -implicitDefEqProofs only[ev_,aOp,opd,qaa,qar,qaA,qaz,qad,qab,qae,qag,qaI,qaJ,qai,leaf,qaq,↓reduceIte,reduceCtorEq,Nat.reduceEqDiff,Nat.reduceAdd,Int.reduceToNat,qaP,Int.le_refl,h1,h2,h3,hdX,hdF,hgl,qqO,hsl,qy9,hga,b3,hkz,hk0,hfe,hg0,hg1,hlook,bne] at hr
    subst hr
    exact .inl ⟨_,hr0,_,rfl,hm2⟩
  | some z =>
    rw[hq] at hlook
    unfold qei at *
    by_cases hfl:f.op=0
    case neg =>
     have bf:(f.op==0)=false:=by simpa using hfl
     simp -implicitDefEqProofs only[ev_,aOp,opd,qaa,qar,qaA,qaz,qad,qab,qae,qag,qaI,qaJ,qai,leaf,qaq,↓reduceIte,reduceCtorEq,Nat.reduceEqDiff,Nat.reduceAdd,Int.reduceToNat,qaT,qaP,Int.le_refl,h1,h2,h3,hdX,hdF,hgl,qqO,hsl,qy9,hga,b3,hkz,hk0,hfe,hg0,hg1,hlook,bf,bne] at hr
     subst hr
     exact .inl ⟨_,hr0,_,rfl,hm2⟩
    have bf:(f.op==0)=true:=by simpa using hfl
    by_cases hz:z≤20
    ·simp -implicitDefEqProofs only[ev_,aOp,opd,qaa,qar,qaA,qaz,qad,qab,qae,qag,qaI,qaJ,qai,leaf,qaq,gcE,↓reduceIte,reduceCtorEq,Nat.reduceEqDiff,Nat.reduceAdd,Int.reduceToNat,qaT,qaP,Int.le_refl,h1,h2,h3,hdX,hdF,hgl,qqO,hsl,qy9,hga,b3,hkz,hk0,hfe,hg0,hg1,hlook,bf,hz,bne] at hr
     subst hr
     refine .inr ⟨_,hr0,_,ka.toNat,i,hkb.2,by rw[hcast],by rw[hfo,hfl],hi,?_⟩
     rintro rfl
     simp[qbu] at hq
    ·simp -implicitDefEqProofs only[ev_,aOp,opd,qaa,qar,qaA,qaz,qad,qab,qae,qag,qaI,qaJ,qai,leaf,qaq,↓reduceIte,reduceCtorEq,Nat.reduceEqDiff,Nat.reduceAdd,Int.reduceToNat,qaT,qaP,Int.le_refl,h1,h2,h3,hdX,hdF,hgl,qqO,hsl,qy9,hga,b3,hkz,hk0,hfe,hg0,hg1,hlook,bf,hz,bne] at hr
     subst hr
     exact .inl ⟨_,hr0,_,rfl,hm2⟩
 ·intro s hs
  obtain⟨H,rfl,hI⟩:=hs
  have h0:=qaQ e.length
  refine⟨_,?_,H,rfl⟩
  unfold qeZ
  simp -implicitDefEqProofs only[ev_,aOp,opd,qaa,qaA,qaz,qab,gcE,↓reduceIte,reduceCtorEq,Nat.reduceEqDiff,h0]
 ·exact⟨H0,rfl,hm⟩
theorem qxb (hL:Plain L) (h344:L.fns 344=some fn344) (e:List CExpr) (hz:qaO e=0) (hf:∀ x∈e,NodeFit x) :
  ∃ (i j:Nat) (b:Bool),(∀ h:Heap,pcall L 344 [.list (e.map qal) none] h=some (.val (.tuple [.int .i64 i,.int .i64 j,.bool b]),h))∧(b=true→∃ hi:i<e.length,e[i].op=0∧j<e.length∧∃ x∈e,qgH e x):=by
 have hp:=hL.pure
 have hdE:=qaD e
 obtain⟨hT,hn4,hdeep,hlab,_⟩:=qbc hz
 have hl:e.length<2 ^ 30:=by omega
 have hlet:∀ x∈e,x.op=4→x.kids.length=2∧x.binds.length=1:=by
  intro x hx h4
  obtain⟨h1,_⟩:=qcl (hlab x hx)
  unfold qd0 at h1
  dsimp only at h1
  rw[List.length_map] at h1
  have:=qdr h1 h4
  exact⟨this.1,this.2.1⟩
 have happ:∀ x∈e,x.op=3→0<x.kids.length:=by
  intro x hx h3
  obtain⟨h1,_⟩:=qcl (hlab x hx)
  unfold qd0 at h1
  dsimp only at h1
  rw[List.length_map] at h1
  exact (qeF h1).2.1 (.inr (.inl h3))
 have hc0:CInv e [.map (encB []),.vec (List.replicate e.length (.int .i64 0)) 1] [] (List.replicate e.length 0):=⟨by simp,rfl,by rw[List.map_replicate];rfl,fun h=>absurd rfl h⟩
 obtain⟨T,c1,H,m,bl,rfl,hI⟩:=qw9 (L:=L) (b:=2) e hl hf hT.ahead hlet _ _ hc0
 have hle:(e.length:Int)≤1073741824:=by omega
 have c2:=qxa (L:=L) (b:=H.length) e hl hT.ahead happ H m hI.map
 rw[show encB []=[] from rfl] at c1
 rcases c2 with ⟨T,c2,H',rfl⟩ | ⟨T,c2,H',i,j,hi,rfl,c3,c4,c5⟩
 ·refine⟨0,0,false,fun h=>?_,fun h=>by cases h⟩
  refine qaV hL h344 rfl ?_ h
  unfold fn344
  simp -implicitDefEqProofs only[ev_,aOp,opd,qaa,qa7,qap,qac,qaf,qaj,↓reduceIte,reduceCtorEq,Nat.reduceEqDiff,Nat.reduceAdd,qak,Int.le_refl,c1,c2,hle,hdE,List.length_map]
 ·refine⟨i,j,true,fun h=>?_,fun _=>⟨hi,c3,c4,hI.has c5⟩⟩
  refine qaV hL h344 rfl ?_ h
  unfold fn344
  simp -implicitDefEqProofs only[ev_,aOp,opd,qaa,qa7,qap,qac,qaf,qaj,↓reduceIte,reduceCtorEq,Nat.reduceEqDiff,Nat.reduceAdd,qak,Int.le_refl,c1,c2,hle,hdE,List.length_map]
end
def qnK (s:Int × Int):AVal:=.agg [.int .i64 s.1,.int .i64 s.2,.int .i64 0]
theorem qmv (l:List (Int × Int)):qaw (l.map qnK)=true:=qdU qnK (fun _=>rfl) l
theorem qzh (l:List (Int × Int)):((l.map qnK).all fun v=>decide ((acells v).length=3))=true:=by
 rw[List.all_eq_true]
 intro v hv
 obtain⟨q,_,rfl⟩:=List.mem_map.1 hv
 rfl
def ns (bud:Int) (e:List CExpr) (l:List (Int × Int)):St:=⟨kt [1,8,9] [.int .i64 bud,.list (e.map qal) none,.list (l.map qnK) (qcn 0 l.length)],qby 3 l.length⟩
def nt (e:List CExpr) (l:List (Int × Int)):St:=⟨kt [8,9] [.list (e.map qal) none,.list (l.map qnK) (qcn 0 l.length)],qby 3 l.length⟩
theorem qv2 {e:List CExpr} (h:Norm e) {i:Nat} (hi:i<e.length) (id:Int) (h0:(qcN e i (qwp e id)).2=0):Norm (qcN e i (qwp e id)).1:=by
 obtain⟨hT,hn4,hdeep,hlab,_⟩:=qbc h.ok
 unfold qwp at *
 cases hd:qmx e id with
 | none=>rw[hd] at h0;exact absurd (show (12:Int)=0 from h0) (by decide)
 | some r =>
   rw[hd] at h0
   have hr:=qqF hT.ahead (qrp hlab) hd
   have hg:=qgX h.ok h.fit r hr
   rw[Option.map_some] at h0 ⊢
   generalize ht:(qfR (qaW e r) ([],qc1 (qaW e (e.length-1))+1)).1=t' at *
   have f1:TFit t':=by rw[← ht];exact qrk _ hg.fit _
   have f3:hgt t'≤hgt (qaW e i)+420:=by rw[← ht,qm0];have:=hg.deep;omega
   unfold qcN at h0 ⊢
   dsimp only at h0 ⊢
   by_cases hc:qaO (qa6 (qct e i t' (e.length-1)))=0
   ·rw[if_pos hc]
    have hfit:=(qm3 hT.ahead i hi t' f1 420 f3 (fun k hk=>qfU h.ok h.fit k hk)) (e.length-1) (by have:=hT.pos;omega)
    exact⟨hc,qd8 _ 0 hfit.1,by rw[qcK]⟩
   ·rw[if_neg hc] at h0;exact absurd (show (2:Int)=0 from h0) (by decide)
theorem qv1 {e:List CExpr} (h:Norm e) {r a:Int} (h0:(qdt e r a 0).2=0):Norm (qdt e r a 0).1:=by
 by_cases ha:a<0∨(e.length:Int)≤a
 ·exfalso
  unfold qdt at h0
  rw[if_pos h.ok] at h0
  by_cases hr:r<1∨12<r
  ·rw[if_pos hr] at h0
   exact absurd (show (4:Int)=0 from h0) (by decide)
  ·rw[if_neg hr,if_pos ha] at h0
   exact absurd (show (12:Int)=0 from h0) (by decide)
 ·obtain⟨i,rfl⟩:∃ i:Nat,a=(i:Int):=⟨a.toNat,by omega⟩
  exact qsc h (by omega) h0
section
variable {L:Lib} (hR:RLib L)
include hR
theorem qwA (h304:L.fns 304=some fn304) (h320:L.fns 320=some fn320) (h256:L.fns 256=some fn256) (h171:L.fns 171=some fn171) (h207:L.fns 207=some fn207) (h208:L.fns 208=some fn208) (h344:L.fns 344=some fn344) (bud:Int) (hbud:bud≤500):∀ (k:Nat) (e:List CExpr) (l:List (Int × Int)),Norm e→bud<(l.length:Int)+2*((k:Int)+1)→(l.length:Int)≤max bud 0 →
  ∃ (F:List CExpr) (l':List (Int × Int)),qa2 L.pure (call L) 0 [1,8,9] [8,9] 0 qcy (ns bud e l)=some (.normal,nt F l')∧((¬ ∃ x∈e,qgH e x)→F=e∧l'=l)
 | k,e,l,hN,hb,hlb => by
   have hL:=hR.plain
   have hp:=hL.pure
   have hdE:=qaD e
   have hdL:=qmv l
   have hel:e.length<2 ^ 30:=by have:=(qbc hN.ok).2.1;omega
   have w2:IntKind.i64.wrap ((l.length:Int)+2)=(l.length:Int)+2:=qb3 (by omega) (by omega)
   by_cases hle:(l.length:Int)+2≤bud
   case neg =>
    refine⟨e,l,qb4 ?_,fun _=>⟨rfl,rfl⟩⟩
    unfold ns nt
    by_cases hz:l=[]
    ·subst hz
     have hle':¬ ((2:Int)≤bud):=by simpa using hle
     have w2':IntKind.i64.wrap 2=2:=by decide
     unfold qcy
     simp -implicitDefEqProofs only[ev_,aOp,opd,qaa,qaA,qa7,qaz,qab,gcE,qax,ren,renC,qa0,qbb,↓reduceIte,Nat.reduceEqDiff,qcn,qby,hdE,List.length_nil,Int.natCast_zero,Int.zero_add,w2',hle']
    ·obtain⟨q,hq⟩:∃ q,l.length=q+1:=⟨l.length-1,by have:=List.length_pos_iff.2 hz;omega⟩
     have h1:qcn 0 l.length=some (some 0):=by rw[hq];rfl
     have h2:qby 3 l.length=[.tail l.length 3]:=by rw[hq];rfl
     rw[h1,h2]
     unfold qcy
     simp -implicitDefEqProofs only[ev_,aOp,opd,qaa,qaA,qa7,qaz,qab,gcE,qax,ren,renC,qa0,qbb,↓reduceIte,Nat.reduceEqDiff,Nat.reduceLT,hdE,hdL,w2,hle]
   obtain⟨i,j,c,hc,hc2⟩:=qxb hL h344 e hN.ok hN.fit
   cases c with
   | false =>
     refine⟨e,l,qb4 ?_,fun _=>⟨rfl,rfl⟩⟩
     unfold ns nt
     by_cases hz:l=[]
     ·subst hz
      have hle':((2:Int)≤bud):=by simpa using hle
      have w2':IntKind.i64.wrap 2=2:=by decide
      unfold qcy
      simp -implicitDefEqProofs only[ev_,aOp,opd,qaa,qaA,qa7,qaz,aUn,qab,gcE,qax,ren,renC,qa0,qbb,↓reduceIte,reduceCtorEq,Nat.reduceEqDiff,qav,qcn,qby,hdE,hc,List.length_nil,Int.natCast_zero,Int.zero_add,w2',hle',qam L hp,hp]
     ·obtain⟨q,hq⟩:∃ q,l.length=q+1:=⟨l.length-1,by have:=List.length_pos_iff.2 hz;omega⟩
      have h1:qcn 0 l.length=some (some 0):=by rw[hq];rfl
      have h2:qby 3 l.length=[.tail l.length 3]:=by rw[hq];rfl
      rw[h1,h2]
      unfold qcy
      simp -implicitDefEqProofs only[ev_,aOp,opd,qaa,qaA,qa7,qaz,aUn,qab,gcE,qax,ren,renC,qa0,qbb,↓reduceIte,reduceCtorEq,Nat.reduceEqDiff,Nat.reduceLT,qav,hdE,hdL,hc,w2,hle,qam L hp,hp]
   | true =>
     obtain⟨hil,ho,hjl,x,hxm,hlx⟩:=hc2 rfl
     have hno:(¬ ∃ x∈e,qgH e x)→False:=fun h=>h ⟨x,hxm,hlx⟩
     have hap:=fun h=>qrE hR h304 h320 h256 h171 h207 h208 e hel hN.fit hN.ok i hil ho h
     have hdA:=qaD (qcN e i (qwp e e[i].n)).1
     have hnA:=qv2 hN hil e[i].n
     generalize (qcN e i (qwp e e[i].n)).1=A at *
     generalize (qcN e i (qwp e e[i].n)).2=g at *
     by_cases hg:g=0
     case neg =>
      have hgb:(g==0)=false:=by simpa using hg
      refine⟨e,l,qb4 ?_,fun h=>(hno h).elim⟩
      unfold ns nt
      by_cases hz:l=[]
      ·subst hz
       have hle':((2:Int)≤bud):=by simpa using hle
       have w2':IntKind.i64.wrap 2=2:=by decide
       unfold qcy
       simp -implicitDefEqProofs only[ev_,aOp,opd,qaa,qar,qaA,qa7,qaz,aUn,qab,qaI,qaJ,qbP,qbW,leaf,qaq,gcE,qax,ren,renC,qa0,qbb,↓reduceIte,reduceCtorEq,Nat.reduceEqDiff,Nat.reduceAdd,Nat.reduceLeDiff,qav,qcn,qby,hdE,hdA,hc,hap,hgb,bne,List.length_nil,Int.natCast_zero,Int.zero_add,w2',hle',qam L hp,hp]
      ·obtain⟨q,hq⟩:∃ q,l.length=q+1:=⟨l.length-1,by have:=List.length_pos_iff.2 hz;omega⟩
       have h1:qcn 0 l.length=some (some 0):=by rw[hq];rfl
       have h2:qby 3 l.length=[.tail l.length 3]:=by rw[hq];rfl
       rw[h1,h2]
       unfold qcy
       simp -implicitDefEqProofs only[ev_,aOp,opd,qaa,qar,qaA,qa7,qaz,aUn,qab,qaI,qaJ,qbP,qbW,leaf,qaq,gcE,qax,ren,renC,qa0,qbb,↓reduceIte,reduceCtorEq,Nat.reduceEqDiff,Nat.reduceAdd,Nat.reduceLT,Nat.reduceLeDiff,qav,hdE,hdA,hdL,hc,hap,hgb,bne,w2,hle,qam L hp,hp]
     subst hg
     have hNA:=hnA rfl
     have hal:A.length<2 ^ 30:=by have:=(qbc hNA.ok).2.1;omega
     obtain⟨a,ha⟩:∃ a,a=IntKind.i64.wrap (IntKind.i64.wrap ((j:Int)+(A.length:Int))-(e.length:Int)):=⟨_,rfl⟩
     have hap2:=fun h=>qu1 hR A hal hNA.fit 1 a 0 ⟨by decide,by decide⟩ h
     have hdB:=qaD (qdt A 1 a 0).1
     have hnB:=qv1 (r:=1) (a:=a) hNA
     generalize (qdt A 1 a 0).1=B at *
     generalize (qdt A 1 a 0).2=g at *
     by_cases hg:g=0
     case neg =>
      have hgb:(g==0)=false:=by simpa using hg
      refine⟨e,l,qb4 ?_,fun h=>(hno h).elim⟩
      unfold ns nt
      by_cases hz:l=[]
      ·subst hz
       have hle':((2:Int)≤bud):=by simpa using hle
       have w2':IntKind.i64.wrap 2=2:=by decide
       unfold qcy
       simp -implicitDefEqProofs only[ev_,aOp,opd,qaa,qar,qaA,qa7,qaz,aUn,qab,qaI,qaJ,qbP,qbW,leaf,qaq,gcE,qax,ren,renC,qa0,qbb,↓reduceIte,reduceCtorEq,Nat.reduceEqDiff,Nat.reduceAdd,Nat.reduceLeDiff,qav,qcn,qby,hdE,hdA,hdB,hc,hap,← ha,hap2,hgb,bne,List.length_nil,Int.natCast_zero,Int.zero_add,w2',hle',qam L hp,hp]
      ·obtain⟨q,hq⟩:∃ q,l.length=q+1:=⟨l.length-1,by have:=List.length_pos_iff.2 hz;omega⟩
       have h1:qcn 0 l.length=some (some 0):=by rw[hq];rfl
       have h2:qby 3 l.length=[.tail l.length 3]:=by rw[hq];rfl
       rw[h1,h2]
       unfold qcy
       simp -implicitDefEqProofs only[ev_,aOp,opd,qaa,qar,qaA,qa7,qaz,aUn,qab,qaI,qaJ,qbP,qbW,leaf,qaq,gcE,qax,ren,renC,qa0,qbb,↓reduceIte,reduceCtorEq,Nat.reduceEqDiff,Nat.reduceAdd,Nat.reduceLT,Nat.reduceLeDiff,qav,hdE,hdA,hdB,hdL,hc,hap,← ha,hap2,hgb,bne,w2,hle,qam L hp,hp]
     subst hg
     have hNB:=hnB rfl
     match k with
     | 0=>omega
     | k + 1 =>
       obtain⟨F,l',hF,_⟩:=qwA h304 h320 h256 h171 h207 h208 h344 bud hbud k B (l++[(12,(i:Int)),(1,a)]) hNB (by simp;omega) (by simp;omega)
       refine⟨F,l',(qdM ?_).trans hF,fun h=>(hno h).elim⟩
       unfold ns
       have hall:=qzh l
       have hlen:l.length+2≤1073741824:=by omega
       rw[List.map_append,List.length_append]
       by_cases hz:l=[]
       ·subst hz
        have hle':((2:Int)≤bud):=by simpa using hle
        have w2':IntKind.i64.wrap 2=2:=by decide
        unfold qcy
        simp -implicitDefEqProofs only[ev_,aOp,opd,qaa,qar,qaA,qa7,qaz,aUn,qab,qaI,qaJ,qbP,qbW,leaf,qaq,qax,ren,renC,qa0,qbb,qbs,↓reduceIte,Nat.reduceEqDiff,Nat.reduceAdd,Nat.reduceLT,Nat.reduceLeDiff,qav,qcn,qby,qnK,hdE,hdA,hdB,hc,hap,← ha,hap2,bne,List.length_nil,Int.natCast_zero,Int.zero_add,w2',hle',qam L hp,hp]
       ·obtain⟨q,hq⟩:∃ q,l.length=q+1:=⟨l.length-1,by have:=List.length_pos_iff.2 hz;omega⟩
        have h1:qcn 0 l.length=some (some 0):=by rw[hq];rfl
        have h2:qby 3 l.length=[.tail l.length 3]:=by rw[hq];rfl
        have h3:qcn 0 (l.length+[((12:Int),(i:Int)),(1,a)].length)=some (some 0):=by rw[hq];rfl
        have h4:qby 3 (l.length+[((12:Int),(i:Int)),(1,a)].length)=[.tail (l.length+2) 3]:=by rw[hq];rfl
        rw[h1,h2,h3,h4]
        unfold qcy
        simp -implicitDefEqProofs only[ev_,aOp,opd,qaa,qar,qaA,qa7,qaz,aUn,qab,qaI,qaJ,qbP,qbW,leaf,qaq,qax,ren,renC,qa0,qbb,qbs,↓reduceIte,Nat.reduceEqDiff,Nat.reduceAdd,Nat.reduceLT,Nat.reduceLeDiff,qav,qnK,hdE,hdA,hdB,hdL,hall,hlen,hc,hap,← ha,hap2,bne,w2,hle,qam L hp,hp]
end
def qwE (l:Lab):Prop:=l.op=4∧l.kops.getD 0 0=2
theorem qv4 (e:List CExpr) (k:Int):qsx e k=opN e k.toNat:=by
 unfold qsx opN
 cases e[k.toNat]? <;> rfl
theorem qtH {e:List CExpr} {x:CExpr} (h:0<x.kids.length):qgH e x↔qwE (qd0 e x):=by
 unfold qgH qwE qd0
 dsimp only
 rw[List.getD_eq_getElem?_getD,List.getD_eq_getElem?_getD,List.getElem?_map,List.getElem?_eq_getElem h,Option.map_some,Option.getD_some,Option.getD_some,qv4]
theorem qmM {e:List CExpr} (hlab:∀ x∈e,qbM false (qd0 e x)=0) {x:CExpr} (hx:x∈e) (h4:x.op=4):0<x.kids.length:=by
 obtain⟨h1,_⟩:=qcl (hlab x hx)
 unfold qd0 at h1
 dsimp only at h1
 rw[List.length_map] at h1
 have:=qdr h1 h4
 omega
theorem qvL {e:List CExpr} (hz:qaO e=0) (h:∃ x∈qa6 (qbr e),qgH (qa6 (qbr e)) x):∃ x∈e,qgH e x:=by
 obtain⟨hT,_,_,hlab,_⟩:=qbc hz
 obtain⟨hT2,_,_,hlab2,_⟩:=qbc (qhZ hz)
 obtain⟨x,hx,hl⟩:=h
 have h1:=(qtH (qmM hlab2 hx hl.1)).1 hl
 have h2:qd0 (qa6 (qbr e)) x∈qbG (qbr (qa6 (qbr e))):=(qc8 _ hT2).mem_iff.2 (List.mem_map_of_mem hx)
 rw[qcK] at h2
 obtain⟨y,hy,he⟩:=List.mem_map.1 ((qc8 e hT).mem_iff.1 h2)
 rw[← he] at h1
 have h4:y.op=4:=h1.1
 exact⟨y,hy,(qtH (qmM hlab hy h4)).2 h1⟩
def qwJ (e:List CExpr) (x:CExpr):Bool:=x.op==4 && opN e (x.kids.getD 0 0).toNat==2
theorem qv5 (e:List CExpr):e.any (qwJ e)=true↔∃ x∈e,qgH e x:=by
 rw[List.any_eq_true]
 constructor
 ·rintro ⟨x,hx,h⟩
  unfold qwJ at h
  rw[Bool.and_eq_true,beq_iff_eq,beq_iff_eq] at h
  exact⟨x,hx,h⟩
 ·rintro ⟨x,hx,h⟩
  refine⟨x,hx,?_⟩
  unfold qwJ
  rw[Bool.and_eq_true,beq_iff_eq,beq_iff_eq]
  exact h
section
variable {L:Lib}
theorem qAh (hL:Plain L) (h337:L.fns 337=some fn337) (e:List CExpr) (hA:qdz e) (hlab:∀ x∈e,qbM false (qd0 e x)=0) (x:CExpr) (hx:x∈e) (h:Heap) :
  qce L.pure (call L) 337 [.agg [.int .i64 x.op,.int .i64 x.n,.list (x.binds.map qat) none,.list (x.kids.map qat) none,.list (x.alts.map qas) none],.vptr [.list (e.map qal) none] 0] h=some (.val (.bool (qwJ e x)),h):=by
 have hp:=hL.pure
 have hI:=qah
 have hAl:=qan
 have hdE:=qaD e
 have key:∀ h:Heap,pcall L 337 [.agg [.int .i64 x.op,.int .i64 x.n,.list (x.binds.map qat) none,.list (x.kids.map qat) none,.list (x.alts.map qas) none],.vptr [.list (e.map qal) none] 0] h=some (.val (.bool (qwJ e x)),h):=by
  intro h
  refine qaV hL h337 rfl ?_ h
  unfold qwJ
  by_cases h4:x.op=4
  case neg =>
   have b4:(x.op==4)=false:=by simpa using h4
   unfold fn337
   simp -implicitDefEqProofs only[ev_,aOp,opd,qaa,qaA,qaz,qab,qae,qag,qai,qap,qac,qaf,qaj,qay,↓reduceIte,Nat.reduceEqDiff,qak,b4]
  have b4:(x.op==4)=true:=by simpa using h4
  have hk:=qmM hlab hx h4
  obtain⟨i,hi,hxi⟩:=List.getElem_of_mem hx
  have hkb:=hA i hi (x.kids[0]) (by rw[hxi];exact List.getElem_mem _)
  have hk0:=hkb.1
  have hkl:x.kids[0].toNat<e.length:=by omega
  have hkz:(x.kids.map qat)[0]? = some (.int .i64 x.kids[0]):=by rw[List.getElem?_map,List.getElem?_eq_getElem hk];rfl
  have hge:x.kids.getD 0 0=x.kids[0]:=by rw[List.getD_eq_getElem?_getD,List.getElem?_eq_getElem hk];rfl
  have hfe:(e.map qal)[x.kids[0].toNat]? = some (qal (e[x.kids[0].toNat]'hkl)):=by rw[List.getElem?_map,List.getElem?_eq_getElem hkl];rfl
  rw[hge,qwH hkl]
  generalize e[x.kids[0].toNat]'hkl=f at *
  generalize x.kids[0]=ka at *
  cases bf:(f.op==2)<;>unfold fn337<;>simp -implicitDefEqProofs only[ev_,aOp,opd,qaa,qaA,qaz,qad,qab,qae,qag,qai,qap,qac,qaf,qaj,qay,↓reduceIte,Nat.reduceEqDiff,Nat.reduceAdd,Int.reduceToNat,qak,qaP,Int.le_refl,b4,hkz,hk0,hfe,bf]
 simp only[qam L hp,hp,qnG,qqz,qnF,qrd,qos,qtX,qrb,qtW,qoq,qpZ,qnD,qqB,qnC,qlu,qnE,qqA,qre,qlZ,qt2,aOp,opd,qwS,qrt,qn1,qpT,qaa,qar,qaA,qz4,qa7,qaz,aUn,aEq,qg4,qg3,qcQ,qad,qab,qae,qag,qaI,qaJ,qai,qnl,qqj,qbP,qbW,leaf,qlg,qpv,qlh,qrA,qjo,qlj,qjq,qli,qjn,qrz,qnn,qaq,qap,qac,qaf,qaj,qlv,gcE,qzx,qlN,qka,qqM,qlV,qkm,qqN,qax,ren,renC,qoM,qrl,qoO,qoN,qa0,qbb,qnU,qqR,qnW,qnV,qs5,qrc,qor,qay,qbs,qru,qpo,qpm,qrv,qws,qkT,qpj,qgv,qml,qpk,quQ,qrx,qds,qrw,qpn,qwr,qmk,qsu,qpi,quP,qaS,qfk,qfl,qj6,qh8,qrY,qlJ,qfG,qj7,qj9,qlL,qlK,qj8,qgY,qfF,qef,qAe,qzk,qzj,qAd,beq_self_eq_true,Option.map_some,Option.map_none,Option.getD_some,Option.getD_none,List.map_cons,List.map_nil,List.flatMap_cons,List.flatMap_nil,List.length_cons,List.length_nil,List.length_append,List.length_map,List.cons_append,List.nil_append,List.append_nil,List.append_assoc,List.getElem?_nil,List.getElem?_cons_zero,List.getElem?_cons_succ,List.set_cons_zero,List.set_cons_succ,List.take_succ_cons,List.take_zero,List.drop_succ_cons,List.drop_zero,List.take_nil,List.drop_nil,List.all_cons,List.all_nil,List.mem_cons,List.not_mem_nil,if_true,if_false,↓reduceIte,ite_true,ite_false,Bool.and_true,Bool.true_and,Bool.and_false,Bool.false_and,Bool.or_true,Bool.true_or,Bool.or_false,Bool.false_or,Bool.not_true,Bool.not_false,Bool.false_eq_true,Bool.true_eq_false,and_true,true_and,and_false,false_and,or_true,true_or,or_false,false_or,not_true_eq_false,not_false_eq_true,decide_true,decide_false,and_self,Nat.le_refl,Nat.zero_le,reduceCtorEq,Nat.add_zero,Nat.zero_add,Nat.reduceEqDiff,Nat.reduceAdd,Nat.reduceSub,Nat.reduceMul,Nat.reduceLT,Nat.reduceLeDiff,Int.reduceToNat,Int.reduceLE,Int.reduceLT,Int.reduceEq,Int.toNat_natCast,Int.natCast_nonneg,ne_eq,List.cons_ne_nil,qoR,qok,qiu,qjH,qnB,qns,qpx,qnJ,forall_const,implies_true,forall_eq_or_imp,forall_eq,List.map_append,qfs,Int.reduceBEq,Int.reduceBNe,Int.reduceGT,Int.reduceGE,Int.reduceNeg,Int.reduceAdd,Int.reduceNe,qwD,Int.cast_ofNat_Int,ge_iff_le,gt_iff_lt,qjM,qnH,qlD,qqL,qtr,frz,frzC,qiT,qdj,qdw,Option.isSome_some,Option.isSome_none,qav,qiV,List.all_append,qgB,qrh,ql9,qtu,qmf,qoo,qlo,ql3,qwL,qks,qjw,qaT,qaX,qaP,qa5,qah,qan,qaD,qbO,qbd,qd2,qcL,qnr,qjt,qak,qc9,qgs,qde,qff,Option.isNone_some,Option.isNone_none,qfZ,qry,qkS,qbp,qbX,qbK,qbY,qbT,Nat.mul_one,List.length_set,qlw,Int.le_refl,qc4,qtI,qr3,qpl,qst,hdE,key]
theorem qrX (hR:RLib L) (h335:L.fns 335=some fn335) (e:List CExpr) (hl:e.length<2 ^ 30) (hf:∀ x∈e,NodeFit x) (hz:qaO e≠0) (bud:Int) (h:Heap) :
  pcall L 335 [.list (e.map qal) none,.int .i64 bud] h=some (.val (.tuple [.list [] none,.list [] none,.int .i64 (qaO e)]),h):=by
 have hL:=hR.plain
 have hp:=hL.pure
 have hdE:=qaD e
 have hck:=qd3 hR.toCLib e hl hf
 refine qaV hL h335 rfl ?_ h
 have hne:(qaO e==0)=false:=by simpa using hz
 generalize qaO e=r at *
 unfold fn335
 simp -implicitDefEqProofs only[ev_,aOp,opd,qaa,qaA,qaz,qab,qap,qac,qaf,qaj,↓reduceIte,reduceCtorEq,Nat.reduceEqDiff,qav,qak,hck,hne,hdE,bne,qam L hp,hp]
theorem qtv (hR:RLib L) (h335:L.fns 335=some fn335) (h304:L.fns 304=some fn304) (h320:L.fns 320=some fn320) (h256:L.fns 256=some fn256) (h171:L.fns 171=some fn171) (h207:L.fns 207=some fn207) (h208:L.fns 208=some fn208) (h344:L.fns 344=some fn344)
  (e:List CExpr) (hl:e.length<2 ^ 30) (hf:∀ x∈e,NodeFit x) (hz:qaO e=0) :
  ∃ (F:List CExpr) (l:List (Int × Int)),(∀ h:Heap,pcall L 335 [.list (e.map qal) none,.int .i64 20] h=some (.val (.tuple [.list (F.map qal) none,.list (l.map qnK) none,.int .i64 0]),h))∧((¬ ∃ x∈e,qgH e x)→F=qa6 (qbr e)∧l=[]):=by
 have hL:=hR.plain
 have hp:=hL.pure
 have hdE:=qaD e
 have hck:=qd3 hR.toCLib e hl hf
 rw[hz] at hck
 obtain⟨hT,hn4,hh,hlab,_⟩:=qbc hz
 obtain⟨hft,hsz⟩:=qdQ hz hf
 have hgr:=fun h=>hR.grow e h hl hf hT (by omega)
 have hli:=hR.list (qbr e) hft (by omega)
 obtain⟨tc,htc,hdt⟩:=qbz (qbr e)
 rw[htc] at hgr hli
 obtain⟨F,l,hl0,hno⟩:=qwA hR h304 h320 h256 h171 h207 h208 h344 20 (by decide) 10 (qa6 (qbr e)) [] (qtT hz hf) (by decide) (by decide)
 refine⟨F,l,fun h=>?_,fun h=>hno fun hx=>h (qvL hz hx)⟩
 have hdG:=qaD (qa6 (qbr e))
 have hdF:=qaD F
 have hdL:=qmv l
 refine qaV hL h335 (by simp only[qfG,qfF,qgY,qaS,qaD,qmv,qh8,Bool.and_true]) ?_ h
 clear hno
 unfold ns nt at hl0
 generalize qa6 (qbr e)=G at *
 by_cases hq0:l=[]
 ·subst hq0
  simp only[List.length_nil,List.map_nil,qcn,qby] at hl0
  unfold fn335
  simp -implicitDefEqProofs only[ev_,aOp,opd,qaa,qaA,qaz,qab,qae,qap,qac,qaf,qaj,qax,ren,renC,qa0,qbb,↓reduceIte,reduceCtorEq,Nat.reduceEqDiff,Int.reduceLT,gt_iff_lt,qav,qak,hck,hgr,hli,hl0,hdE,hdF,hdG,hdt,bne,qgw,qam L hp,hp]
 ·obtain⟨q,hq⟩:∃ q,l.length=q+1:=⟨l.length-1,by have:=List.length_pos_iff.2 hq0;omega⟩
  have h1:qcn 0 l.length=some (some 0):=by rw[hq];rfl
  have h2:qby 3 l.length=[.tail l.length 3]:=by rw[hq];rfl
  rw[h1,h2] at hl0
  simp only[List.length_nil,List.map_nil,qcn,qby] at hl0
  unfold fn335
  simp -implicitDefEqProofs only[ev_,aOp,opd,qaa,qaA,qaz,qab,qae,qap,qac,qaf,qaj,qax,ren,renC,qa0,qbb,↓reduceIte,reduceCtorEq,Nat.reduceEqDiff,Int.reduceLT,gt_iff_lt,qav,qak,hck,hgr,hli,hl0,hdE,hdF,hdG,hdL,hdt,bne,qgw,qam L hp,hp]
theorem qmH (hR:RLib L) (hC:CLib2 L) (h327:L.fns 327=some fn327) (h276:L.fns 276=some fn276) (h290:L.fns 290=some fn290) (h337:L.fns 337=some fn337) (h335:L.fns 335=some fn335) (h304:L.fns 304=some fn304) (h320:L.fns 320=some fn320) (h256:L.fns 256=some fn256) (h171:L.fns 171=some fn171) (h207:L.fns 207=some fn207) (h208:L.fns 208=some fn208) (h344:L.fns 344=some fn344)
  (hfact:∀ h:Heap,pcall L 336 [] h=some (.val (.bool true),h)) (e:List CExpr) (hl:e.length<2 ^ 30) (hf:∀ x∈e,NodeFit x) (h:Heap) :
  pcall L 327 [.list (e.map qal) none] h=some (.val (.bool true),h):=by
 have hL:=hR.plain
 have hp:=hL.pure
 have hdE:=qaD e
 refine qaV hL h327 rfl ?_ h
 by_cases hz:qaO e=0
 case neg =>
  have hrun:=qrX hR h335 e hl hf hz 20
  have hne:(qaO e==0)=false:=by simpa using hz
  generalize qaO e=r at *
  unfold fn327
  simp -implicitDefEqProofs only[ev_,aOp,opd,qaa,qaA,qa7,qaz,qab,qae,qag,qap,qac,qaf,qaj,↓reduceIte,Nat.reduceEqDiff,qav,qak,hrun,hfact,hne,hdE,bne,qam L hp,hp]
 obtain⟨hT,hn4,hh,hlab,_⟩:=qbc hz
 obtain⟨F,l,hrun,hno⟩:=qtv hR h335 h304 h320 h256 h171 h207 h208 h344 e hl hf hz
 have hcon:=qzn hL h276 h290 (.func 337 [] [.vptr [.list (e.map qal) none] 0]) (by simp only[qaB,qaw,qaD,Bool.and_self]) ⟨_,_,_,rfl⟩ (qwJ e) e hl (fun x hx h=>qAh hL h337 e hT.ahead hlab x hx h)
 have hdF:=qaD F
 have hdL:=qmv l
 cases hq:e.any (qwJ e) with
 | true =>
   rw[hq] at hcon
   clear hno
   unfold fn327
   simp -implicitDefEqProofs only[ev_,aOp,opd,qaa,qaA,qaz,qab,qae,qag,leaf,qap,qac,qaf,qaj,↓reduceIte,Nat.reduceEqDiff,frz,frzC,qiT,qav,qak,hrun,hfact,hcon,hdE,hdF,hdL,bne,qam L hp,hp]
 | false =>
   rw[hq] at hcon
   obtain⟨rfl,rfl⟩:=hno fun hx=>by rw[(qv5 e).2 hx] at hq;cases hq
   obtain⟨hft,hsz⟩:=qdQ hz hf
   have hck:=qhZ hz
   have hsm:=qsl hC e (qa6 (qbr e)) hl hf (by unfold qa6;rw[qcV];omega) (qd8 _ 0 hft)
   have hsame:qro e (qa6 (qbr e))=true:=by
    unfold qro
    rw[hz,hck,qcK,(qoS (qbr e) [] (fun v w h=>by cases h)).1]
    rfl
   rw[hsame] at hsm
   generalize qa6 (qbr e)=G at *
   unfold fn327
   simp -implicitDefEqProofs only[ev_,aOp,opd,qaa,qaA,qa7,qaz,qab,qae,qag,leaf,qap,qac,qaf,qaj,↓reduceIte,Nat.reduceEqDiff,frz,frzC,qiT,qav,qak,hrun,hfact,hcon,hsm,hdE,hdF,bne,List.map_nil,qam L hp,hp]
end
end Go.Abs
