/-
  PARTS OF A PROOF, joined: an abstract machine for quiet code, its evaluation, and what the seat's functions answer on it. Conditions: none.
-/
import Derived.Test.YtpchghpipgpkfaaDoorRA
set_option linter.unusedVariables false
set_option linter.unusedSimpArgs false
set_option maxRecDepth 100000
set_option maxHeartbeats 4000000
namespace Go.Abs
theorem qcn (H:Heap) (n:Nat) {xs:List AVal} (h:qax xs=true) (o:Option (Option Nat)):qaV H (n+1) (.list xs o)=.list xs none:=by
 by_cases hd:qaH (.list xs o)=true
 ·rw[qbG hd];rfl
 ·rw[qaV,if_neg hd]
  show (if qax xs=true then AVal.list xs none else _)=_
  rw[if_pos h]
theorem RA.viewL (H:Heap) (n:Nat) {l:List CAlt} {v:List AVal} {oa:Option (Option Nat)} (h:RA l v):qaV H (n+1) (.list v oa)=.list (l.map qas) none:=by
 rw[show v=_ from h]
 exact qcn H n (qap l) oa
theorem WS.view {H:Heap} {S:Nat→Prop} {t:CTree} {p:Nat} (h:WS H S t p):∀ n,2*hgt t+2≤n→qaV H n (qar p)=qao t:=by
 induction h with
 | mk op n binds kids alts p ps ob ok avs oa hp hbox ha hl hk ih =>
   intro m hm
   rw[hgt] at hm
   obtain⟨q,rfl⟩:∃ q,m=q+1+1+1:=⟨m-3,by omega⟩
   unfold qar
   rw[qaV,if_neg (by simp[qaH])]
   unfold qcx
   dsimp only
   rw[hbox]
   dsimp only
   have hlf:([.int .i64 op,.int .i64 n,.list (binds.map qav) ob,.list (ps.map qar) ok,.list avs oa]:List AVal).all leaf=true:=rfl
   rw[if_pos hlf]
   simp only[List.map_cons,List.map_nil]
   rw[qbG (v:=.int .i64 op) rfl,qbG (v:=.int .i64 n) rfl,qcn H _ (qah binds),ha.viewL,qbj]
   have hkids:qaV H (q+1+1) (.list (ps.map qar) ok)=.list (kids.map qao) none:=by
    have hmap:(ps.map qar).map (qaV H (q+1))=kids.map qao:=by
     refine List.ext_getElem (by simp[hl]) fun i h1 h2=>?_
     have hi:i<kids.length:=by simpa using h2
     rw[List.getElem_map,List.getElem_map,List.getElem_map]
     refine ih i hi _ ?_
     have:=qdK (List.getElem_mem hi)
     have:0<hgt kids[i]:=by generalize kids[i]=t';cases t';rw[hgt];omega
     omega
    cases hps:ps with
    | nil =>
      have hk0:kids=[]:=List.length_eq_zero_iff.1 (by rw[← hl,hps];rfl)
      subst hk0
      exact qcn H _ rfl ok
    | cons p0 ps' =>
      rw[hps] at hmap
      have hnd:qax ((p0::ps').map qar)=false:=by rw[List.map_cons,qax];simp[qar,qaH]
      rw[qaV,if_neg (qll (by rw[hnd];simp) ok)]
      generalize hW:(p0::ps').map qar=W at hmap hnd
      show (if qax W=true then AVal.list W none else if (W.map fun x=>(acells (qaV H (q+1) x)).length)=W.map fun x=>(acells x).length then AVal.list (W.map (qaV H (q+1))) none else .junk)=_
      rw[if_neg (by rw[hnd];simp),if_pos,hmap]
      have e1:(W.map fun x=>(acells (qaV H (q+1) x)).length)=(W.map (qaV H (q+1))).map fun y=>(acells y).length:=by rw[List.map_map];rfl
      rw[e1,hmap,← hW,List.map_map,List.map_map]
      have:(kids.map ((fun y=>(acells y).length) ∘ qao))=kids.map fun _=>1:=List.map_congr_left fun t _=>by
       show (acells (qao t)).length=1
       rw[qer];rfl
      have h2:((p0::ps').map ((fun x=>(acells x).length) ∘ qar))=(p0::ps').map fun _=>1:=rfl
      rw[this,h2,List.map_const',List.map_const',← hl,hps]
   rw[hkids]
   rfl
theorem WS.look {H:Heap} {S:Nat→Prop} {t:CTree} {p:Nat} (h:WS H S t p) (hh:hgt t≤900):viewV H (qar p)=qao t:=h.view _ (by omega)
theorem WS.lookV {H:Heap} {S:Nat→Prop} {t:CTree} {p:Nat} (h:WS H S t p) (hh:hgt t≤900):Go.Abs.lookV H (.ptr (some (p,0)))=qao t:=by
 unfold Go.Abs.lookV
 show wipe (viewV H (qar p))=_
 rw[h.look hh]
 obtain⟨tc,htc,_⟩:=qbC t
 rw[htc]
 rfl
def qsw (op:Int) (n:Nat):Bool:=op==0 || (op==1 || (op==6 && ((n:Int)==0)))
def qge:CTree→Bool
 | .mk op _ _ kids _=>qsw op kids.length
theorem qjW (op n:Int) (binds:List Int) (kids:List CTree) (alts:List CAlt):qge (.mk op n binds kids alts)=qsw op kids.length:=rfl
mutual
def qeF:CTree→Bool
 | .mk op _ _ kids _=>if qsw op kids.length || op==2 then true else if op==5 then qf1 kids else if op==6 || (op==9 || op==4) then qhv kids else false
def qhv:List CTree→Bool
 | []=>true
 | k::ks=>qeF k && qhv ks
def qf1:List CTree→Bool
 | []=>true
 | k::ks=>if ks.isEmpty then qeF k else qf1 ks
end
mutual
def qhs (id:Int):CTree→Nat
 | .mk op n _ kids _=>if op=0 then (if n=id then 1 else 0) else qeS id kids
def qeS (id:Int):List CTree→Nat
 | []=>0
 | k::ks=>qhs id k+qeS id ks
end
theorem qjO:∀ kids:List CTree,kids≠[]→qf1 kids=qhv (kids.drop (kids.length-1))
 | [],h=>absurd rfl h
 | [k],_=>by simp[qf1,qhv]
 | k :: k2 :: ks,_ => by
   rw[qf1]
   simp only[List.isEmpty_cons,Bool.false_eq_true,if_false,List.length_cons,Nat.add_sub_cancel,List.drop_succ_cons]
   rw[qjO (k2::ks) (by simp)]
   simp
theorem qlU:∀ ks:List CTree,qhv ks = !(ks.any fun k => !qeF k)
 | []=>rfl
 | k::ks=>by rw[qhv,qlU ks,List.any_cons];cases qeF k<;>simp
inductive ShT:CTree→Prop
 | mk (op n:Int) (binds:List Int) (kids:List CTree) (alts:List CAlt) (hs:qa2 op n binds.length kids.length alts=true) (h:∀ k∈kids,ShT k):ShT (.mk op n binds kids alts)
theorem qcE {op n:Int} {bl kl:Nat} {as:List CAlt} (h:qa2 op n bl kl as=true) (h0:op=4):kl=2∧bl=1∧n=0∧as.length=0:=by
 subst h0
 have e:qa2 4 n bl kl as=qbN n bl kl as.length (2,1,false):=rfl
 rw[e] at h
 unfold qbN at h
 simp only[Bool.and_eq_true,beq_iff_eq,Bool.false_or] at h
 omega
section
variable {L:Lib} (hL:Plain L)
include hL
theorem qql (h315:L.fns 315=some fn315) (t:CTree) (h:Heap):pcall L 315 [qao t] h=some (.val (.bool (qge t)),h):=by
 refine qaX hL h315 rfl ?_ h
 obtain⟨op,n,binds,kids,alts⟩:=t
 unfold qge qsw
 rw[qbj]
 have hK:=qbi kids
 cases h0:(op==0)<;>cases h1:(op==1)<;>cases h6:(op==6)<;>cases hk:(((kids.length:Nat):Int)==0)<;>unfold fn315<;>simp -implicitDefEqProofs only[ev_,aOp,opd,qaa,qaB,qbd,qaA,qab,qaf,qag,qai,qan,qac,qae,qaj,↓reduceIte,reduceCtorEq,Nat.reduceEqDiff,qak,h0,h1,h6,hk,hK]
theorem qpX (kids:List CTree) (hk:kids.length<2 ^ 30) (ih:∀ k∈kids,∀ h:Heap,pcall L 317 [qao k] h=some (.val (.bool (qeF k)),h)) :
  qba L.pure (call L) 0 [34,35,36] [2] 1 qio ⟨kt [34,35,36] [.list (kids.map qao) none,.int .i64 kids.length,.int .i64 ((0:Nat):Int)],[]⟩=some (if (kids.any fun k => !qeF k)=true then (.ret,⟨kt [2] [.bool false],[]⟩) else (.normal,⟨kt [2] [.junk],[]⟩)):=by
 have hp:=hL.pure
 refine qe9 kids (fun k => !qeF k) (fun i=>⟨kt [34,35,36] [.list (kids.map qao) none,.int .i64 kids.length,.int .i64 i],[]⟩) _ _ ?_ ?_ ?_
 ·intro i hi hq
  obtain⟨h1,h2,h3⟩:=qaN qao kids hk i hi
  have hc:=ih kids[i] (List.getElem_mem hi)
  have hq':qeF kids[i]=true:=by simpa using hq
  rw[hq'] at hc
  obtain⟨tc,htc,hdt⟩:=qbC kids[i]
  rw[htc] at h3 hc
  unfold qio
  simp -implicitDefEqProofs only[ev_,aOp,opd,qaa,qaB,qaA,aUn,qad,qab,qag,qaC,ren,renC,qa9,qbq,↓reduceIte,Nat.reduceEqDiff,qaw,qbi,h1,h2,h3,hc,hdt,qal L hp,hp]
 ·intro i hi hq
  obtain⟨h1,h2,h3⟩:=qaN qao kids hk i hi
  have hc:=ih kids[i] (List.getElem_mem hi)
  have hq':qeF kids[i]=false:=by simpa using hq
  rw[hq'] at hc
  obtain⟨tc,htc,hdt⟩:=qbC kids[i]
  rw[htc] at h3 hc
  unfold qio
  simp -implicitDefEqProofs only[ev_,aOp,opd,qaa,qaB,qaA,aUn,qad,qab,qag,gcE,qaC,ren,renC,qa9,qbq,↓reduceIte,Nat.reduceEqDiff,qaw,h1,h2,h3,hc,hdt,qal L hp,hp]
 ·have h0:=qaQ kids.length
  unfold qio
  simp -implicitDefEqProofs only[ev_,aOp,opd,qaa,qaB,qaA,qab,gcE,qaC,ren,renC,qa9,qbq,↓reduceIte,Nat.reduceEqDiff,h0]
theorem qiM (h315:L.fns 315=some fn315) (h317:L.fns 317=some fn317) (t:CTree) (hf:TFit t) (hr:ShT t):∀ h:Heap,pcall L 317 [qao t] h=some (.val (.bool (qeF t)),h):=by
 have hp:=hL.pure
 induction t using CTree.ind with
 | h op n binds kids alts ih =>
   intro h
   cases hf with
   | mk _ _ _ _ _ hb hk hal hfk =>
   cases hr with
   | mk _ _ _ _ _ hsh hrk =>
   have ih':=fun k hk=>ih k hk (hfk k hk) (hrk k hk)
   have hat:=qql hL h315 (.mk op n binds kids alts)
   have hK:=qbi kids
   have hA:=qap alts
   refine qaX hL h317 rfl ?_ h
   rw[qjW] at hat
   rw[qeF]
   rw[qbj] at hat ⊢
   have hl0:=qpX hL kids hk ih'
   simp only[Int.natCast_zero] at hl0
   cases ha:qsw op kids.length with
   | true =>
     rw[ha] at hat
     unfold fn317
     simp -implicitDefEqProofs only[ev_,aOp,opd,qaf,qan,qac,qae,qaj,↓reduceIte,reduceCtorEq,Nat.reduceEqDiff,qaw,qak,qah,hat,hK,hA,qal L hp,hp]
   | false =>
     rw[ha] at hat
     cases h2:(op==2) with
     | true =>
       unfold fn317
       simp -implicitDefEqProofs only[ev_,aOp,opd,qaa,qaB,qaA,qab,qaf,qag,qai,qan,qac,qae,qaj,↓reduceIte,reduceCtorEq,Nat.reduceEqDiff,qaw,qak,qah,hat,h2,hK,hA,qal L hp,hp]
     | false =>
       cases e5:(op==5) with
       | true =>
         have hne:kids≠[]:=by
          have:=qdT hsh (by simpa using e5)
          rw[← List.length_pos_iff];omega
         have hpos:=List.length_pos_iff.2 hne
         have hl1:=qpX hL (kids.drop (kids.length-1)) (by simp;omega) (fun k hk=>ih' k (List.mem_of_mem_drop hk))
         simp only[Int.natCast_zero] at hl1
         have hdr:kids.take kids.length=kids:=List.take_length
         have w:IntKind.i64.wrap ((kids.length:Int)-1)=((kids.length-1:Nat):Int):=by rw[qcy (by omega) (by omega)];omega
         have hle:((kids.length-1:Nat):Int)≤kids.length:=by omega
         have hall:=qos kids
         have hmd:((kids.map qao).take kids.length).drop (kids.length-1)=(kids.drop (kids.length-1)).map qao:=by
          rw[List.take_of_length_le (by simp),List.map_drop]
         have hln:(((kids.drop (kids.length-1)).length:Nat):Int)=1:=by simp;omega
         rw[qjO kids hne,qlU]
         simp only[hln] at hl1
         have hKd:=qbi (kids.drop (kids.length-1))
         generalize kids.drop (kids.length-1)=kd at *
         cases hq:(kd.any fun k => !qeF k)<;>rw[hq] at hl1<;>unfold fn317<;>simp -implicitDefEqProofs only[ev_,aOp,opd,qaa,qaB,qbd,qaA,qab,qaf,qag,qai,qan,qac,qae,qaj,qaC,ren,renC,qa9,qbq,↓reduceIte,reduceCtorEq,Nat.reduceEqDiff,qdo,qdQ,qaw,qak,qah,qbi,Int.le_refl,hat,h2,e5,hK,hA,hl1,w,hle,hall,hmd,hln,qal L hp,hp,Bool.not_true,Bool.not_false]
       | false =>
         rw[qlU]
         cases e6:(op==6)<;>cases e9:(op==9)<;>cases e4:(op==4)<;>cases hq:(kids.any fun k => !qeF k)<;>rw[hq] at hl0<;>unfold fn317<;>simp -implicitDefEqProofs only[ev_,aOp,opd,qaa,qaB,qbd,qaA,qab,qaf,qag,qai,qan,qac,qae,qaj,qaC,ren,renC,qa9,qbq,↓reduceIte,reduceCtorEq,Nat.reduceEqDiff,qaw,qak,qah,hat,h2,e5,e6,e9,e4,hK,hA,hl0,qal L hp,hp,Bool.not_true,Bool.not_false]
end
def qCe (H:Heap) (p q:Nat):Prop:=∃ (a b c:AVal) (ps:List Nat) (ok:Option (Option Nat)) (d:AVal),H[p]? = some (.box [a,b,c,.list (ps.map qar) ok,d])∧q∈ps
inductive Reach (H:Heap):Nat→Nat→Prop
 | refl (p:Nat):Reach H p p
 | step {p q r:Nat} (h:qCe H p q) (hr:Reach H q r):Reach H p r
def qkl (H:Heap) (id:Int) (q:Nat):Prop:=∃ c k a,H[q]? = some (.box [.int .i64 0,.int .i64 id,c,k,a])
theorem qkg {ps qs:List Nat} (h:ps.map qar=qs.map qar):ps=qs:=by
 induction ps generalizing qs with
 | nil => cases qs with
   | nil=>rfl
   | cons q qs=>simp at h
 | cons p ps ih => cases qs with
   | nil=>simp at h
   | cons q qs =>
     rw[List.map_cons,List.map_cons] at h
     injection h with h1 h2
     unfold qar at h1
     simp at h1
     rw[h1,ih h2]
mutual
theorem qvj (id:Int):∀ t:CTree,qhs id t≤qaJ t
 | .mk op n binds kids alts => by
   rw[qhs,qaJ]
   have:=qnR id kids
   split
   ·split<;>omega
   ·omega
theorem qnR (id:Int):∀ ts:List CTree,qeS id ts≤qaF ts
 | []=>by rw[qeS];omega
 | t :: ts => by
   rw[qeS,qaF]
   have:=qvj id t
   have:=qnR id ts
   omega
end
theorem qmX (id:Int) (kids:List CTree) {j:Nat} (hj:j<kids.length):qeS id (kids.take (j+1))=qeS id (kids.take j)+qhs id kids[j]:=by
 induction kids generalizing j with
 | nil=>simp at hj
 | cons k ks ih =>
   cases j with
   | zero=>simp[qeS]
   | succ j =>
     simp only[List.take_succ_cons,List.getElem_cons_succ,qeS]
     rw[ih (by simpa using hj)]
     omega
theorem qCq {b:Nat} {H0 H:Heap} (h:∀ i,i<b→H[i]? = H0[i]?) {p:Nat} (hp:p<b) {o:AObj} (ho:H0[p]? = some o):H[p]? = some o:=by rw[h p hp];exact ho
section
variable {L:Lib} (hL:Plain L)
include hL
theorem qB3 (h314:L.fns 314=some fn314) (id:Int) (t:CTree) (hf:TFit t) (hr:ShT t) (hsz:qaJ t<2 ^ 30):∀ (H0 H:Heap) (b p:Nat),WT H0 b t p→b≤H.length→(∀ i,i<b→H[i]? = H0[i]?) →
  ∃ (H':Heap) (l:List Nat) (own:Option (Option Nat)),call L 314 [qar p,.int .i64 id] H=some (.val (.list (l.map qar) own),H')∧l.length=qhs id t∧(∀ q∈l,qkl H0 id q∧Reach H0 p q∧q<b)∧(∀ q,Reach H0 p q→qkl H0 id q→q∈l)∧H.length≤H'.length∧∀ i,i<H.length→H'[i]? = H[i]? := by
 have hs:=hL.summ 314 (by rw[h314];simp)
 induction t using CTree.ind with
 | h op n binds kids alts ih =>
   intro H0 H b p hw hbl hag
   cases hf with
   | mk _ _ _ _ _ hb hk hal hfk =>
   cases hr with
   | mk _ _ _ _ _ hsh hrk =>
   cases hw with
   | mk _ _ _ _ _ _ ps ob ok avs oa hp hbox ha hl hkw =>
   rw[qaJ] at hsz
   have hbx:=qCq hag hp hbox
   rw[qhs]
   by_cases h0:op=0
   ·rw[if_pos h0]
    have hk0:kids=[]:=List.length_eq_zero_iff.1 (qpI (h0 ▸ hsh))
    subst hk0
    have hps:ps=[]:=List.length_eq_zero_iff.1 (by rw[hl];rfl)
    subst hps
    have hreach:∀ q,Reach H0 p q→q=p:=by
     intro q hq
     cases hq with
     | refl=>rfl
     | step h _ =>
       obtain⟨a',b',c',ps',ok',d',e1,e2⟩:=h
       rw[hbox] at e1
       injection e1 with e1
       injection e1 with e1
       simp only[List.cons.injEq,AVal.list.injEq] at e1
       obtain⟨_,_,_,⟨e3,_⟩,_⟩:=e1
       have:=qkg (ps:=[]) e3
       subst this
       cases e2
    subst h0
    by_cases hn:n=id
    ·subst hn
     rw[if_pos rfl]
     refine⟨H,[p],some none,?_,rfl,fun q hq=>?_,fun q hq _=>by rw[hreach q hq];simp,Nat.le_refl _,fun _ _=>rfl⟩
     ·refine qaL hs h314 ?_
      have e1:(n==n)=true:=by simp
      unfold qar at *
      unfold fn314
      simp -implicitDefEqProofs only[ev_,aOp,opd,qaa,qaB,qaA,qab,qag,qai,leaf,qan,qac,qae,qaj,↓reduceIte,reduceCtorEq,Nat.reduceEqDiff,hbx,e1]
     ·rw[List.mem_singleton.1 hq]
      exact⟨⟨_,_,_,hbox⟩,.refl p,hp⟩
    ·rw[if_neg hn]
     refine⟨H,[],some none,?_,rfl,fun q hq=>(by cases hq),fun q hq hv=>?_,Nat.le_refl _,fun _ _=>rfl⟩
     ·refine qaL hs h314 ?_
      have e1:(n==id)=false:=by simpa using hn
      unfold qar at *
      unfold fn314
      simp -implicitDefEqProofs only[ev_,aOp,opd,qaa,qaB,qaA,qab,qag,qai,qan,qac,qae,qaj,↓reduceIte,reduceCtorEq,Nat.reduceEqDiff,hbx,e1]
     ·rw[hreach q hq] at hv
      obtain⟨c,k,a,e⟩:=hv
      rw[hbox] at e
      simp at e
      exact absurd e.1 hn
   ·rw[if_neg h0]
    have h0':(op==0)=false:=by simpa using h0
    have hloop:∀ bb,∃ T,qba L.pure (call L) bb [1000000,1,5,24,25,26] [1000000,5] 0 qdj ⟨kt [1,5,24,25,26] [.int .i64 id,.list [] (some none),.list (ps.map qar) ok,.int .i64 ps.length,.int .i64 0],H⟩=some (.normal,T) ∧
     ∃ (H':Heap) (l:List Nat) (own:Option (Option Nat)),T=⟨kt [5] [.list (l.map qar) own],H'⟩∧l.length=qeS id kids∧(∀ q∈l,qkl H0 id q∧Reach H0 p q∧q<b)∧(∀ (i:Nat) (hi:i<ps.length),∀ q,Reach H0 ps[i] q→qkl H0 id q→q∈l)∧H.length≤H'.length∧∀ i,i<H.length→H'[i]? = H[i]? := by
     intro bb
     refine qbQ (pure:=L.pure) (call:=call L) (b:=bb) (id:=0) (body:=qdj)
      (fun j s=>∃ (H':Heap) (l:List Nat) (own:Option (Option Nat)),s=⟨kt [1,5,24,25,26] [.int .i64 id,.list (l.map qar) own,.list (ps.map qar) ok,.int .i64 ps.length,.int .i64 j],H'⟩∧OwnT H' own l.length 1∧Young H.length own∧l.length=qeS id (kids.take j)∧(∀ q∈l,qkl H0 id q∧Reach H0 p q∧q<b) ∧
       (∀ (i:Nat) (hi:i<ps.length),i<j→∀ q,Reach H0 ps[i] q→qkl H0 id q→q∈l)∧H.length≤H'.length∧∀ i,i<H.length→H'[i]? = H[i]?) ps.length _ ?_ ?_ ?_
     ·intro j s hj hs'
      obtain⟨H',l,own,rfl,hown,hyo,hlen,hl1,hl2,hle,hkp⟩:=hs'
      obtain⟨h1,h2,h3⟩:=qaN qar ps (by omega) j hj
      have hjk:j<kids.length:=by omega
      obtain⟨H2,l2,own2,c1,c2,c3,c4,c5,c6⟩:=ih kids[j] (List.getElem_mem hjk) (hfk _ (List.getElem_mem hjk)) (hrk _ (List.getElem_mem hjk)) (by
       have h5:=qlS kids (j+1)
       have h6:=(qhM kids j 0 hjk).2.2
       omega) H0 H' b ps[j] (hkw j hjk) (by omega) (fun i hi=>by rw[hkp i (by omega),hag i hi])
      have hown2:OwnT H2 own (l.map qar).length 1:=by
       rw[List.length_map]
       refine hown.frame fun id hid=>c6 id ?_
       rcases hown with h | ⟨t,h5,h6⟩
       ·rw[h] at hid;cases hid
       ·rw[h5] at hid
        injection hid with hid
        injection hid with hid
        subst hid
        exact hlt h6
      have ho1:=qmX id kids hjk
      have ho2:=qnR id (kids.take (j+1))
      have ho3:=qlS kids (j+1)
      obtain⟨own3,H3,ha3,hA3⟩:=qeQ H2 1 8 (l.map qar) (l2.map qar) own own2 hown2 (qfr l) (qfr l2) (by rw[List.length_map,List.length_map];omega)
      rw[List.length_map,List.length_map] at hA3
      have hmap:(l++l2).map qar=l.map qar++l2.map qar:=List.map_append
      obtain⟨r,hr0⟩:∃ r,qbc L.pure (call L) bb [1000000,1,5,24,25,26] [1000000,5] qdj ⟨kt [1,5,24,25,26] [.int .i64 id,.list (l.map qar) own,.list (ps.map qar) ok,.int .i64 ps.length,.int .i64 j],H'⟩=r:=⟨_,rfl⟩
      have hr:=hr0
      have hpj:Reach H0 p ps[j]:=.step ⟨_,_,_,ps,ok,_,hbox,List.getElem_mem hj⟩ (.refl _)
      have hst:∀ q,Reach H0 ps[j] q→Reach H0 p q:=fun q hq=>.step ⟨_,_,_,ps,ok,_,hbox,List.getElem_mem hj⟩ hq
      have hl3:=hA3.len
      generalize hqj:ps[j]=qj at *
      have h3':(ps.map qar)[j]? = some (.ptr (some (qj,0))):=h3
      have c1':call L 314 [.ptr (some (qj,0)),.int .i64 id] H'=some (.val (.list (l2.map qar) own2),H2):=c1
      unfold qdj at hr
      simp -implicitDefEqProofs only[ev_,aOp,opd,qaa,qaB,qaA,qad,qab,qag,↓reduceIte,Nat.reduceEqDiff,h1,h2,h3',c1',ha3] at hr
      subst hr
      refine⟨_,hr0,H3,l++l2,own3,by rw[hmap],by rw[List.length_append];exact hA3.owns,hA3.young (by omega) hyo,by rw[List.length_append,hlen,c2,ho1],?_,?_,by omega,?_⟩
      ·intro q hq
       rcases List.mem_append.1 hq with h | h
       ·exact hl1 q h
       ·exact⟨(c3 q h).1,hst q (c3 q h).2.1,(c3 q h).2.2⟩
      ·intro i hi hij q hq hv
       by_cases hh:i<j
       ·exact List.mem_append_left _ (hl2 i hi hh q hq hv)
       ·have:i=j:=by omega
        subst this
        rw[hqj] at hq
        exact List.mem_append_right _ (c4 q hq hv)
      ·intro i hi
       rw[hA3.keep i (by omega) (hyo.ne hi),c6 i (by omega)]
       exact hkp i hi
     ·intro s hs'
      obtain⟨H',l,own,rfl,hown,hyo,hlen,hl1,hl2,hle,hkp⟩:=hs'
      have h0:=qaQ ps.length
      rw[hl,List.take_length] at hlen
      refine⟨_,?_,H',l,own,rfl,hlen,hl1,fun i hi=>hl2 i hi hi,hle,hkp⟩
      unfold qdj
      simp -implicitDefEqProofs only[ev_,aOp,opd,qaa,qaB,qaA,qab,gcE,↓reduceIte,Nat.reduceEqDiff,h0]
     ·exact⟨H,[],some none,rfl,.inl rfl,.inl rfl,by simp[qeS],fun q hq=>(by cases hq),fun i hi hij=>absurd hij (Nat.not_lt_zero _),Nat.le_refl _,fun _ _=>rfl⟩
    obtain⟨T,g1,H',l,own,rfl,g2,g3,g4,g5,g6⟩:=hloop H.length
    refine⟨H',l,own,?_,g2,g3,fun q hq hv=>?_,g5,g6⟩
    ·refine qaL hs h314 ?_
     rw[show qar p=.ptr (some (p,0)) from rfl]
     unfold fn314
     simp -implicitDefEqProofs only[ev_,aOp,opd,qaa,qaB,qbd,qaA,qab,qag,qai,qan,qac,qae,qaj,↓reduceIte,reduceCtorEq,Nat.reduceEqDiff,hbx,h0',g1]
    ·cases hq with
     | refl =>
       obtain⟨c,k,a,e⟩:=hv
       rw[hbox] at e
       simp at e
       exact absurd e.1 h0
     | step h hq' =>
       obtain⟨a',b',c',ps',ok',d',e1,e2⟩:=h
       rw[hbox] at e1
       injection e1 with e1
       injection e1 with e1
       simp only[List.cons.injEq,AVal.list.injEq] at e1
       obtain⟨_,_,_,⟨e3,_⟩,_⟩:=e1
       have:=qkg e3
       subst this
       obtain⟨i,hi,rfl⟩:=List.getElem_of_mem e2
       exact g4 i hi q hq' hv
end
section
variable {L:Lib} (hL:Plain L)
include hL
theorem qB2 (h314:L.fns 314=some fn314) (id:Int) (t:CTree) (hf:TFit t) (hr:ShT t) (hsz:qaJ t<2 ^ 30):∀ H:Heap,
  ∃ (H':Heap) (l:List AVal) (own:Option (Option Nat)),call L 314 [qao t,.int .i64 id] H=some (.val (.list l own),H')∧l.length=qhs id t∧qax l=true∧(l.all fun v=>decide ((acells v).length=1))=true∧H.length≤H'.length∧∀ i,i<H.length→H'[i]? = H[i]? := by
 have hs:=hL.summ 314 (by rw[h314];simp)
 induction t using CTree.ind with
 | h op n binds kids alts ih =>
   intro H
   cases hf with
   | mk _ _ _ _ _ hb hk hal hfk =>
   cases hr with
   | mk _ _ _ _ _ hsh hrk =>
   rw[qaJ] at hsz
   rw[qhs]
   have hdT:=qbY (.mk op n binds kids alts)
   rw[qbj] at hdT ⊢
   by_cases h0:op=0
   ·rw[if_pos h0]
    subst h0
    by_cases hn:n=id
    ·subst hn
     rw[if_pos rfl]
     refine⟨H,[.vptr [.int .i64 0,.int .i64 n,.list (binds.map qav) none,.list (kids.map qao) none,.list (alts.map qas) none] 0],some none,?_,rfl,by rw[qax,hdT];rfl,rfl,Nat.le_refl _,fun _ _=>rfl⟩
     refine qaL hs h314 ?_
     have e1:(n==n)=true:=by simp
     unfold fn314
     simp -implicitDefEqProofs only[ev_,aOp,opd,qaa,qaB,qaA,qab,qag,qai,leaf,qan,qac,qae,qaj,↓reduceIte,reduceCtorEq,Nat.reduceEqDiff,e1]
    ·rw[if_neg hn]
     refine⟨H,[],some none,?_,rfl,rfl,rfl,Nat.le_refl _,fun _ _=>rfl⟩
     refine qaL hs h314 ?_
     have e1:(n==id)=false:=by simpa using hn
     unfold fn314
     simp -implicitDefEqProofs only[ev_,aOp,opd,qaa,qaB,qaA,qab,qag,qai,qan,qac,qae,qaj,↓reduceIte,reduceCtorEq,Nat.reduceEqDiff,e1]
   ·rw[if_neg h0]
    have h0':(op==0)=false:=by simpa using h0
    have hloop:∀ bb,∃ T,qba L.pure (call L) bb [1000000,1,5,24,25,26] [1000000,5] 0 qdj ⟨kt [1,5,24,25,26] [.int .i64 id,.list [] (some none),.list (kids.map qao) none,.int .i64 kids.length,.int .i64 0],H⟩=some (.normal,T) ∧
     ∃ (H':Heap) (l:List AVal) (own:Option (Option Nat)),T=⟨kt [5] [.list l own],H'⟩∧l.length=qeS id kids∧qax l=true∧(l.all fun v=>decide ((acells v).length=1))=true∧H.length≤H'.length∧∀ i,i<H.length→H'[i]? = H[i]? := by
     intro bb
     refine qbQ (pure:=L.pure) (call:=call L) (b:=bb) (id:=0) (body:=qdj)
      (fun j s=>∃ (H':Heap) (l:List AVal) (own:Option (Option Nat)),s=⟨kt [1,5,24,25,26] [.int .i64 id,.list l own,.list (kids.map qao) none,.int .i64 kids.length,.int .i64 j],H'⟩∧OwnT H' own l.length 1∧Young H.length own∧l.length=qeS id (kids.take j)∧qax l=true∧(l.all fun v=>decide ((acells v).length=1))=true∧H.length≤H'.length∧∀ i,i<H.length→H'[i]? = H[i]?) kids.length _ ?_ ?_ ?_
     ·intro j s hj hs'
      obtain⟨H',l,own,rfl,hown,hyo,hlen,hl1,hl2,hle,hkp⟩:=hs'
      obtain⟨h1,h2,h3⟩:=qaN qao kids (by omega) j hj
      have h5:=qlS kids (j+1)
      have h6:=(qhM kids j 0 hj).2.2
      obtain⟨H2,l2,own2,c1,c2,c3,c4,c5,c6⟩:=ih kids[j] (List.getElem_mem hj) (hfk _ (List.getElem_mem hj)) (hrk _ (List.getElem_mem hj)) (by omega) H'
      have hown2:OwnT H2 own l.length 1:=hown.frame fun id hid=>c6 id (by
       rcases hown with h | ⟨t,h5,h6⟩
       ·rw[h] at hid;cases hid
       ·rw[h5] at hid
        injection hid with hid
        injection hid with hid
        subst hid
        exact hlt h6)
      have ho1:=qmX id kids hj
      have ho2:=qnR id (kids.take (j+1))
      obtain⟨own3,H3,ha3,hA3⟩:=qeQ H2 1 8 l l2 own own2 hown2 hl2 c4 (by omega)
      obtain⟨r,hr0⟩:∃ r,qbc L.pure (call L) bb [1000000,1,5,24,25,26] [1000000,5] qdj ⟨kt [1,5,24,25,26] [.int .i64 id,.list l own,.list (kids.map qao) none,.int .i64 kids.length,.int .i64 j],H'⟩=r:=⟨_,rfl⟩
      have hr:=hr0
      have hl3:=hA3.len
      obtain⟨tc,htc,hdt⟩:=qbC kids[j]
      rw[htc] at h3 c1
      unfold qdj at hr
      simp -implicitDefEqProofs only[ev_,aOp,opd,qaa,qaB,qaA,qad,qab,qag,↓reduceIte,Nat.reduceEqDiff,h1,h2,h3,c1,ha3] at hr
      subst hr
      refine⟨_,hr0,H3,l++l2,own3,rfl,by rw[List.length_append];exact hA3.owns,hA3.young (by omega) hyo,by rw[List.length_append,hlen,c2,ho1],by rw[qhq,hl1,c3];rfl,by rw[List.all_append,hl2,c4];rfl,by omega,?_⟩
      intro i hi
      rw[hA3.keep i (by omega) (hyo.ne hi),c6 i (by omega)]
      exact hkp i hi
     ·intro s hs'
      obtain⟨H',l,own,rfl,hown,hyo,hlen,hl1,hl2,hle,hkp⟩:=hs'
      have h0:=qaQ kids.length
      rw[List.take_length] at hlen
      refine⟨_,?_,H',l,own,rfl,hlen,hl1,hl2,hle,hkp⟩
      unfold qdj
      simp -implicitDefEqProofs only[ev_,aOp,opd,qaa,qaB,qaA,qab,gcE,↓reduceIte,Nat.reduceEqDiff,h0]
     ·exact⟨H,[],some none,rfl,.inl rfl,.inl rfl,by simp[qeS],rfl,rfl,Nat.le_refl _,fun _ _=>rfl⟩
    obtain⟨T,g1,H',l,own,rfl,g2,g3,g4,g5,g6⟩:=hloop H.length
    refine⟨H',l,own,?_,g2,g3,g4,g5,g6⟩
    refine qaL hs h314 ?_
    unfold fn314
    simp -implicitDefEqProofs only[ev_,aOp,opd,qaa,qaB,qbd,qaA,qab,qag,qai,qan,qac,qae,qaj,↓reduceIte,reduceCtorEq,Nat.reduceEqDiff,h0',g1]
theorem qyP (h314:L.fns 314=some fn314) (id:Int) (t:CTree) (hf:TFit t) (hr:ShT t) (hsz:qaJ t<2 ^ 30):∃ l:List AVal,l.length=qhs id t∧qax l=true∧∀ h:Heap,pcall L 314 [qao t,.int .i64 id] h=some (.val (.list l none),h):=by
 obtain⟨H',l,own,c1,c2,c3,_,_,_⟩:=qB2 hL h314 id t hf hr hsz []
 refine⟨l,c2,c3,fun h=>qcM c1 ?_ (by rw[qa3];exact c3) h⟩
 unfold qf5
 rw[qjn,if_pos (by rw[qa3];exact c3)]
def qf0:CTree→Bool
 | .mk _ _ binds kids _ => !(binds.any fun id=>decide (0<qhs id (kids.getD binds.length .none)))
theorem qwm (h299:L.fns 299=some fn299) (h314:L.fns 314=some fn314) (op n:Int) (binds:List Int) (kids:List CTree) (alts:List CAlt) (hk:binds.length<kids.length) (hf:∀ k∈kids,TFit k∧ShT k∧qaJ k<2 ^ 30) (hkl:kids.length<2 ^ 30) (h:Heap) :
  pcall L 299 [qao (.mk op n binds kids alts)] h=some (.val (.bool (qf0 (.mk op n binds kids alts))),h):=by
 have hp:=hL.pure
 refine qaX hL h299 rfl ?_ h
 have hK:=qbi kids
 have hA:=qap alts
 have hB:=qah binds
 have hke:(kids.map qao)[binds.length]? = some (qao (kids.getD binds.length .none)):=by
  rw[List.getElem?_map,List.getD_eq_getElem?_getD,List.getElem?_eq_getElem hk]
  rfl
 have hmem:kids.getD binds.length .none∈kids:=by
  rw[List.getD_eq_getElem?_getD,List.getElem?_eq_getElem hk]
  exact List.getElem_mem hk
 obtain⟨hf1,hf2,hf3⟩:=hf _ hmem
 unfold qf0
 rw[qbj]
 have hloop:qba L.pure (call L) 0 [0,8,9,10] [2] 0 qim ⟨kt [0,8,9,10] [.vptr [.int .i64 op,.int .i64 n,.list (binds.map qav) none,.list (kids.map qao) none,.list (alts.map qas) none] 0,.list (binds.map qav) none,.int .i64 binds.length,.int .i64 ((0:Nat):Int)],[]⟩ =
   some (if (binds.any fun id=>decide (0<qhs id (kids.getD binds.length .none)))=true then (.ret,⟨kt [2] [.bool false],[]⟩) else (.normal,⟨kt [2] [.junk],[]⟩)):=by
  refine qe9 binds (fun id=>decide (0<qhs id (kids.getD binds.length .none))) (fun i=>⟨kt [0,8,9,10] [.vptr [.int .i64 op,.int .i64 n,.list (binds.map qav) none,.list (kids.map qao) none,.list (alts.map qas) none] 0,.list (binds.map qav) none,.int .i64 binds.length,.int .i64 i],[]⟩) _ _ ?_ ?_ ?_
  ·intro i hi hq
   obtain⟨h1,h2,h3⟩:=qaN qav binds (by omega) i hi
   obtain⟨l,e1,e2,e3⟩:=qyP hL h314 binds[i] _ hf1 hf2 hf3
   have hz:¬ (0:Int)<l.length:=by
    have:¬ 0<qhs binds[i] (kids.getD binds.length .none):=by simpa using hq
    omega
   obtain⟨tc,htc,hdt⟩:=qbC (kids.getD binds.length .none)
   rw[htc] at hke e3
   generalize binds[i]=a at *
   unfold qim
   simp -implicitDefEqProofs only[ev_,aOp,opd,qaa,qaB,qbd,qaA,qad,qab,qaf,qag,qai,qaC,ren,renC,qa9,qbq,qaz,↓reduceIte,reduceCtorEq,Nat.reduceEqDiff,gt_iff_lt,qaw,qa1,h1,h2,h3,hke,e2,e3,hz,hdt,hK,hA,hB,qal L hp,hp]
  ·intro i hi hq
   obtain⟨h1,h2,h3⟩:=qaN qav binds (by omega) i hi
   obtain⟨l,e1,e2,e3⟩:=qyP hL h314 binds[i] _ hf1 hf2 hf3
   have hz:(0:Int)<l.length:=by
    have:0<qhs binds[i] (kids.getD binds.length .none):=by simpa using hq
    omega
   obtain⟨tc,htc,hdt⟩:=qbC (kids.getD binds.length .none)
   rw[htc] at hke e3
   generalize binds[i]=a at *
   unfold qim
   simp -implicitDefEqProofs only[ev_,aOp,opd,qaa,qaB,qbd,qaA,qad,qab,qaf,qag,qai,gcE,qaC,ren,renC,qa9,qbq,qaz,↓reduceIte,reduceCtorEq,Nat.reduceEqDiff,gt_iff_lt,qaw,qa1,h1,h2,h3,hke,e2,e3,hz,hdt,hK,hA,hB,qal L hp,hp]
  ·have h0:=qaQ binds.length
   unfold qim
   simp -implicitDefEqProofs only[ev_,aOp,opd,qaa,qaB,qaA,qab,gcE,qaC,ren,renC,qa9,qbq,↓reduceIte,reduceCtorEq,Nat.reduceEqDiff,h0,hK,hA,hB]
 simp only[Int.natCast_zero] at hloop
 unfold fn299
 cases hq:(binds.any fun id=>decide (0<qhs id (kids.getD binds.length .none)))<;>rw[hq] at hloop<;>simp -implicitDefEqProofs only[ev_,aOp,opd,qaa,qbd,qag,qai,qan,qac,qae,qaj,qaC,ren,renC,qa9,qbq,↓reduceIte,reduceCtorEq,Nat.reduceEqDiff,qak,hloop,hK,hA,hB]<;>rw[hq]<;>rfl
def qkd (id:Int) (p q:Nat):AObj:=.box [.int .i64 4,.int .i64 0,.list [.int .i64 id] (some none),.list [qar p,qar q] (some none),.list [] (some none)]
theorem qo6 (h313:L.fns 313=some fn313) (id:Int) (p q:Nat) (H:Heap):call L 313 [.int .i64 id,.ptr (some (p,0)),.ptr (some (q,0))] H=some (.val (.ptr (some (H.length,0))),H++[qkd id p q]):=by
 refine qaL (hL.summ 313 (by rw[h313];simp)) h313 ?_
 unfold qkd qar
 unfold fn313
 simp -implicitDefEqProofs only[ev_,aOp,opd,qaa,qcj,qcK,leaf,qat,qan,qac,qae,qaj,↓reduceIte,reduceCtorEq,Nat.reduceEqDiff,Nat.reduceAdd,Nat.reduceLeDiff]
def qma (id:Int) (v b:CTree):CTree:=.mk 4 0 [id] [v,b] []
def qdX:List Int→List CTree→CTree→CTree
 | id::ids,v::vs,b=>qma id v (qdX ids vs b)
 | _,_,b=>b
end
section
theorem WS.frame' {H H':Heap} {S:Nat→Prop} {t:CTree} {p:Nat} (h:WS H S t p) (he:∀ i,i<H.length→H'[i]? = H[i]?):WS H' S t p:=by
 induction h with
 | mk op n binds kids alts p ps ob ok avs oa hp hbox ha hl hk ih=>exact .mk op n binds kids alts p ps ob ok avs oa hp (by rw[he p (hlt hbox)];exact hbox) ha hl ih
theorem qrT {H:Heap} {S:Nat→Prop} {id:Int} {v b:CTree} {p q x:Nat} (hx:H[x]? = some (qkd id p q)) (hS:S x) (hp:WS H S v p) (hq:WS H S b q):WS H S (qma id v b) x:=by
 refine .mk 4 0 [id] [v,b] [] x [p,q] (some none) (some none) [] (some none) hS hx rfl rfl fun i hi=>?_
 match i,hi with
 | 0,_=>exact hp
 | 1,_=>exact hq
end
def OrN (S:Nat→Prop) (b:Nat):Nat→Prop:=fun i=>S i∨b≤i
section
variable {L:Lib} (hL:Plain L)
include hL
theorem qu6 (h313:L.fns 313=some fn313) (h297:L.fns 297=some fn297) (ids:List Int) (hm:ids.length<2 ^ 30) (ps:List Nat) (ts:List CTree) (hlp:ids.length≤ps.length) (hlt':ids.length≤ts.length) (body:CTree) (pb:Nat) (o1 o2:Option (Option Nat)) (H:Heap) (S:Nat→Prop) (hS:∀ i,S i→i<H.length)
  (hts:∀ (i:Nat) (h1:i<ids.length),WS H S (ts[i]'(by omega)) (ps[i]'(by omega))) (hb:WS H S body pb) :
  ∃ (H':Heap) (q:Nat),call L 297 [.list (ids.map qav) o1,.list (ps.map qar) o2,qar pb] H=some (.val (qar q),H')∧WS H' (OrN S H.length) (qdX ids ts body) q∧H.length≤H'.length∧∀ i,i<H.length→H'[i]? = H[i]? := by
 have hloop:∀ bb,∃ T,qba L.pure (call L) bb [1000000,0,1,2,7] [1000000,2] 0 qg6 ⟨kt [0,1,2,7] [.list (ids.map qav) o1,.list (ps.map qar) o2,qar pb,.int .i64 ((ids.length:Int)-1)],H⟩=some (.normal,T) ∧
   ∃ (H':Heap) (q:Nat),T=⟨kt [2] [qar q],H'⟩∧WS H' (OrN S H.length) (qdX ids ts body) q∧H.length≤H'.length∧∀ i,i<H.length→H'[i]? = H[i]? := by
  intro bb
  refine qbQ (pure:=L.pure) (call:=call L) (b:=bb) (id:=0) (body:=qg6)
   (fun j s=>∃ (H':Heap) (q:Nat),s=⟨kt [0,1,2,7] [.list (ids.map qav) o1,.list (ps.map qar) o2,qar q,.int .i64 (((ids.length-j:Nat):Int)-1)],H'⟩∧WS H' (OrN S H.length) (qdX (ids.drop (ids.length-j)) (ts.drop (ids.length-j)) body) q∧H.length≤H'.length∧∀ i,i<H.length→H'[i]? = H[i]?) ids.length _ ?_ ?_ ?_
  ·intro j s hj hs
   obtain⟨H',q,rfl,hw,hle,hkp⟩:=hs
   have hi1:ids.length-1-j<ids.length:=by omega
   have e1:((ids.length-j:Nat):Int)-1=((ids.length-1-j:Nat):Int):=by omega
   have e2:((ids.length-(j+1):Nat):Int)-1=((ids.length-1-j:Nat):Int)-1:=by omega
   have e3:ids.drop (ids.length-(j+1))=ids[ids.length-1-j]::ids.drop (ids.length-j):=by
    have:=List.drop_eq_getElem_cons hi1
    rw[show ids.length-1-j+1=ids.length-j by omega] at this
    rw[show ids.length-(j+1)=ids.length-1-j by omega]
    exact this
   have e4:ts.drop (ids.length-(j+1))=ts[ids.length-1-j]'(by omega)::ts.drop (ids.length-j):=by
    have:=List.drop_eq_getElem_cons (l:=ts) (i:=ids.length-1-j) (by omega)
    rw[show ids.length-1-j+1=ids.length-j by omega] at this
    rw[show ids.length-(j+1)=ids.length-1-j by omega]
    exact this
   have hti:=hts (ids.length-1-j) hi1
   have w:IntKind.i64.wrap (((ids.length-1-j:Nat):Int)-1)=((ids.length-1-j:Nat):Int)-1:=qcy (by omega) (by omega)
   have hg1:(ids.map qav)[ids.length-1-j]? = some (.int .i64 ids[ids.length-1-j]):=by rw[List.getElem?_map,List.getElem?_eq_getElem hi1];rfl
   have hg2:(ps.map qar)[ids.length-1-j]? = some (.ptr (some (ps[ids.length-1-j]'(by omega),0))):=by rw[List.getElem?_map,List.getElem?_eq_getElem (by omega)];rfl
   have hc:=fun id p=>qo6 hL h313 id p q H'
   have hnn:(0:Int)≤((ids.length-1-j:Nat):Int):=Int.natCast_nonneg _
   simp only[e1,e2,e3,e4,qdX]
   generalize hid:ids[ids.length-1-j]=id at *
   generalize hpi:(ps[ids.length-1-j]'(by omega))=pi at *
   generalize (ts[ids.length-1-j]'(by omega))=ti at *
   obtain⟨r,hr0⟩:∃ r,qbc L.pure (call L) bb [1000000,0,1,2,7] [1000000,2] qg6 ⟨kt [0,1,2,7] [.list (ids.map qav) o1,.list (ps.map qar) o2,qar q,.int .i64 ((ids.length-1-j:Nat):Int)],H'⟩=r:=⟨_,rfl⟩
   have hr:=hr0
   clear hid hpi
   generalize ids.length-1-j=k at *
   rw[show qar q=.ptr (some (q,0)) from rfl] at hr
   unfold qg6 at hr
   simp -implicitDefEqProofs only[ev_,aOp,opd,qaa,qaB,qaA,qad,qab,qaf,qag,qaz,↓reduceIte,reduceCtorEq,Nat.reduceEqDiff,ge_iff_le,hg1,hg2,hc,w,hnn] at hr
   subst hr
   refine⟨_,hr0,H'++[qkd id pi q],H'.length,rfl,?_,by simp;omega,fun i hi=>by rw[hga (by omega),hkp i hi]⟩
   refine qrT (x:=H'.length) (hgl rfl) (.inr (by omega)) ?_ ?_
   ·exact (hti.frame fun i hi=>by rw[hga (by have:=hS i hi;omega),hkp i (hS i hi)]).mono fun i hi=>.inl hi
   ·refine hw.frame' fun i hi=>hga hi
  ·intro s hs
   obtain⟨H',q,rfl,hw,hle,hkp⟩:=hs
   have e1:((ids.length-ids.length:Nat):Int)-1 = -1:=by omega
   rw[Nat.sub_self] at hw e1
   rw[List.drop_zero,List.drop_zero] at hw
   refine⟨_,?_,H',q,rfl,hw,hle,hkp⟩
   rw[Nat.sub_self,e1]
   unfold qg6
   simp -implicitDefEqProofs only[ev_,aOp,opd,qaa,qaB,qaA,qab,gcE,↓reduceIte,reduceCtorEq,Nat.reduceEqDiff,Int.reduceLE,Int.reduceNeg,ge_iff_le]
  ·refine⟨H,pb,by rw[Nat.sub_zero],?_,Nat.le_refl _,fun _ _=>rfl⟩
   rw[Nat.sub_zero,List.drop_length]
   have:qdX [] (ts.drop ids.length) body=body:=by cases ts.drop ids.length<;>rfl
   rw[this]
   exact hb.mono fun i hi=>.inl hi
 obtain⟨T,g1,H',q,rfl,g2,g3,g4⟩:=hloop H.length
 refine⟨H',q,?_,g2,g3,g4⟩
 refine qaL (hL.summ 297 (by rw[h297];simp)) h297 ?_
 have w:IntKind.i64.wrap ((ids.length:Int)-1)=(ids.length:Int)-1:=qcy (by omega) (by omega)
 rw[show qar pb=.ptr (some (pb,0)) from rfl,show qar q=.ptr (some (q,0)) from rfl] at *
 unfold fn297
 simp -implicitDefEqProofs only[ev_,aOp,opd,qaa,qaB,qbd,qaA,qab,qan,qac,qae,qaj,↓reduceIte,reduceCtorEq,Nat.reduceEqDiff,w,g1]
end
end Go.Abs
