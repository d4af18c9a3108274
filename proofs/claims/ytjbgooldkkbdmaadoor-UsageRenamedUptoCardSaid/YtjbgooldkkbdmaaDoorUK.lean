/-
  PARTS OF A PROOF, joined: an abstract machine for quiet code, its evaluation, and what the seat's functions answer on it. Conditions: none.
-/
import Derived.Test.YtjbgooldkkbdmaaDoorUG
import Derived.Test.YtjbgooldkkbdmaaDoorD
import Derived.Test.YtjbgooldkkbdmaaDoorRA
import Derived.Test.YtjbgooldkkbdmaaDoorRM
import Derived.Test.YtjbgooldkkbdmaaDoorUA
import Derived.Test.YtjbgooldkkbdmaaDoorHF
set_option linter.unusedVariables false
set_option linter.unusedSimpArgs false
set_option maxRecDepth 100000
set_option maxHeartbeats 8000000
namespace Go.Abs
theorem qml:∀ {cs:List AVal},qao cs=true→cs.flatMap qa0=[]
 | [],_=>rfl
 | c :: cs,h => by
   rw[qao,Bool.and_eq_true] at h
   rw[List.flatMap_cons,qml h.2,List.append_nil]
   unfold qa0
   rw[if_pos h.1]
theorem qm3 (ρ:Nat→Option Nat):∀ {cs:List AVal},qao cs=true→cs.map (ren ρ)=cs
 | [],_=>rfl
 | c :: cs,h => by
   rw[qao,Bool.and_eq_true] at h
   rw[List.map_cons,qm3 ρ h.2]
   unfold ren
   rw[if_pos h.1]
theorem qju {p:Nat} {nl:List Nat} {h h2:Heap} {o:AObj} (hp:h[p]? = some o) (hr:qeb (qbN [p] nl h.length) ((h2[0]?).getD .gone)=o) :
  qea [p] nl h h2=h++nl.map fun j=>qeb (qbN [p] nl h.length) ((h2[j]?).getD .gone):=by
 rw[qkK]
 congr 1
 refine List.ext_getElem? fun i=>?_
 by_cases hi:i<h.length
 ·rw[qr2 [p] nl _ h2 h 0 i h[i] (List.getElem?_eq_getElem hi),Nat.zero_add,List.getElem?_eq_getElem hi]
  by_cases hip:p=i
  ·subst hip
   have e:h[p]=o:=by rw[List.getElem?_eq_getElem hi] at hp;injection hp
   simp only[qas,if_true]
   rw[hr,e]
  ·simp only[qas,if_neg hip]
 ·rw[List.getElem?_eq_none (by rw[qjs];omega),List.getElem?_eq_none (by omega)]
theorem qsg {call:CallT} {f p n sz:Nat} {cs xs:List AVal} {h:Heap} (hp:h[p]? = some (.box cs)) (hcs:qao cs=true) (hxs:qao xs=true)
  (hc:call f [.ptr (some (0,0))] [.box cs]=some (.val (.list xs (qdb 1 n)),.box cs::qby sz n)) :
  qie call f [.ptr (some (p,0))] h=some (.val (.list xs (qdb h.length n)),h++qby sz n):=by
 have hlt:p<h.length:=(List.getElem?_eq_some_iff.1 hp).1
 have hids:qjW (.box cs)=[]:=qml hcs
 have hg:∀ l,l=[p]→grow h l=[p]:=by
  rintro _ rfl
  rw[qrt,List.flatMap_cons,List.flatMap_nil,hp]
  show qci 0 (qjW (.box cs)++[]) [p]=_
  rw[hids]
  rfl
 have h0:qci 0 ([AVal.ptr (some (p,0))].flatMap qa0) []=[p]:=by simp[qa0,qar,qbh,qci]
 have hroots:qbr [.ptr (some (p,0))] h=[p]:=by
  rw[qkR,h0]
  exact hg _ (hg _ (hg _ rfl))
 have hren:∀ ρ,qeb ρ (.box cs)=.box cs:=fun ρ=>by
  show AObj.box (cs.map (ren ρ))=_
  rw[qm3 ρ hcs]
 have hsub:qcD [p] h=[.box cs]:=by
  rw[qkW,List.map_cons,List.map_nil,hp]
  exact congrArg (fun x=>[x]) (hren _)
 have harg:([AVal.ptr (some (p,0))].map (ren fun i=>qas i [p] 0))=[.ptr (some (0,0))]:=by simp[ren,renC,qar,qas]
 rw[qpf,hroots,if_pos (by simpa using hlt),harg,hsub,hc]
 dsimp only
 rw[qiL,qmL]
 have hdl:qar (.list xs (some none))=true:=by simp[qar,hxs]
 rcases qeu 1 sz n with ⟨o1,o2⟩ | ⟨o1,o2⟩<;>rcases qeu h.length sz n with ⟨o3,o4⟩ | ⟨o3,o4⟩
 ·rw[o1,o2,o3]
  have hid:qa0 (.list xs (some none))=[]:=by unfold qa0;rw[if_pos hdl]
  have hnl:qci [p].length (qa0 (.list xs (some none))++([AObj.box cs].take [p].length).flatMap qjW) []=[]:=by
   rw[hid,List.nil_append]
   show qci 1 (qjW (.box cs)++[]) []=[]
   rw[hids];rfl
  rw[hnl,qju hp (hren _)]
  have hr:ren (qbN [p] [] h.length) (.list xs (some none))=.list xs (some none):=by unfold ren;rw[if_pos hdl]
  rw[hr]
  rfl
 ·rw[o2] at o4;cases o4
 ·rw[o2] at o4;cases o4
 ·rw[o1,o2,o3]
  have hnd:qar (.list xs (some (some 1)))=false:=by simp[qar]
  have hid:qa0 (.list xs (some (some 1)))=[1]:=by unfold qa0;rw[if_neg (by rw[hnd];decide)];show qbh _=_;unfold qbh;rw[if_neg (by rw[hnd];decide)]
  have hnl:qci [p].length (qa0 (.list xs (some (some 1)))++((AObj.box cs::[.tail n sz]).take [p].length).flatMap qjW) []=[1]:=by
   rw[hid]
   show qci 1 ([1]++(qjW (.box cs)++[])) []=[1]
   rw[hids];rfl
  rw[hnl,qju hp (hren _)]
  have hb:qbN [p] [1] h.length 1=some h.length:=by simp[qbN,qas]
  have hr:ren (qbN [p] [1] h.length) (.list xs (some (some 1)))=.list xs (some (some h.length)):=by
   unfold ren
   rw[if_neg (by rw[hnd];decide)]
   dsimp only
   unfold renC
   rw[if_neg (by rw[hnd];decide)]
   dsimp only
   rw[if_pos hxs,hb]
  rw[hr]
  rfl
def qaG (out:List (Int × Int)):List AVal:=(out.map qd1).flatMap acells
theorem qb1 (out:List (Int × Int)):(qaG out).length=out.length*2:=by
 unfold qaG
 induction out with
 | nil=>rfl
 | cons p l ih =>
   rw[List.map_cons,List.flatMap_cons,List.length_append,ih]
   show 2+_=_
   simp
   omega
theorem qlP (out:List (Int × Int)) (p:Int × Int):qaG (out++[p])=qaG out++[.int .i64 p.1,.int .i64 p.2]:=by
 unfold qaG
 rw[List.map_append,List.flatMap_append]
 rfl
theorem qlO (out:List (Int × Int)):(qaG out).all leaf=true:=by
 unfold qaG
 rw[List.all_eq_true]
 intro v hv
 obtain⟨x,hx,hv⟩:=List.mem_flatMap.1 hv
 obtain⟨p,_,rfl⟩:=List.mem_map.1 hx
 rw[qgL] at hv
 simp only[acells,List.mem_cons,List.not_mem_nil,or_false] at hv
 rcases hv with rfl | rfl<;>rfl
theorem qkm:∀ (out:List (Int × Int)),qfj 2 out.length (qaG out)=out.map qd1
 | []=>rfl
 | p :: l => by
   have h:qaG (p::l)=.int .i64 p.1::.int .i64 p.2::qaG l:=rfl
   rw[h,List.length_cons,qfj,List.map_cons]
   show AVal.agg [.int .i64 p.1,.int .i64 p.2]::qfj 2 l.length (qaG l)=_
   rw[qkm l]
   rfl
def UV (H:Heap) (out:List (Int × Int)) (v:AVal):Prop:=(out=[]∧v=.list [] (some none))∨(out≠[]∧∃ id,v=.vec id out.length∧4≤id∧H[id]? = some (.vec (qaG out) 2))
theorem UV.frame {H H':Heap} {out:List (Int × Int)} {v:AVal} (h:UV H out v) (he:∀ i,4≤i→i<H.length→H'[i]? = H[i]?):UV H' out v:=by
 rcases h with h | ⟨h1,id,h2,h3,h4⟩
 ·exact .inl h
 ·exact .inr ⟨h1,id,h2,h3,by rw[he id h3 (hlt h4)];exact h4⟩
theorem UV.app {H:Heap} {out:List (Int × Int)} {v:AVal} (h:UV H out v) (hH:4≤H.length) (hn:out.length+1≤1073741824) (p:Int × Int) (o:Option (Option Nat)) :
  ∃ v' H',qdf H 2 v (.list [.agg [.int .i64 p.1,.int .i64 p.2]] o)=some (v',H')∧UV H' (out++[p]) v'∧H.length≤H'.length∧∀ i,i<4→H'[i]? = H[i]? := by
 rcases h with ⟨rfl,rfl⟩ | ⟨h1,id,rfl,h3,h4⟩
 ·refine⟨.vec H.length 1,H++[.vec [.int .i64 p.1,.int .i64 p.2] 2],?_,.inr ⟨by simp,H.length,rfl,hH,hgl rfl⟩,by simp,fun i hi=>hga (by omega)⟩
  unfold qdf
  dsimp only
  rw[if_neg (by simp),if_pos ⟨rfl,by unfold qeU;simp⟩]
  rfl
 ·have hl:=hlt h4
  refine⟨.vec H.length (out.length+1),H.set id .gone++[.vec (qaG out++[.int .i64 p.1,.int .i64 p.2]) 2],?_,.inr ⟨by simp,H.length,by rw[List.length_append];rfl,hH,?_⟩,by simp,fun i hi=>?_⟩
  ·unfold qdf
   dsimp only
   unfold qa4
   dsimp only
   rw[if_neg (by simp),h4]
   dsimp only
   rw[if_pos ⟨rfl,qb1 out,rfl,hn⟩]
   rfl
  ·rw[qlP]
   exact hgl (by simp)
  ·rw[hga (by simp;omega),hgn (by omega)]
theorem UV.view {H:Heap} {out:List (Int × Int)} {v:AVal} (h:UV H out v):qeF H (.tuple [v,.int .i64 0])=.tuple [.list (out.map qd1) none,.int .i64 0]:=by
 rcases h with ⟨rfl,rfl⟩ | ⟨h1,id,rfl,h3,h4⟩
 ·rfl
 ·unfold qeF
  rw[if_neg (by simp[wipeR,wipe,wipeCell,qar,qao])]
  have hmap:∀ n,(qaG out).map (qa3 H (n+1))=qaG out:=by
   intro n
   unfold qaG
   refine (List.map_congr_left fun v hv=>?_).trans (List.map_id _)
   obtain⟨x,hx,hv⟩:=List.mem_flatMap.1 hv
   obtain⟨p,_,rfl⟩:=List.mem_map.1 hx
   rw[qgL] at hv
   simp only[acells,List.mem_cons,List.not_mem_nil,or_false] at hv
   rcases hv with rfl | rfl<;>rfl
  have hv:qa3 H 1999 (.vec id out.length)=.list (out.map qd1) none:=by
   show (if qar (.vec id out.length)=true then _ else qcJ H (qa3 H 1998) (.vec id out.length))=_
   rw[if_neg (by simp[qar])]
   unfold qcJ
   dsimp only
   rw[h4]
   dsimp only
   rw[if_pos (qlO out),if_neg (by omega),if_pos ⟨by decide,(qb1 out).symm⟩,hmap 1997,qkm]
  unfold viewV
  show wipeR (if qar (.tuple [.vec id out.length,.int .i64 0])=true then _ else qcJ H (qa3 H 1999) (.tuple [.vec id out.length,.int .i64 0]))=_
  rw[if_neg (by simp[qar,qao])]
  unfold qcJ
  dsimp only
  rw[List.map_cons,List.map_cons,List.map_nil,hv]
  rfl
structure CntH (H:Heap) (U:US):Prop where
 uses:H[0]? = some (.map (encB U.uses))
 many:H[2]? = some (.map (encB U.many))
 box:H[3]? = some (.box [.map (some 0),.map (some 1),.map (some 2)])
 len:4≤H.length
theorem CntH.frame {H H':Heap} {U:US} (h:CntH H U) (hl:H.length≤H'.length) (he:∀ i,i<4→H'[i]? = H[i]?):CntH H' U :=
 ⟨by rw[he 0 (by omega)];exact h.uses,by rw[he 2 (by omega)];exact h.many,by rw[he 3 (by omega)];exact h.box,Nat.le_trans h.len hl⟩
section
variable {L:Lib}
theorem qye {b:Nat} (U:US) (E:AVal) (ne i0:Int) (bs:List Int) (hl:bs.length<2 ^ 30) (ob:Option (Option Nat)) (out0:List (Int × Int)) (hn:out0.length+bs.length≤1073741824) (H0:Heap) (v0:AVal) (hc:CntH H0 U) (hv:UV H0 out0 v0) :
  ∃ T,qbl L.pure (call L) b [1000000,5,7,28,29,30,42,43,44] [1000000,5,7,28,29,30] 2 qdy
   ⟨kt [5,7,28,29,30,42,43,44] [.ptr (some (3,0)),v0,E,.int .i64 ne,.int .i64 i0,.list (bs.map qau) ob,.int .i64 bs.length,.int .i64 0],H0⟩=some (.normal,T) ∧
   ∃ H v,T=⟨kt [5,7,28,29,30] [.ptr (some (3,0)),v,E,.int .i64 ne,.int .i64 i0],H⟩∧CntH H U∧UV H (out0++bs.map fun n=>(n,qib U n)) v:=by
 refine qcw (pure:=L.pure) (call:=call L) (b:=b) (id:=2) (body:=qdy)
  (fun j s=>∃ H v,s=⟨kt [5,7,28,29,30,42,43,44] [.ptr (some (3,0)),v,E,.int .i64 ne,.int .i64 i0,.list (bs.map qau) ob,.int .i64 bs.length,.int .i64 (j:Nat)],H⟩∧CntH H U∧UV H (out0++(bs.take j).map fun n=>(n,qib U n)) v) bs.length _ ?_ ?_ ?_
 ·intro j s hj hs
  obtain⟨H,v,rfl,hC,hV⟩:=hs
  obtain⟨h1,h2,h3⟩:=qaT qau bs hl j hj
  have ht:out0++(bs.take (j+1)).map (fun n=>(n,qib U n))=(out0++(bs.take j).map fun n=>(n,qib U n))++[(bs[j],qib U bs[j])]:=by
   rw[List.take_succ_eq_append_getElem hj,List.map_append,List.append_assoc];rfl
  rw[ht]
  have hlen:(out0++(bs.take j).map fun n=>(n,qib U n)).length+1≤1073741824:=by simp;omega
  generalize (out0++(bs.take j).map fun n=>(n,qib U n))=out at *
  generalize bs[j]=n at *
  have hb:=hC.box
  have l0:=qmF H 0 n U.uses hC.uses
  have l2:=qmF H 2 n U.many hC.many
  obtain⟨v',H',a1,a2,a3,a4⟩:=hV.app hC.len hlen (n,qib U n) (some none)
  dsimp only at a1
  have hC':=hC.frame a3 a4
  obtain⟨r,hr0⟩:∃ r,qbk L.pure (call L) b [1000000,5,7,28,29,30,42,43,44] [1000000,5,7,28,29,30] qdy
   ⟨kt [5,7,28,29,30,42,43,44] [.ptr (some (3,0)),v,E,.int .i64 ne,.int .i64 i0,.list (bs.map qau) ob,.int .i64 bs.length,.int .i64 (j:Nat)],H⟩=r:=⟨_,rfl⟩
  have hr:=hr0
  unfold qib at a1
  by_cases q0:qbZ n U.uses=0
  ·rw[if_pos q0] at a1
   have b0:(qbZ n U.uses==0)=true:=by simpa using q0
   unfold qdy at hr
   simp -implicitDefEqProofs only[ev_,aOp,opd,qaa,qaD,qaC,qae,qab,qag,qak,qcZ,qdm,leaf,qaq,↓reduceIte,Nat.reduceEqDiff,Nat.reduceAdd,Nat.reduceLeDiff,qba,h1,h2,h3,hb,l0,l2,b0,a1] at hr
   subst hr
   exact⟨_,hr0,H',v',rfl,hC',a2⟩
  ·rw[if_neg q0] at a1
   have b0:(qbZ n U.uses==0)=false:=by simpa using q0
   by_cases q1:qbZ n U.uses=1
   ·have b1:(qbZ n U.uses==1)=true:=by simpa using q1
    by_cases q2:qbZ n U.many=0
    ·rw[if_pos ⟨q1,q2⟩] at a1
     have b2:(qbZ n U.many==0)=true:=by simpa using q2
     unfold qdy at hr
     simp -implicitDefEqProofs only[ev_,aOp,opd,qaa,qaD,qaC,qae,qab,qaf,qag,qak,qcZ,qdm,leaf,qaq,↓reduceIte,Nat.reduceEqDiff,Nat.reduceAdd,Nat.reduceLeDiff,qba,h1,h2,h3,hb,l0,l2,b0,b1,b2,a1] at hr
     subst hr
     exact⟨_,hr0,H',v',rfl,hC',a2⟩
    ·rw[if_neg (fun h=>q2 h.2)] at a1
     have b2:(qbZ n U.many==0)=false:=by simpa using q2
     unfold qdy at hr
     simp -implicitDefEqProofs only[ev_,aOp,opd,qaa,qaD,qaC,qae,qab,qaf,qag,qak,qcZ,qdm,leaf,qaq,↓reduceIte,Nat.reduceEqDiff,Nat.reduceAdd,Nat.reduceLeDiff,qba,h1,h2,h3,hb,l0,l2,b0,b1,b2,a1] at hr
     subst hr
     exact⟨_,hr0,H',v',rfl,hC',a2⟩
   ·rw[if_neg (fun h=>q1 h.1)] at a1
    have b1:(qbZ n U.uses==1)=false:=by simpa using q1
    unfold qdy at hr
    simp -implicitDefEqProofs only[ev_,aOp,opd,qaa,qaD,qaC,qae,qab,qaf,qag,qak,qcZ,qdm,leaf,qaq,↓reduceIte,Nat.reduceEqDiff,Nat.reduceAdd,Nat.reduceLeDiff,qba,h1,h2,h3,hb,l0,l2,b0,b1,a1] at hr
    subst hr
    exact⟨_,hr0,H',v',rfl,hC',a2⟩
 ·intro s hs
  obtain⟨H,v,rfl,hC,hV⟩:=hs
  have h0:=qaU bs.length
  rw[List.take_length] at hV
  refine⟨_,?_,H,v,rfl,hC,hV⟩
  unfold qdy
  simp -implicitDefEqProofs only[ev_,aOp,opd,qaa,qaD,qaC,qab,gcE,↓reduceIte,Nat.reduceEqDiff,h0]
 ·exact⟨H0,v0,rfl,hc,by rw[List.take_zero,List.map_nil,List.append_nil];exact hv⟩
theorem qyf (hL:Plain L) (h232:L.fns 232=some fn232) {b:Nat} (U:US) (e:List CExpr) (hl:e.length<2 ^ 30) (hf:∀ x∈e,NodeFit x) (hbf:∀ x∈e,qs0 x) (hn:(e.flatMap qaA).length≤1073741824) (H0:Heap) (hc:CntH H0 U) :
  ∃ T,qbl L.pure (call L) b [1000000,5,7,28,29,30] [1000000,7] 0 qfT
   ⟨kt [5,7,28,29,30] [.ptr (some (3,0)),.list [] (some none),.list (e.map qal) none,.int .i64 e.length,.int .i64 0],H0⟩=some (.normal,T) ∧
   ∃ H v,T=⟨kt [7] [v],H⟩∧UV H ((e.flatMap qaA).map fun n=>(n,qib U n)) v:=by
 refine qcw (pure:=L.pure) (call:=call L) (b:=b) (id:=0) (body:=qfT)
  (fun i s=>∃ H v,s=⟨kt [5,7,28,29,30] [.ptr (some (3,0)),v,.list (e.map qal) none,.int .i64 e.length,.int .i64 (i:Nat)],H⟩∧CntH H U∧UV H (((e.take i).flatMap qaA).map fun n=>(n,qib U n)) v) e.length _ ?_ ?_ ?_
 ·intro i s hi hs
  obtain⟨H,v,rfl,hC,hV⟩:=hs
  obtain⟨h1,h2,h3⟩:=qaT qal e hl i hi
  have hx:=hf e[i] (List.getElem_mem hi)
  have ht:((e.take (i+1)).flatMap qaA).map (fun n=>(n,qib U n))=((e.take i).flatMap qaA).map (fun n=>(n,qib U n))++(qaA e[i]).map fun n=>(n,qib U n):=by
   rw[List.take_succ_eq_append_getElem hi,List.flatMap_append,List.map_append,List.flatMap_cons,List.flatMap_nil,List.append_nil]
  rw[ht]
  have hsum:((e.take i).flatMap qaA).length+(qaA e[i]).length≤1073741824:=by
   have h4:(e.take (i+1)).flatMap qaA=(e.take i).flatMap qaA++qaA e[i]:=by
    rw[List.take_succ_eq_append_getElem hi,List.flatMap_append,List.flatMap_cons,List.flatMap_nil,List.append_nil]
   have h5:((e.take (i+1)).flatMap qaA).length≤(e.flatMap qaA).length:=by
    have h6:e.flatMap qaA=(e.take (i+1)).flatMap qaA++(e.drop (i+1)).flatMap qaA:=by rw[← List.flatMap_append,List.take_append_drop]
    rw[h6,List.length_append];omega
   rw[h4,List.length_append] at h5
   omega
  have hbl:(qaA e[i]).length<2 ^ 30∧(e[i].binds++e[i].alts.flatMap (·.binds)).length≤2 ^ 30:=by
   have h7:(e[i].binds++e[i].alts.flatMap (·.binds)).length<2 ^ 30:=hbf e[i] (List.getElem_mem hi)
   refine⟨?_,by omega⟩
   unfold qaA qaz
   rw[List.length_append] at h7 ⊢
   split
   ·omega
   ·rw[List.length_nil];omega
  have halts:=hx.alts
  have hol:(((e.take i).flatMap qaA).map fun n=>(n,qib U n)).length+(qaA e[i]).length≤1073741824:=by rw[List.length_map];exact hsum
  generalize ((e.take i).flatMap qaA).map (fun n=>(n,qib U n))=out at *
  generalize e[i]=x at *
  have hrc:=qsg (call:=call L) (f:=232) (p:=H.length+1) (n:=(qaA x).length) (sz:=1) (cs:=[.int .i64 x.op,.int .i64 0,.list (x.binds.map qau) none,.list [] (some none),.list (x.alts.map qan) none]) (xs:=(qaA x).map qau)
   (h:=H++[.box [.int .i64 x.op,.int .i64 x.n,.list (x.binds.map qau) none,.list (x.kids.map qau) none,.list (x.alts.map qan) none],.box [.int .i64 x.op,.int .i64 0,.list (x.binds.map qau) none,.list [] (some none),.list (x.alts.map qan) none]])
   (qru rfl) (by simp[qao,qar,qac,qah]) (qac _) (qnF hL h232 x.op 0 x.binds (.list [] (some none)) rfl x.alts halts hbl.2)
  have hdc:qcm L.pure (call L) 232 [.ptr (some (H.length+1,0))] (H++[.box [.int .i64 x.op,.int .i64 x.n,.list (x.binds.map qau) none,.list (x.kids.map qau) none,.list (x.alts.map qan) none],.box [.int .i64 x.op,.int .i64 0,.list (x.binds.map qau) none,.list [] (some none),.list (x.alts.map qan) none]])=_:=(qnQ rfl).trans hrc
  generalize hH3:(H++[.box [.int .i64 x.op,.int .i64 x.n,.list (x.binds.map qau) none,.list (x.kids.map qau) none,.list (x.alts.map qan) none],.box [.int .i64 x.op,.int .i64 0,.list (x.binds.map qau) none,.list [] (some none),.list (x.alts.map qan) none]]:Heap)++qby 1 (qaA x).length=H3 at hdc
  generalize qdb _ (qaA x).length=ob at hdc
  have hle3:H.length≤H3.length:=by rw[← hH3];simp
  have hke3:∀ q,q<H.length→H3[q]? = H[q]? := fun q hq=>by rw[← hH3,List.append_assoc,hga hq]
  clear hrc hH3
  obtain⟨T,t1,H4,v4,rfl,t3,t4⟩:=qye (L:=L) (b:=H3.length) U (.list (e.map qal) none) (e.length:Int) (i:Int) (qaA x) hbl.1 ob out hol H3 v (hC.frame hle3 fun q hq=>hke3 q (by have:=hC.len;omega)) (hV.frame fun q _ hq=>hke3 q hq)
  obtain⟨r,hr0⟩:∃ r,qbk L.pure (call L) b [1000000,5,7,28,29,30] [1000000,7] qfT
   ⟨kt [5,7,28,29,30] [.ptr (some (3,0)),v,.list (e.map qal) none,.int .i64 e.length,.int .i64 (i:Nat)],H⟩=r:=⟨_,rfl⟩
  have hr:=hr0
  unfold qfT at hr
  simp -implicitDefEqProofs only[ev_,aOp,opd,qaa,qat,qaD,qbC,qaC,qae,qab,qag,qaP,qaN,qak,qcZ,qdm,leaf,qaq,↓reduceIte,Nat.reduceEqDiff,Nat.reduceAdd,Nat.reduceLeDiff,qaZ,h1,h2,h3,hgl,hsl,hga,hdc,t1] at hr
  subst hr
  exact⟨_,hr0,H4,v4,rfl,t3,t4⟩
 ·intro s hs
  obtain⟨H,v,rfl,hC,hV⟩:=hs
  have h0:=qaU e.length
  rw[List.take_length] at hV
  refine⟨_,?_,H,v,rfl,hV⟩
  unfold qfT
  simp -implicitDefEqProofs only[ev_,aOp,opd,qaa,qaD,qaC,qab,gcE,↓reduceIte,Nat.reduceEqDiff,h0]
 ·exact⟨H0,_,rfl,hc,.inl ⟨rfl,rfl⟩⟩
end
def qot (L:Lib) (srt:List (Int × Int)→List (Int × Int)):Prop:=∀ (out:List (Int × Int)) (H:Heap) (v:AVal),UV H out v→out.length<1073741824→∃ H',call L 286 [v,.func 287 [] []] H=some (.val (.tuple []),H')∧UV H' (srt out) v
section
variable {L:Lib} (hC:CLib L)
include hC
theorem qxs (h274:L.fns 274=some fn274) (h232:L.fns 232=some fn232) (h236:L.fns 236=some fn236) (h285:L.fns 285=some fn285) (h295:L.fns 295=some fn295) (srt:List (Int × Int)→List (Int × Int)) (hsort:qot L srt) (e:List CExpr) (hl:e.length<2 ^ 30) (hf:∀ x∈e,NodeFit x) (h:Heap) :
  pcall L 274 [.list (e.map qal) none] h=some (.val (.tuple [.list ((qlN srt e).1.map qd1) none,.int .i64 (qlN srt e).2]),h):=by
 have hL:=hC.plain
 have hp:=hL.pure
 have hdE:=qaY e
 have hck:=qlc hC e hl hf
 unfold qlN
 by_cases hz:qa5 e=0
 case neg =>
  have hne:(qa5 e==0)=false:=by simpa using hz
  rw[if_neg hz]
  refine qbo hL h274 rfl ?_ h
  generalize qa5 e=r at *
  unfold fn274
  simp -implicitDefEqProofs only[ev_,aOp,opd,qaa,qaD,qaC,qab,qav,qad,qai,qam,↓reduceIte,reduceCtorEq,Nat.reduceEqDiff,qay,qaj,hck,hne,hdE,qap L hp,hp,List.map_nil,bne]
 rw[if_pos hz]
 dsimp only
 rw[hz] at hck
 obtain⟨hT,hn4,hh,hlab,hnd,hfr⟩:=qcR hz
 obtain⟨hft,hsz⟩:=qiW hz hf
 have hbf:=qo4 hT hn4 hlab
 have hgr:=fun h=>hC.grow e h hl hf hT (by omega)
 have hus:=qxO hL h285 h295 h236 (qbg e) hft 0 u0 0 (by omega) (by omega) (fun v=>by simp[u0,qbZ,qaI]) (by omega)
 have hbm2:(e.flatMap qaA).length≤131072:=by
  have h1:=qgj (qpn hz)
  have h2:=((qda e hT).flatMap_right qbu).length_eq
  rw[qc5 e]
  omega
 have hbm:(e.flatMap qaA).length≤1073741824:=by omega
 obtain⟨tc,htc,hdt⟩:=qdv (qbg e)
 rw[htc] at hgr hus
 have hus2:call L 285 [.ptr (some (0,0)),.vptr tc 0,.int .i64 0] [.box [.map (some 1),.map (some 2),.map (some 3)],.map [],.map [],.map []]=some (.val (.tuple []),[.box [.map (some 1),.map (some 2),.map (some 3)],.map (encB (qlQ (qbg e) 0 u0).uses),.map (encB (qlQ (qbg e) 0 u0).depth),.map (encB (qlQ (qbg e) 0 u0).many)]):=hus
 have hraw:qb7 e=(e.flatMap qaA).map fun n=>(n,qib (qlQ (qbg e) 0 u0) n):=rfl
 generalize qlQ (qbg e) 0 u0=U at *
 obtain⟨T,t1,H,v,rfl,t3⟩:=qyf (L:=L) (b:=4) hL h232 U e hl hf hbf hbm [.map (encB U.uses),.map (encB U.depth),.map (encB U.many),.box [.map (some 0),.map (some 1),.map (some 2)]] ⟨rfl,rfl,rfl,Nat.le_refl _⟩
 rw[← hraw] at t3
 obtain⟨H',s1,s2⟩:=hsort (qb7 e) H v t3 (by rw[hraw,List.length_map];omega)
 have hcall:call L 274 [.list (e.map qal) none] []=some (.val (.tuple [v,.int .i64 0]),H'):=by
  refine qcW (hL.summ 274 (by rw[h274];simp)) h274 ?_
  unfold fn274
  simp -implicitDefEqProofs only[ev_,aOp,opd,qaa,qaD,qbC,qaC,qab,qcZ,qdm,qaq,qav,qad,qai,qam,qas,ren,renC,qa0,qbh,↓reduceIte,reduceCtorEq,Nat.reduceEqDiff,Nat.reduceAdd,Nat.reduceLT,Nat.reduceLeDiff,qay,hck,hgr,hus2,t1,s1,hdE,hdt,qds,qdt,qap L hp,hp,bne]
 exact qcy hcall s2.view (by simp only[qhX,qhV,qjh,qbc,qdN,qkw,Bool.and_true]) h
end
end Go.Abs
set_option maxHeartbeats 4000000
namespace Go.Abs
def qxF (f:Nat) (args:List AVal) (h:Heap):Option (ARes × Heap) :=
 if f=286 then
  (match args with
  | [.vec id 1,.func 287 [] []] => (match h[id]? with
    | some (.vec [.int .i64 _,.int .i64 _] 2)=>some (.val (.tuple []),h)
    | _=>none)
  | _=>none)
 else twP f args h
def qnt (L:Lib):Prop:=∀ (a b:Int) (id:Nat) (h:Heap),h[id]? = some (.vec [.int .i64 a,.int .i64 b] 2)→call L 286 [.vec id 1,.func 287 [] []] h=some (.val (.tuple []),h)
theorem qwM {L:Lib} (hM:MPrims L) (h0:∀ h:Heap,call L 138 [.list [] none] h=some (.val (.tuple []),h)) (h1:qnt L):∀ f a h r,qxF f a h=some r→call L f a h=some r:=by
 intro f a h r hr
 unfold qxF at hr
 split at hr
 ·rename_i hf
  subst hf
  split at hr
  ·rename_i id
   split at hr
   ·rename_i x y he
    injection hr with hr
    rw[← hr]
    exact h1 x y id h he
   ·cases hr
  ·cases hr
 ·exact qxG hM h0 f a h r hr
theorem qtz {L:Lib} (hL:Plain L) (hM:MPrims L) (h0:∀ h:Heap,call L 138 [.list [] none] h=some (.val (.tuple []),h)) (h1:qnt L) {T:List (Nat × AFn)} (hT:∀ p∈T,L.fns p.1=some p.2) {n f:Nat} (hc:qtZ (.bool true) (qqv (fun f=>List.lookup f T) qxF n f [] [])=true) (h:Heap) :
  pcall L f [] h=some (.val (.bool true),h):=by
 obtain⟨H,hr⟩:=qt0 hc
 have:=quS (L:=L) hL.pure hL.summ (fun f=>List.lookup f T) qxF (fun f fn hf=>hT _ (qlu hf)) (qwM hM h0 h1) n f [] [] _ hr
 exact qcy this rfl rfl h
end Go.Abs
set_option maxHeartbeats 8000000
namespace Go.Abs
def qhM (k:Int) (l:List (Int × Int)):Int:=((l.map (·.2)).count k:Nat)
theorem qq2 (k:Int) (l:List (Int × Int)) (p:Int × Int):qhM k (l++[p])=qhM k l+if p.2=k then 1 else 0:=by
 unfold qhM
 rw[List.map_append,List.count_append,List.map_cons,List.map_nil,List.count_singleton]
 by_cases h:p.2=k<;>simp[h]
theorem qvl (k:Int) (l:List (Int × Int)):0≤qhM k l∧qhM k l≤l.length:=by
 unfold qhM
 have:=List.count_le_length (a:=k) (l:=l.map (·.2))
 rw[List.length_map] at this
 omega
theorem qvF (s:US) (n:Int):qib s n=0∨qib s n=1∨qib s n=2:=by
 unfold qib
 split
 ·exact .inl rfl
 ·split
  ·exact .inr (.inl rfl)
  ·exact .inr (.inr rfl)
def qwQ (a b:List (Int × Int)):AObj:=.box [.int .i64 (qhM 0 a),.int .i64 (qhM 1 a),.int .i64 (qhM 2 a),.int .i64 (qhM 0 b),.int .i64 (qhM 1 b),.int .i64 (qhM 2 b)]
section
variable {L:Lib}
theorem qqe (a b:List (Int × Int)) (hl:a.length<2 ^ 30) (hb:b.length=a.length) (ha:∀ p∈a,p.2=0∨p.2=1∨p.2=2) (hbb:∀ p∈b,p.2=0∨p.2=1∨p.2=2) :
  qbl L.pure (call L) 1 [5,7,9,48,49] [2,9] 0 qgV ⟨kt [5,7,9,48,49] [.list (a.map qd1) none,.list (b.map qd1) none,.ptr (some (0,0)),.int .i64 a.length,.int .i64 0],[.box [.int .i64 0,.int .i64 0,.int .i64 0,.int .i64 0,.int .i64 0,.int .i64 0]]⟩ =
   some (.normal,⟨kt [2,9] [.junk,.ptr (some (0,0))],[qwQ a b]⟩):=by
 have key:=qjn (pure:=L.pure) (call:=call L) (b:=1) (keep:=[5,7,9,48,49]) (fk:=[2,9]) (id:=0) (body:=qgV)
  (fun i=>⟨kt [5,7,9,48,49] [.list (a.map qd1) none,.list (b.map qd1) none,.ptr (some (0,0)),.int .i64 a.length,.int .i64 i],[qwQ (a.take i) (b.take i)]⟩) a.length (T:=⟨kt [2,9] [.junk,.ptr (some (0,0))],[qwQ a b]⟩) ?_ ?_
 ·exact key
 ·intro i hi
  obtain⟨h1,h2,h3⟩:=qaT qd1 a hl i hi
  have hib:i<b.length:=by omega
  have h4:(b.map qd1)[i]? = some (qd1 b[i]):=by rw[List.getElem?_map,List.getElem?_eq_getElem hib];rfl
  have hdA:=qdN a
  have hdB:=qdN b
  have hpa:=ha a[i] (List.getElem_mem hi)
  have hpb:=hbb b[i] (List.getElem_mem hib)
  rw[List.take_succ_eq_append_getElem hi,List.take_succ_eq_append_getElem hib]
  have hla:(a.take i).length≤2 ^ 30:=by simp;omega
  have hlb:(b.take i).length≤2 ^ 30:=by simp;omega
  generalize a[i]=pa at *
  generalize b[i]=pb at *
  generalize a.take i=as at *
  generalize b.take i=bs at *
  obtain⟨n,p⟩:=pa
  obtain⟨m,q⟩:=pb
  dsimp only at hpa hpb
  unfold qwQ
  simp only[qq2]
  have w:∀ k (l:List (Int × Int)),l.length≤2 ^ 30→IntKind.i64.wrap (qhM k l+1)=qhM k l+1:=fun k l h=>by
   have:=qvl k l
   exact qcT (by omega) (by omega)
  have x0:=w 0 as hla
  have x1:=w 1 as hla
  have x2:=w 2 as hla
  have y0:=w 0 bs hlb
  have y1:=w 1 bs hlb
  have y2:=w 2 bs hlb
  rw[qgL] at h3 h4
  clear w
  generalize qhM 0 as=c0 at *
  generalize qhM 1 as=c1 at *
  generalize qhM 2 as=c2 at *
  generalize qhM 0 bs=d0 at *
  generalize qhM 1 bs=d1 at *
  generalize qhM 2 bs=d2 at *
  rcases hpa with rfl | rfl | rfl<;>rcases hpb with rfl | rfl | rfl<;>unfold qgV<;>simp -implicitDefEqProofs only[ev_,aOp,opd,qaa,qat,qaD,qaC,qae,qab,qaf,qag,qaP,qak,leaf,qaq,qas,ren,renC,qa0,qbh,↓reduceIte,Nat.reduceEqDiff,Nat.reduceAdd,Nat.reduceMul,Nat.reduceLT,Nat.reduceLeDiff,Int.reduceToNat,Int.reduceLE,Int.reduceLT,Int.reduceEq,qee,gt_iff_lt,Nat.mul_one,Int.le_refl,h1,h2,h3,h4,x0,x1,x2,y0,y1,y2,hdA,hdB,Int.add_zero]
 ·have h0:=qaU a.length
  have hdA:=qdN a
  have hdB:=qdN b
  have e1:a.take a.length=a:=List.take_length
  have e2:b.take a.length=b:=by rw[← hb];exact List.take_length
  rw[e1,e2]
  unfold qwQ
  unfold qgV
  simp -implicitDefEqProofs only[ev_,aOp,opd,qaa,qaD,qaC,qab,gcE,qas,ren,renC,qa0,qbh,↓reduceIte,Nat.reduceEqDiff,Nat.reduceLT,Nat.reduceLeDiff,h0,hdA,hdB]
end
section
variable {L:Lib} (hC:CLib L)
include hC
theorem qjS (h268:L.fns 268=some fn268) (h274:L.fns 274=some fn274) (h232:L.fns 232=some fn232) (h236:L.fns 236=some fn236) (h285:L.fns 285=some fn285) (h295:L.fns 295=some fn295)
  (hrenew:∀ (e:List CExpr) (h:Heap),e.length<2 ^ 30→(∀ x∈e,NodeFit x)→pcall L 140 [.list (e.map qal) none,.int .i64 7] h=some (.val (.tuple [.list ((qbP e 7).1.map qal) none,.int .i64 (qbP e 7).2]),h))
  (srt:List (Int × Int)→List (Int × Int)) (hsrt:∀ l,(srt l).Perm l) (hsort:qot L srt) (hfact:∀ h:Heap,pcall L 275 [] h=some (.val (.bool true),h)) (e:List CExpr) (hl:e.length<2 ^ 30) (hf:∀ x∈e,NodeFit x) (h:Heap) :
  pcall L 268 [.list (e.map qal) none] h=some (.val (.bool true),h):=by
 have hL:=hC.plain
 have hp:=hL.pure
 have hdE:=qaY e
 have hck:=qlc hC e hl hf
 have hre:=fun h=>hrenew e h hl hf
 refine qbo hL h268 rfl ?_ h
 by_cases hz:qa5 e=0
 case neg =>
  have hne:(qa5 e==0)=false:=by simpa using hz
  have hr:qbP e 7=([],qa5 e):=by unfold qbP;rw[if_neg hz]
  have hs:(qa5 e==qa5 e)=true:=by simp
  rw[hr] at hre
  dsimp only at hre
  rw[List.map_nil] at hre
  generalize qa5 e=r at *
  unfold fn268
  simp -implicitDefEqProofs only[ev_,aOp,opd,qaa,qaD,qaC,aUn,qab,qav,qad,qai,qam,↓reduceIte,reduceCtorEq,Nat.reduceEqDiff,qay,qaj,hfact,hck,hre,hne,hs,hdE,qap L hp,hp,List.map_nil,bne]
 obtain⟨hft,hsz⟩:=qiW hz hf
 obtain⟨r0,_,hsm,hfe⟩:=qsr hz hf 7 (by omega) (by omega)
 rw[r0] at hre
 have hcf:qa5 (qbP e 7).1=0:=by
  unfold qsw at hsm
  simp only[Bool.and_eq_true,beq_iff_eq] at hsm
  exact hsm.1.2
 have hff:∀ x∈(qbP e 7).1,NodeFit x:=by
  rw[hfe]
  exact qo6 _ 0 (qpi _ hft _)
 have hlf:(qbP e 7).1.length≤4096:=(qcR hcf).2.1
 have ho1:=qxs hC h274 h232 h236 h285 h295 srt hsort e hl hf
 have ho2:=qxs hC h274 h232 h236 h285 h295 srt hsort (qbP e 7).1 (by omega) hff
 unfold qlN at ho1 ho2
 rw[if_pos hz] at ho1
 rw[if_pos hcf] at ho2
 dsimp only at ho1 ho2
 have hkind:∀ {e:List CExpr} ,∀ p∈srt (qb7 e),p.2=0∨p.2=1∨p.2=2:=by
  intro e p hp
  have:=(hsrt _).mem_iff.1 hp
  unfold qb7 at this
  obtain⟨n,_,rfl⟩:=List.mem_map.1 this
  exact qvF _ n
 have hk1:=hkind (e:=e)
 have hk2:=hkind (e:=(qbP e 7).1)
 have hur:=qsM hz 7 (by omega)
 rw[← hfe] at hur
 have hperm:((srt (qb7 (qbP e 7).1)).map (·.2)).Perm ((srt (qb7 e)).map (·.2)):=(((hsrt _).map _).trans hur).trans ((hsrt _).map _).symm
 have hlen:(srt (qb7 e)).length<2 ^ 30:=by
  rw[(hsrt _).length_eq]
  unfold qb7
  rw[List.length_map]
  have h1:=qgj (qpn hz)
  have h2:=((qda e (qcR hz).1).flatMap_right qbu).length_eq
  rw[qc5 e]
  omega
 have hdF:=qaY (qbP e 7).1
 generalize (qbP e 7).1=f at *
 generalize srt (qb7 f)=b at *
 generalize srt (qb7 e)=a at *
 have hab:b.length=a.length:=by have:=hperm.length_eq;simpa using this
 have hc:∀ k,qhM k b=qhM k a:=fun k=>by unfold qhM;rw[hperm.count_eq]
 have hlp:=qqe (L:=L) a b hlen hab hk1 hk2
 unfold qwQ at hlp
 simp only[hc] at hlp
 have hdA:=qdN a
 have hdB:=qdN b
 have hlb:((a.length:Int)==(b.length:Int))=true:=by rw[hab];simp
 generalize qhM 0 a=c0 at *
 generalize qhM 1 a=c1 at *
 generalize qhM 2 a=c2 at *
 unfold fn268
 simp -implicitDefEqProofs only[ev_,aOp,opd,qaa,qaD,qbC,qaC,aUn,aEq,qcY,qab,qaf,qaN,qav,qad,qai,qam,qas,ren,renC,qa0,qbh,↓reduceIte,reduceCtorEq,Nat.reduceEqDiff,Nat.reduceAdd,Nat.reduceMul,Nat.reduceLT,Nat.reduceLeDiff,Int.reduceToNat,Int.reduceLE,Int.reduceLT,qee,qay,qaj,Int.le_refl,hfact,hck,hre,ho1,ho2,hlp,hlb,hdE,hdF,hdA,hdB,qap L hp,hp,bne]
end
section
variable {L:Lib} (hC:CLib2 L)
include hC
theorem qig (hP:MPrims L) (h160:L.fns 160=some fm160) (h171:L.fns 171=some fn171) (h207:L.fns 207=some fn207) (h208:L.fns 208=some fn208) (h140:L.fns 140=some fn140)
  (h268:L.fns 268=some fn268) (h274:L.fns 274=some fn274) (h232:L.fns 232=some fn232) (h236:L.fns 236=some fn236) (h285:L.fns 285=some fn285) (h295:L.fns 295=some fn295)
  (srt:List (Int × Int)→List (Int × Int)) (hsrt:∀ l,(srt l).Perm l) (hsort:qot L srt) (hfact:∀ h:Heap,pcall L 275 [] h=some (.val (.bool true),h)) (e:List CExpr) (hl:e.length<2 ^ 30) (hf:∀ x∈e,NodeFit x) (h:Heap) :
  pcall L 268 [.list (e.map qal) none] h=some (.val (.bool true),h) :=
 qjS hC.toCLib h268 h274 h232 h236 h285 h295 (fun e h hl hf=>qux hC hP h160 h171 h207 h208 h140 e hl hf 7 h) srt hsrt hsort hfact e hl hf h
end
end Go.Abs
