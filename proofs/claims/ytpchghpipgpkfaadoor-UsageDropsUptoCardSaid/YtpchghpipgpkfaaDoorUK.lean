/-
  PARTS OF A PROOF, joined: an abstract machine for quiet code, its evaluation, and what the seat's functions answer on it. Conditions: none.
-/
import Derived.Test.YtpchghpipgpkfaaDoorUG
import Derived.Test.YtpchghpipgpkfaaDoorD
import Derived.Test.YtpchghpipgpkfaaDoorRA
import Derived.Test.YtpchghpipgpkfaaDoorRY
import Derived.Test.YtpchghpipgpkfaaDoorUA
import Derived.Test.YtpchghpipgpkfaaDoorRM
set_option linter.unusedVariables false
set_option linter.unusedSimpArgs false
set_option maxRecDepth 100000
set_option maxHeartbeats 8000000
namespace Go.Abs
theorem qnT:∀ {cs:List AVal},qas cs=true→cs.flatMap qaW=[]
 | [],_=>rfl
 | c :: cs,h => by
   rw[qas,Bool.and_eq_true] at h
   rw[List.flatMap_cons,qnT h.2,List.append_nil]
   unfold qaW
   rw[if_pos h.1]
theorem qoF (ρ:Nat→Option Nat):∀ {cs:List AVal},qas cs=true→cs.map (ren ρ)=cs
 | [],_=>rfl
 | c :: cs,h => by
   rw[qas,Bool.and_eq_true] at h
   rw[List.map_cons,qoF ρ h.2]
   unfold ren
   rw[if_pos h.1]
theorem qki {p:Nat} {nl:List Nat} {h h2:Heap} {o:AObj} (hp:h[p]? = some o) (hr:qej (qbW [p] nl h.length) ((h2[0]?).getD .gone)=o) :
  qei [p] nl h h2=h++nl.map fun j=>qej (qbW [p] nl h.length) ((h2[j]?).getD .gone):=by
 rw[qh0]
 congr 1
 refine List.ext_getElem? fun i=>?_
 by_cases hi:i<h.length
 ·rw[qtE [p] nl _ h2 h 0 i h[i] (List.getElem?_eq_getElem hi),Nat.zero_add,List.getElem?_eq_getElem hi]
  by_cases hip:p=i
  ·subst hip
   have e:h[p]=o:=by rw[List.getElem?_eq_getElem hi] at hp;injection hp
   simp only[qav,if_true]
   rw[hr,e]
  ·simp only[qav,if_neg hip]
 ·rw[List.getElem?_eq_none (by rw[qkf];omega),List.getElem?_eq_none (by omega)]
theorem qtR {call:CallT} {f p n sz:Nat} {cs xs:List AVal} {h:Heap} (hp:h[p]? = some (.box cs)) (hcs:qas cs=true) (hxs:qas xs=true)
  (hc:call f [.ptr (some (0,0))] [.box cs]=some (.val (.list xs (qdb 1 n)),.box cs::qbA sz n)) :
  qiH call f [.ptr (some (p,0))] h=some (.val (.list xs (qdb h.length n)),h++qbA sz n):=by
 have hlt:p<h.length:=(List.getElem?_eq_some_iff.1 hp).1
 have hids:qkK (.box cs)=[]:=qnT hcs
 have hg:∀ l,l=[p]→grow h l=[p]:=by
  rintro _ rfl
  rw[qpL,List.flatMap_cons,List.flatMap_nil,hp]
  show qci 0 (qkK (.box cs)++[]) [p]=_
  rw[hids]
  rfl
 have h0:qci 0 ([AVal.ptr (some (p,0))].flatMap qaW) []=[p]:=by simp[qaW,qax,qbc,qci]
 have hroots:qbu [.ptr (some (p,0))] h=[p]:=by
  rw[qh2,h0]
  exact hg _ (hg _ (hg _ rfl))
 have hren:∀ ρ,qej ρ (.box cs)=.box cs:=fun ρ=>by
  show AObj.box (cs.map (ren ρ))=_
  rw[qoF ρ hcs]
 have hsub:qcB [p] h=[.box cs]:=by
  rw[qh6,List.map_cons,List.map_nil,hp]
  exact congrArg (fun x=>[x]) (hren _)
 have harg:([AVal.ptr (some (p,0))].map (ren fun i=>qav i [p] 0))=[.ptr (some (0,0))]:=by simp[ren,renC,qax,qav]
 rw[qmP,hroots,if_pos (by simpa using hlt),harg,hsub,hc]
 dsimp only
 rw[qgB,qj7]
 have hdl:qax (.list xs (some none))=true:=by simp[qax,hxs]
 rcases qeA 1 sz n with ⟨o1,o2⟩ | ⟨o1,o2⟩<;>rcases qeA h.length sz n with ⟨o3,o4⟩ | ⟨o3,o4⟩
 ·rw[o1,o2,o3]
  have hid:qaW (.list xs (some none))=[]:=by unfold qaW;rw[if_pos hdl]
  have hnl:qci [p].length (qaW (.list xs (some none))++([AObj.box cs].take [p].length).flatMap qkK) []=[]:=by
   rw[hid,List.nil_append]
   show qci 1 (qkK (.box cs)++[]) []=[]
   rw[hids];rfl
  rw[hnl,qki hp (hren _)]
  have hr:ren (qbW [p] [] h.length) (.list xs (some none))=.list xs (some none):=by unfold ren;rw[if_pos hdl]
  rw[hr]
  rfl
 ·rw[o2] at o4;cases o4
 ·rw[o2] at o4;cases o4
 ·rw[o1,o2,o3]
  have hnd:qax (.list xs (some (some 1)))=false:=by simp[qax]
  have hid:qaW (.list xs (some (some 1)))=[1]:=by unfold qaW;rw[if_neg (by rw[hnd];decide)];show qbc _=_;unfold qbc;rw[if_neg (by rw[hnd];decide)]
  have hnl:qci [p].length (qaW (.list xs (some (some 1)))++((AObj.box cs::[.tail n sz]).take [p].length).flatMap qkK) []=[1]:=by
   rw[hid]
   show qci 1 ([1]++(qkK (.box cs)++[])) []=[1]
   rw[hids];rfl
  rw[hnl,qki hp (hren _)]
  have hb:qbW [p] [1] h.length 1=some h.length:=by simp[qbW,qav]
  have hr:ren (qbW [p] [1] h.length) (.list xs (some (some 1)))=.list xs (some (some h.length)):=by
   unfold ren
   rw[if_neg (by rw[hnd];decide)]
   dsimp only
   unfold renC
   rw[if_neg (by rw[hnd];decide)]
   dsimp only
   rw[if_pos hxs,hb]
  rw[hr]
  rfl
def qaP (out:List (Int × Int)):List AVal:=(out.map qd4).flatMap acells
theorem qb1 (out:List (Int × Int)):(qaP out).length=out.length*2:=by
 unfold qaP
 induction out with
 | nil=>rfl
 | cons p l ih =>
   rw[List.map_cons,List.flatMap_cons,List.length_append,ih]
   show 2+_=_
   simp
   omega
theorem qm8 (out:List (Int × Int)) (p:Int × Int):qaP (out++[p])=qaP out++[.int .i64 p.1,.int .i64 p.2]:=by
 unfold qaP
 rw[List.map_append,List.flatMap_append]
 rfl
theorem qm7 (out:List (Int × Int)):(qaP out).all leaf=true:=by
 unfold qaP
 rw[List.all_eq_true]
 intro v hv
 obtain⟨x,hx,hv⟩:=List.mem_flatMap.1 hv
 obtain⟨p,_,rfl⟩:=List.mem_map.1 hx
 rw[qfw] at hv
 simp only[acells,List.mem_cons,List.not_mem_nil,or_false] at hv
 rcases hv with rfl | rfl<;>rfl
theorem qli:∀ (out:List (Int × Int)),qfs 2 out.length (qaP out)=out.map qd4
 | []=>rfl
 | p :: l => by
   have h:qaP (p::l)=.int .i64 p.1::.int .i64 p.2::qaP l:=rfl
   rw[h,List.length_cons,qfs,List.map_cons]
   show AVal.agg [.int .i64 p.1,.int .i64 p.2]::qfs 2 l.length (qaP l)=_
   rw[qli l]
   rfl
def UV (H:Heap) (out:List (Int × Int)) (v:AVal):Prop:=(out=[]∧v=.list [] (some none))∨(out≠[]∧∃ id,v=.vec id out.length∧4≤id∧H[id]? = some (.vec (qaP out) 2))
theorem UV.frame {H H':Heap} {out:List (Int × Int)} {v:AVal} (h:UV H out v) (he:∀ i,4≤i→i<H.length→H'[i]? = H[i]?):UV H' out v:=by
 rcases h with h | ⟨h1,id,h2,h3,h4⟩
 ·exact .inl h
 ·exact .inr ⟨h1,id,h2,h3,by rw[he id h3 (hlt h4)];exact h4⟩
theorem UV.app {H:Heap} {out:List (Int × Int)} {v:AVal} (h:UV H out v) (hH:4≤H.length) (hn:out.length+1≤1073741824) (p:Int × Int) (o:Option (Option Nat)) :
  ∃ v' H',qdh H 2 v (.list [.agg [.int .i64 p.1,.int .i64 p.2]] o)=some (v',H')∧UV H' (out++[p]) v'∧H.length≤H'.length∧∀ i,i<4→H'[i]? = H[i]? := by
 rcases h with ⟨rfl,rfl⟩ | ⟨h1,id,rfl,h3,h4⟩
 ·refine⟨.vec H.length 1,H++[.vec [.int .i64 p.1,.int .i64 p.2] 2],?_,.inr ⟨by simp,H.length,rfl,hH,hgl rfl⟩,by simp,fun i hi=>hga (by omega)⟩
  unfold qdh
  dsimp only
  rw[if_neg (by simp),if_pos ⟨rfl,by unfold qe3;simp⟩]
  rfl
 ·have hl:=hlt h4
  refine⟨.vec H.length (out.length+1),H.set id .gone++[.vec (qaP out++[.int .i64 p.1,.int .i64 p.2]) 2],?_,.inr ⟨by simp,H.length,by rw[List.length_append];rfl,hH,?_⟩,by simp,fun i hi=>?_⟩
  ·unfold qdh
   dsimp only
   unfold qa4
   dsimp only
   rw[if_neg (by simp),h4]
   dsimp only
   rw[if_pos ⟨rfl,qb1 out,rfl,hn⟩]
   rfl
  ·rw[qm8]
   exact hgl (by simp)
  ·rw[hga (by simp;omega),hgn (by omega)]
theorem UV.view {H:Heap} {out:List (Int × Int)} {v:AVal} (h:UV H out v):qeo H (.tuple [v,.int .i64 0])=.tuple [.list (out.map qd4) none,.int .i64 0]:=by
 rcases h with ⟨rfl,rfl⟩ | ⟨h1,id,rfl,h3,h4⟩
 ·rfl
 ·unfold qeo
  rw[if_neg (by simp[wipeR,wipe,wipeCell,qax,qas])]
  have hmap:∀ n,(qaP out).map (qaV H (n+1))=qaP out:=by
   intro n
   unfold qaP
   refine (List.map_congr_left fun v hv=>?_).trans (List.map_id _)
   obtain⟨x,hx,hv⟩:=List.mem_flatMap.1 hv
   obtain⟨p,_,rfl⟩:=List.mem_map.1 hx
   rw[qfw] at hv
   simp only[acells,List.mem_cons,List.not_mem_nil,or_false] at hv
   rcases hv with rfl | rfl<;>rfl
  have hv:qaV H 1999 (.vec id out.length)=.list (out.map qd4) none:=by
   show (if qax (.vec id out.length)=true then _ else qck H (qaV H 1998) (.vec id out.length))=_
   rw[if_neg (by simp[qax])]
   unfold qck
   dsimp only
   rw[h4]
   dsimp only
   rw[if_pos (qm7 out),if_neg (by omega),if_pos ⟨by decide,(qb1 out).symm⟩,hmap 1997,qli]
  unfold viewV
  show wipeR (if qax (.tuple [.vec id out.length,.int .i64 0])=true then _ else qck H (qaV H 1999) (.tuple [.vec id out.length,.int .i64 0]))=_
  rw[if_neg (by simp[qax,qas])]
  unfold qck
  dsimp only
  rw[List.map_cons,List.map_cons,List.map_nil,hv]
  rfl
structure CntH (H:Heap) (U:US):Prop where
 uses:H[0]? = some (.map (encB U.uses))
 many:H[2]? = some (.map (encB U.many))
 box:H[3]? = some (.box [.map (some 0),.map (some 1),.map (some 2)])
 len:4≤H.length
theorem CntH.frame {H H':Heap} {U:US} (h:CntH H U) (hl:H.length≤H'.length) (he:∀ i,i<4→H'[i]? = H[i]?):CntH H' U :=
 ⟨by rw[he 0 (by omega)];exact h.uses,by rw[he 2 (by omega)];exact h.many,by rw[he 3 (by omega)];exact h.box,Nat.le_trans h.len hl⟩
section
variable {L:Lib}
theorem qz6 {b:Nat} (U:US) (E:AVal) (ne i0:Int) (bs:List Int) (hl:bs.length<2 ^ 30) (ob:Option (Option Nat)) (out0:List (Int × Int)) (hn:out0.length+bs.length≤1073741824) (H0:Heap) (v0:AVal) (hc:CntH H0 U) (hv:UV H0 out0 v0) :
  ∃ T,qbd L.pure (call L) b [1000000,5,7,28,29,30,42,43,44] [1000000,5,7,28,29,30] 2 qdE
   ⟨kt [5,7,28,29,30,42,43,44] [.ptr (some (3,0)),v0,E,.int .i64 ne,.int .i64 i0,.list (bs.map qau) ob,.int .i64 bs.length,.int .i64 0],H0⟩=some (.normal,T) ∧
   ∃ H v,T=⟨kt [5,7,28,29,30] [.ptr (some (3,0)),v,E,.int .i64 ne,.int .i64 i0],H⟩∧CntH H U∧UV H (out0++bs.map fun n=>(n,qkT U n)) v:=by
 refine qbC (pure:=L.pure) (call:=call L) (b:=b) (id:=2) (body:=qdE)
  (fun j s=>∃ H v,s=⟨kt [5,7,28,29,30,42,43,44] [.ptr (some (3,0)),v,E,.int .i64 ne,.int .i64 i0,.list (bs.map qau) ob,.int .i64 bs.length,.int .i64 (j:Nat)],H⟩∧CntH H U∧UV H (out0++(bs.take j).map fun n=>(n,qkT U n)) v) bs.length _ ?_ ?_ ?_
 ·intro j s hj hs
  obtain⟨H,v,rfl,hC,hV⟩:=hs
  obtain⟨h1,h2,h3⟩:=qaN qau bs hl j hj
  have ht:out0++(bs.take (j+1)).map (fun n=>(n,qkT U n))=(out0++(bs.take j).map fun n=>(n,qkT U n))++[(bs[j],qkT U bs[j])]:=by
   rw[List.take_succ_eq_append_getElem hj,List.map_append,List.append_assoc];rfl
  rw[ht]
  have hlen:(out0++(bs.take j).map fun n=>(n,qkT U n)).length+1≤1073741824:=by simp;omega
  generalize (out0++(bs.take j).map fun n=>(n,qkT U n))=out at *
  generalize bs[j]=n at *
  have hb:=hC.box
  have l0:=qoi H 0 n U.uses hC.uses
  have l2:=qoi H 2 n U.many hC.many
  obtain⟨v',H',a1,a2,a3,a4⟩:=hV.app hC.len hlen (n,qkT U n) (some none)
  dsimp only at a1
  have hC':=hC.frame a3 a4
  obtain⟨r,hr0⟩:∃ r,qa8 L.pure (call L) b [1000000,5,7,28,29,30,42,43,44] [1000000,5,7,28,29,30] qdE
   ⟨kt [5,7,28,29,30,42,43,44] [.ptr (some (3,0)),v,E,.int .i64 ne,.int .i64 i0,.list (bs.map qau) ob,.int .i64 bs.length,.int .i64 (j:Nat)],H⟩=r:=⟨_,rfl⟩
  have hr:=hr0
  unfold qkT at a1
  by_cases q0:qbQ n U.uses=0
  ·rw[if_pos q0] at a1
   have b0:(qbQ n U.uses==0)=true:=by simpa using q0
   unfold qdE at hr
   simp -implicitDefEqProofs only[ev_,aOp,opd,qaa,qaA,qaz,qad,qab,qag,qai,qbK,qbY,leaf,qao,↓reduceIte,Nat.reduceEqDiff,Nat.reduceAdd,Nat.reduceLeDiff,qa9,h1,h2,h3,hb,l0,l2,b0,a1] at hr
   subst hr
   exact⟨_,hr0,H',v',rfl,hC',a2⟩
  ·rw[if_neg q0] at a1
   have b0:(qbQ n U.uses==0)=false:=by simpa using q0
   by_cases q1:qbQ n U.uses=1
   ·have b1:(qbQ n U.uses==1)=true:=by simpa using q1
    by_cases q2:qbQ n U.many=0
    ·rw[if_pos ⟨q1,q2⟩] at a1
     have b2:(qbQ n U.many==0)=true:=by simpa using q2
     unfold qdE at hr
     simp -implicitDefEqProofs only[ev_,aOp,opd,qaa,qaA,qaz,qad,qab,qae,qag,qai,qbK,qbY,leaf,qao,↓reduceIte,Nat.reduceEqDiff,Nat.reduceAdd,Nat.reduceLeDiff,qa9,h1,h2,h3,hb,l0,l2,b0,b1,b2,a1] at hr
     subst hr
     exact⟨_,hr0,H',v',rfl,hC',a2⟩
    ·rw[if_neg (fun h=>q2 h.2)] at a1
     have b2:(qbQ n U.many==0)=false:=by simpa using q2
     unfold qdE at hr
     simp -implicitDefEqProofs only[ev_,aOp,opd,qaa,qaA,qaz,qad,qab,qae,qag,qai,qbK,qbY,leaf,qao,↓reduceIte,Nat.reduceEqDiff,Nat.reduceAdd,Nat.reduceLeDiff,qa9,h1,h2,h3,hb,l0,l2,b0,b1,b2,a1] at hr
     subst hr
     exact⟨_,hr0,H',v',rfl,hC',a2⟩
   ·rw[if_neg (fun h=>q1 h.1)] at a1
    have b1:(qbQ n U.uses==1)=false:=by simpa using q1
    unfold qdE at hr
    simp -implicitDefEqProofs only[ev_,aOp,opd,qaa,qaA,qaz,qad,qab,qae,qag,qai,qbK,qbY,leaf,qao,↓reduceIte,Nat.reduceEqDiff,Nat.reduceAdd,Nat.reduceLeDiff,qa9,h1,h2,h3,hb,l0,l2,b0,b1,a1] at hr
    subst hr
    exact⟨_,hr0,H',v',rfl,hC',a2⟩
 ·intro s hs
  obtain⟨H,v,rfl,hC,hV⟩:=hs
  have h0:=qaO bs.length
  rw[List.take_length] at hV
  refine⟨_,?_,H,v,rfl,hC,hV⟩
  unfold qdE
  simp -implicitDefEqProofs only[ev_,aOp,opd,qaa,qaA,qaz,qab,gcE,↓reduceIte,Nat.reduceEqDiff,h0]
 ·exact⟨H0,v0,rfl,hc,by rw[List.take_zero,List.map_nil,List.append_nil];exact hv⟩
theorem qz7 (hL:Plain L) (h232:L.fns 232=some fn232) {b:Nat} (U:US) (e:List CExpr) (hl:e.length<2 ^ 30) (hf:∀ x∈e,NodeFit x) (hbf:∀ x∈e,quv x) (hn:(e.flatMap qaH).length≤1073741824) (H0:Heap) (hc:CntH H0 U) :
  ∃ T,qbd L.pure (call L) b [1000000,5,7,28,29,30] [1000000,7] 0 qga
   ⟨kt [5,7,28,29,30] [.ptr (some (3,0)),.list [] (some none),.list (e.map qam) none,.int .i64 e.length,.int .i64 0],H0⟩=some (.normal,T) ∧
   ∃ H v,T=⟨kt [7] [v],H⟩∧UV H ((e.flatMap qaH).map fun n=>(n,qkT U n)) v:=by
 refine qbC (pure:=L.pure) (call:=call L) (b:=b) (id:=0) (body:=qga)
  (fun i s=>∃ H v,s=⟨kt [5,7,28,29,30] [.ptr (some (3,0)),v,.list (e.map qam) none,.int .i64 e.length,.int .i64 (i:Nat)],H⟩∧CntH H U∧UV H (((e.take i).flatMap qaH).map fun n=>(n,qkT U n)) v) e.length _ ?_ ?_ ?_
 ·intro i s hi hs
  obtain⟨H,v,rfl,hC,hV⟩:=hs
  obtain⟨h1,h2,h3⟩:=qaN qam e hl i hi
  have hx:=hf e[i] (List.getElem_mem hi)
  have ht:((e.take (i+1)).flatMap qaH).map (fun n=>(n,qkT U n))=((e.take i).flatMap qaH).map (fun n=>(n,qkT U n))++(qaH e[i]).map fun n=>(n,qkT U n):=by
   rw[List.take_succ_eq_append_getElem hi,List.flatMap_append,List.map_append,List.flatMap_cons,List.flatMap_nil,List.append_nil]
  rw[ht]
  have hsum:((e.take i).flatMap qaH).length+(qaH e[i]).length≤1073741824:=by
   have h4:(e.take (i+1)).flatMap qaH=(e.take i).flatMap qaH++qaH e[i]:=by
    rw[List.take_succ_eq_append_getElem hi,List.flatMap_append,List.flatMap_cons,List.flatMap_nil,List.append_nil]
   have h5:((e.take (i+1)).flatMap qaH).length≤(e.flatMap qaH).length:=by
    have h6:e.flatMap qaH=(e.take (i+1)).flatMap qaH++(e.drop (i+1)).flatMap qaH:=by rw[← List.flatMap_append,List.take_append_drop]
    rw[h6,List.length_append];omega
   rw[h4,List.length_append] at h5
   omega
  have hbl:(qaH e[i]).length<2 ^ 30∧(e[i].binds++e[i].alts.flatMap (·.binds)).length≤2 ^ 30:=by
   have h7:(e[i].binds++e[i].alts.flatMap (·.binds)).length<2 ^ 30:=hbf e[i] (List.getElem_mem hi)
   refine⟨?_,by omega⟩
   unfold qaH qbz
   rw[List.length_append] at h7 ⊢
   split
   ·omega
   ·rw[List.length_nil];omega
  have halts:=hx.alts
  have hol:(((e.take i).flatMap qaH).map fun n=>(n,qkT U n)).length+(qaH e[i]).length≤1073741824:=by rw[List.length_map];exact hsum
  generalize ((e.take i).flatMap qaH).map (fun n=>(n,qkT U n))=out at *
  generalize e[i]=x at *
  have hrc:=qtR (call:=call L) (f:=232) (p:=H.length+1) (n:=(qaH x).length) (sz:=1) (cs:=[.int .i64 x.op,.int .i64 0,.list (x.binds.map qau) none,.list [] (some none),.list (x.alts.map qar) none]) (xs:=(qaH x).map qau)
   (h:=H++[.box [.int .i64 x.op,.int .i64 x.n,.list (x.binds.map qau) none,.list (x.kids.map qau) none,.list (x.alts.map qar) none],.box [.int .i64 x.op,.int .i64 0,.list (x.binds.map qau) none,.list [] (some none),.list (x.alts.map qar) none]])
   (qvs rfl) (by simp[qas,qax,qah,qak]) (qah _) (qpw hL h232 x.op 0 x.binds (.list [] (some none)) rfl x.alts halts hbl.2)
  have hdc:qb8 L.pure (call L) 232 [.ptr (some (H.length+1,0))] (H++[.box [.int .i64 x.op,.int .i64 x.n,.list (x.binds.map qau) none,.list (x.kids.map qau) none,.list (x.alts.map qar) none],.box [.int .i64 x.op,.int .i64 0,.list (x.binds.map qau) none,.list [] (some none),.list (x.alts.map qar) none]])=_:=(qpG rfl).trans hrc
  generalize hH3:(H++[.box [.int .i64 x.op,.int .i64 x.n,.list (x.binds.map qau) none,.list (x.kids.map qau) none,.list (x.alts.map qar) none],.box [.int .i64 x.op,.int .i64 0,.list (x.binds.map qau) none,.list [] (some none),.list (x.alts.map qar) none]]:Heap)++qbA 1 (qaH x).length=H3 at hdc
  generalize qdb _ (qaH x).length=ob at hdc
  have hle3:H.length≤H3.length:=by rw[← hH3];simp
  have hke3:∀ q,q<H.length→H3[q]? = H[q]? := fun q hq=>by rw[← hH3,List.append_assoc,hga hq]
  clear hrc hH3
  obtain⟨T,t1,H4,v4,rfl,t3,t4⟩:=qz6 (L:=L) (b:=H3.length) U (.list (e.map qam) none) (e.length:Int) (i:Int) (qaH x) hbl.1 ob out hol H3 v (hC.frame hle3 fun q hq=>hke3 q (by have:=hC.len;omega)) (hV.frame fun q _ hq=>hke3 q hq)
  obtain⟨r,hr0⟩:∃ r,qa8 L.pure (call L) b [1000000,5,7,28,29,30] [1000000,7] qga
   ⟨kt [5,7,28,29,30] [.ptr (some (3,0)),v,.list (e.map qam) none,.int .i64 e.length,.int .i64 (i:Nat)],H⟩=r:=⟨_,rfl⟩
  have hr:=hr0
  unfold qga at hr
  simp -implicitDefEqProofs only[ev_,aOp,opd,qaa,qaq,qaA,qbq,qaz,qad,qab,qag,qaL,qaK,qai,qbK,qbY,leaf,qao,↓reduceIte,Nat.reduceEqDiff,Nat.reduceAdd,Nat.reduceLeDiff,qaR,h1,h2,h3,hgl,hsl,hga,hdc,t1] at hr
  subst hr
  exact⟨_,hr0,H4,v4,rfl,t3,t4⟩
 ·intro s hs
  obtain⟨H,v,rfl,hC,hV⟩:=hs
  have h0:=qaO e.length
  rw[List.take_length] at hV
  refine⟨_,?_,H,v,rfl,hV⟩
  unfold qga
  simp -implicitDefEqProofs only[ev_,aOp,opd,qaa,qaA,qaz,qab,gcE,↓reduceIte,Nat.reduceEqDiff,h0]
 ·exact⟨H0,_,rfl,hc,.inl ⟨rfl,rfl⟩⟩
end
def qsh (L:Lib) (srt:List (Int × Int)→List (Int × Int)):Prop:=∀ (out:List (Int × Int)) (H:Heap) (v:AVal),UV H out v→out.length<1073741824→∃ H',call L 286 [v,.func 287 [] []] H=some (.val (.tuple []),H')∧UV H' (srt out) v
section
variable {L:Lib} (hC:CLib L)
include hC
theorem qz8 (h274:L.fns 274=some fn274) (h232:L.fns 232=some fn232) (h236:L.fns 236=some fn236) (h285:L.fns 285=some fn285) (h295:L.fns 295=some fn295) (srt:List (Int × Int)→List (Int × Int)) (hsort:qsh L srt) (e:List CExpr) (hl:e.length<2 ^ 30) (hf:∀ x∈e,NodeFit x) (h:Heap) :
  pcall L 274 [.list (e.map qam) none] h=some (.val (.tuple [.list ((qm5 srt e).1.map qd4) none,.int .i64 (qm5 srt e).2]),h):=by
 have hL:=hC.plain
 have hp:=hL.pure
 have hdE:=qaY e
 have hck:=qmo hC e hl hf
 unfold qm5
 by_cases hz:qa2 e=0
 case neg =>
  have hne:(qa2 e==0)=false:=by simpa using hz
  rw[if_neg hz]
  refine qa5 hL h274 rfl ?_ h
  generalize qa2 e=r at *
  unfold fn274
  simp -implicitDefEqProofs only[ev_,aOp,opd,qaa,qaA,qaz,qab,qap,qac,qaf,qaj,↓reduceIte,reduceCtorEq,Nat.reduceEqDiff,qay,qal,hck,hne,hdE,qan L hp,hp,List.map_nil,bne]
 rw[if_pos hz]
 dsimp only
 rw[hz] at hck
 obtain⟨hT,hn4,hh,hlab,hnd,hfr⟩:=qbM hz
 obtain⟨hft,hsz⟩:=qnz hz hf
 have hbf:=qmC hT hn4 hlab
 have hgr:=fun h=>hC.grow e h hl hf hT (by omega)
 have hus:=qzC hL h285 h295 h236 (qbw e) hft 0 u0 0 (by omega) (by omega) (fun v=>by simp[u0,qbQ,qbt]) (by omega)
 have hbm2:(e.flatMap qaH).length≤131072:=by
  have h1:=qjk (ql5 hz)
  have h2:=((qda e hT).flatMap_right qch).length_eq
  rw[qeK e]
  omega
 have hbm:(e.flatMap qaH).length≤1073741824:=by omega
 obtain⟨tc,htc,hdt⟩:=qcf (qbw e)
 rw[htc] at hgr hus
 have hus2:call L 285 [.ptr (some (0,0)),.vptr tc 0,.int .i64 0] [.box [.map (some 1),.map (some 2),.map (some 3)],.map [],.map [],.map []]=some (.val (.tuple []),[.box [.map (some 1),.map (some 2),.map (some 3)],.map (encB (qna (qbw e) 0 u0).uses),.map (encB (qna (qbw e) 0 u0).depth),.map (encB (qna (qbw e) 0 u0).many)]):=hus
 have hraw:qdj e=(e.flatMap qaH).map fun n=>(n,qkT (qna (qbw e) 0 u0) n):=rfl
 generalize qna (qbw e) 0 u0=U at *
 obtain⟨T,t1,H,v,rfl,t3⟩:=qz7 (L:=L) (b:=4) hL h232 U e hl hf hbf hbm [.map (encB U.uses),.map (encB U.depth),.map (encB U.many),.box [.map (some 0),.map (some 1),.map (some 2)]] ⟨rfl,rfl,rfl,Nat.le_refl _⟩
 rw[← hraw] at t3
 obtain⟨H',s1,s2⟩:=hsort (qdj e) H v t3 (by rw[hraw,List.length_map];omega)
 have hcall:call L 274 [.list (e.map qam) none] []=some (.val (.tuple [v,.int .i64 0]),H'):=by
  refine qaM (hL.summ 274 (by rw[h274];simp)) h274 ?_
  unfold fn274
  simp -implicitDefEqProofs only[ev_,aOp,opd,qaa,qaA,qbq,qaz,qab,qbK,qbY,qao,qap,qac,qaf,qaj,qav,ren,renC,qaW,qbc,↓reduceIte,reduceCtorEq,Nat.reduceEqDiff,Nat.reduceAdd,Nat.reduceLT,Nat.reduceLeDiff,qay,hck,hgr,hus2,t1,s1,hdE,hdt,qdz,qdA,qan L hp,hp,bne]
 exact qb5 hcall s2.view (by simp only[qfB,qfA,qgM,qaT,qjD,qhT,Bool.and_true]) h
end
end Go.Abs
set_option maxHeartbeats 4000000
namespace Go.Abs
inductive Repl (a b:CTree):CTree→CTree→Prop
 | here:Repl a b a b
 | same (t:CTree):Repl a b t t
 | node (op n:Int) (binds:List Int) (kids kids':List CTree) (alts:List CAlt) (hk:All2 (Repl a b) kids kids'):Repl a b (.mk op n binds kids alts) (.mk op n binds kids' alts)
theorem qyx {e:List CExpr} (hA:qeH e) (i:Nat) (t':CTree):∀ k,k<e.length→Repl (qbn e i) t' (qbn e k) (qcP e i t' k):=by
 intro k
 induction k using Nat.strongRecOn with
 | ind k ih =>
   intro hk
   rw[qkm e hA i t' k hk]
   by_cases h:k=i
   ·subst h
    rw[if_pos rfl]
    exact .here
   ·rw[if_neg h,qca e hA k hk]
    refine .node _ _ _ _ _ _ ?_
    have hall:∀ q∈e[k].kids,Repl (qbn e i) t' (qbn e q.toNat) (qcP e i t' q.toNat):=fun q hq=>by
     have:=hA k hk q hq
     exact ih q.toNat (by omega) (by omega)
    revert hall
    generalize e[k].kids=ks
    intro hall
    induction ks with
    | nil=>exact .nil
    | cons q ks ih2=>exact .cons (hall q List.mem_cons_self) (ih2 fun x hx=>hall x (List.mem_cons_of_mem _ hx))
structure LabLe (l l':Lab):Prop where
 op:l'.op=l.op
 n:l'.n=l.n
 binds:l'.binds=l.binds
 alts:l'.alts=l.alts
 len:l'.kops.length=l.kops.length
 kop:∀ i,l'.kops.getD i 0=l.kops.getD i 0∨l.kops.getD i 0=4
theorem LabLe.refl (l:Lab):LabLe l l:=⟨rfl,rfl,rfl,rfl,rfl,fun _=>.inl rfl⟩
theorem LabLe.ok {l l':Lab} (h:LabLe l l') (h0:qbL false l=0):qbL false l'=0:=by
 obtain⟨op,n,binds,kops,alts⟩:=l
 obtain⟨op',n',binds',kops',alts'⟩:=l'
 obtain⟨h1,h2,h3,h4,h5,h6⟩:=h
 dsimp only at *
 subst h1 h2 h3 h4
 unfold qbL at *
 dsimp only at *
 split at h0
 ·exact absurd h0 (by decide)
 ·rename_i hb
  rw[if_neg hb]
  unfold qqB at *
  dsimp only at *
  rw[h5]
  split at h0
  ·exact absurd h0 (by decide)
  ·rename_i hs
   rw[if_neg hs]
   split at h0
   ·rename_i hr;exact absurd h0 hr
   ·rename_i hr
    rw[if_neg hr]
    split at h0
    ·exact absurd h0 (by decide)
    ·rename_i hf
     rw[if_neg]
     intro hx
     refine hf ?_
     rw[qiO (fun i _=>qdV kops' op' binds' i) binds' 0] at hx
     rw[qiO (fun i _=>qdV kops op' binds' i) binds' 0]
     obtain⟨i,hi,hn⟩:=hx
     refine⟨i,hi,?_⟩
     rw[Nat.zero_add] at *
     unfold qdV at *
     rcases h6 i with h | h
     ·rw[← h];exact hn
     ·rw[h]
      cases hq:(op'==5) with
      | true=>simp
      | false=>rw[hq] at hn;simpa using hn
theorem qlN {l:Lab}:∀ {ks:List CTree},l∈qbr ks→∃ k∈ks,l∈qbp k
 | k :: ks,h => by
   rw[qbr] at h
   rcases List.mem_append.1 h with h | h
   ·exact⟨k,List.mem_cons_self,h⟩
   ·obtain⟨q,h1,h2⟩:=qlN h
    exact⟨q,List.mem_cons_of_mem _ h1,h2⟩
theorem All2.mem_right {α β:Type} {R:α→β→Prop} {xs:List α} {ys:List β} (h:All2 R xs ys) {y:β} (hy:y∈ys):∃ x∈xs,R x y:=by
 induction h with
 | nil=>cases hy
 | cons h _ ih =>
   rcases List.mem_cons.1 hy with rfl | hy
   ·exact⟨_,List.mem_cons_self,h⟩
   ·obtain⟨x,h1,h2⟩:=ih hy
    exact⟨x,List.mem_cons_of_mem _ h1,h2⟩
theorem All2.at_ {α β:Type} {R:α→β→Prop} {xs:List α} {ys:List β} (h:All2 R xs ys):∀ (j:Nat) (hj:j<ys.length),∃ hx:j<xs.length,R xs[j] ys[j]:=by
 induction h with
 | nil=>intro j hj;exact absurd hj (by simp)
 | cons h _ ih =>
   intro j hj
   cases j with
   | zero=>exact⟨by simp,h⟩
   | succ j =>
     obtain⟨hx,hr⟩:=ih j (by simpa using hj)
     exact⟨by simpa using hx,hr⟩
section
variable {n id:Int} {v body:CTree} {alts:List CAlt}
theorem CTree.ind2 {P:CTree→Prop} (h:∀ op n binds kids alts,(∀ k∈kids,P k)→P (.mk op n binds kids alts)) (t:CTree):P t:=by
 induction t using CTree.ind with
 | h op n binds kids alts ih=>exact h op n binds kids alts ih
theorem qtZ {a b:CTree} (hab:qaJ b≤qaJ a∧hgt b≤hgt a) (t:CTree):∀ t',Repl a b t t'→qaJ t'≤qaJ t∧hgt t'≤hgt t:=by
 induction t using CTree.ind2 with
 | h op n binds kids alts ih =>
   intro t' h
   cases h with
   | here=>exact hab
   | same=>exact⟨Nat.le_refl _,Nat.le_refl _⟩
   | node _ _ _ _ kids' _ hk =>
     have:qat kids'≤qat kids∧qc4 kids'≤qc4 kids:=by
      clear hab
      induction hk with
      | nil=>exact⟨Nat.le_refl _,Nat.le_refl _⟩
      | @cons x y xs ys h _ ih2 =>
        obtain⟨h1,h2⟩:=ih x List.mem_cons_self y h
        obtain⟨h3,h4⟩:=ih2 fun k hk=>ih k (List.mem_cons_of_mem _ hk)
        rw[qat,qat,qc4,qc4]
        omega
     rw[qaJ,qaJ,hgt,hgt]
     omega
theorem qtY {a b:CTree} (ha:qdy a=4) {t t':CTree} (h:Repl a b t t'):qdy t'=qdy t∨qdy t=4:=by
 cases h with
 | here=>exact .inr ha
 | same=>exact .inl rfl
 | node=>exact .inl rfl
theorem qtX {a b:CTree} (ha:qdy a=4) (hab:∀ l∈qbp b,l∈qbp a) (t:CTree):∀ t',Repl a b t t'→∀ l'∈qbp t',∃ l∈qbp t,LabLe l l':=by
 induction t using CTree.ind2 with
 | h op n binds kids alts ih =>
   intro t' h l' hl
   cases h with
   | here=>exact⟨l',hab l' hl,.refl _⟩
   | same=>exact⟨l',hl,.refl _⟩
   | node _ _ _ _ kids' _ hk =>
     rw[qbp] at hl ⊢
     rcases List.mem_append.1 hl with hl | hl
     ·obtain⟨k',h1,h2⟩:=qlN hl
      obtain⟨k,h3,h4⟩:=hk.mem_right h1
      obtain⟨l,h5,h6⟩:=ih k h3 k' h4 l' h2
      exact⟨l,List.mem_append_left _ (qfG h3 l h5),h6⟩
     ·rw[List.mem_singleton] at hl
      subst hl
      refine⟨_,List.mem_append_right _ (List.mem_singleton.2 rfl),rfl,rfl,rfl,rfl,?_,fun i=>?_⟩
      ·dsimp only
       rw[List.length_map,List.length_map,hk.length]
      ·dsimp only
       rw[List.getD_eq_getElem?_getD,List.getD_eq_getElem?_getD,List.getElem?_map,List.getElem?_map]
       by_cases hi:i<kids'.length
       ·obtain⟨hx,hr⟩:=hk.at_ i hi
        rw[List.getElem?_eq_getElem hi,List.getElem?_eq_getElem hx]
        exact qtY ha hr
       ·rw[List.getElem?_eq_none (by omega),List.getElem?_eq_none (by rw[hk.length];omega)]
        exact .inl rfl
theorem qrZ {a b:CTree} (hab:(bdT b).Sublist (bdT a)) (t:CTree):∀ t',Repl a b t t'→(bdT t').Sublist (bdT t):=by
 induction t using CTree.ind2 with
 | h op n binds kids alts ih =>
   intro t' h
   cases h with
   | here=>exact hab
   | same=>exact List.Sublist.refl _
   | node _ _ _ _ kids' _ hk =>
     have:(quH kids').Sublist (quH kids):=by
      clear hab
      induction hk with
      | nil=>exact List.Sublist.refl _
      | @cons x y xs ys h _ ih2 =>
        rw[qfo,qfo]
        exact (ih x List.mem_cons_self y h).append (ih2 fun k hk=>ih k (List.mem_cons_of_mem _ hk))
     rw[qnq,qnq]
     exact this.append (List.Sublist.refl _)
theorem qtW {a b:CTree} (hab:∀ x,qcA x b→qcA x a) (t:CTree):∀ t',Repl a b t t'→∀ x,qcA x t'→qcA x t:=by
 induction t using CTree.ind2 with
 | h op n binds kids alts ih =>
   intro t' h x hx
   cases h with
   | here=>exact hab x hx
   | same=>exact hx
   | node _ _ _ _ kids' _ hk =>
     rw[qcA] at hx ⊢
     rcases hx with hx | hx
     ·exact .inl hx
     ·refine .inr ?_
      rw[qcN] at hx ⊢
      obtain⟨j,hj,h1,h2⟩:=hx
      obtain⟨hq,hr⟩:=hk.at_ j hj
      exact⟨j,hq,ih _ (List.getElem_mem hq) _ hr x h1,h2⟩
end
theorem qsZ (id:Int) (t:CTree):qcA id t→∃ l∈qbp t,l.op=0∧l.n=id:=by
 induction t using CTree.ind2 with
 | h op n binds kids alts ih =>
   intro h
   rw[qcA] at h
   rw[qbp]
   rcases h with h | h
   ·exact⟨_,List.mem_append_right _ (List.mem_singleton.2 rfl),h.1,h.2⟩
   ·rw[qcN] at h
    obtain⟨j,hj,h1,_⟩:=h
    obtain⟨l,h3,h4⟩:=ih _ (List.getElem_mem hj) h1
    exact⟨l,List.mem_append_left _ (qfG (List.getElem_mem hj) l h3),h4⟩
theorem qti {e:List CExpr} (hz:qa2 e=0) {i:Nat} (hi:i<e.length) {id n:Int} {v body:CTree} {alts:List CAlt} (ht:qbn e i=.mk 4 n [id] [v,body] alts):qwN e id=qd0 id body:=by
 have hsub:=qua (qbM hz).1 i hi
 have hok:=ql5 hz
 have hcl:¬ qcA id (qbw e):=by
  intro hfr
  have h1:=(qhR (qbw e) id).2 hfr
  rw[(qbM hz).2.2.2.2.2] at h1
  cases h1
 rw[qwO hz]
 rw[ht] at hsub
 exact qyr (qbw e) (qqh _ hok.lab) hok.once hcl hsub
theorem quZ {e:List CExpr} (hz:qa2 e=0) (hf:∀ x∈e,NodeFit x) {i:Nat} (hi:i<e.length) {id n:Int} {v body:CTree} {alts:List CAlt} (ht:qbn e i=.mk 4 n [id] [v,body] alts) (hv:qhE v=true):((qeJ e 3 i 0).2==0)=(qwN e id==0):=by
 have hcnt:=qti hz hi ht
 obtain⟨hT,hn4,hdeep,hlab,hnd,hfr⟩:=qbM hz
 have hok:=ql5 hz
 have hsub:=qua hT i hi
 have hbg:=qqh _ hok.lab
 unfold qeJ
 rw[if_pos hz,if_neg (by omega),if_neg (by omega),Int.toNat_natCast,ht]
 obtain⟨vo,vn,vb,vk,va⟩:=v
 have hres:quA 3 0 (.mk 4 n [id] [.mk vo vn vb vk va,body] alts)=if qd0 id body=0 then some body else none:=by
  rw[quA,if_neg (by decide),if_neg (by rintro ⟨h,_⟩;exact absurd h (by decide)),if_pos rfl,qgN,if_neg (by rintro ⟨h,_⟩;exact absurd h (by decide))]
  by_cases h0:qd0 id body=0
  ·rw[if_pos ⟨rfl,h0,hv⟩,if_pos h0]
  ·rw[if_neg (fun h=>h0 h.2.1),if_neg h0,if_neg (by rintro ⟨h,_⟩;exact absurd h (by decide)),if_neg (by rintro ⟨h,_⟩;exact absurd h (by decide)),if_neg (by rintro ⟨h,_⟩;exact absurd h (by decide))]
 rw[hres,hcnt]
 by_cases h0:qd0 id body=0
 ·rw[if_pos h0]
  try dsimp only
  unfold qmj
  dsimp only
  have hpos:=hT.pos
  have hrep:=qyx hT.ahead i body (e.length-1) (by omega)
  have hroot:qbn e (e.length-1)=qbw e:=rfl
  rw[hroot,ht] at hrep
  have htl:=qp7 hok hsub
  rw[ht] at htl
  have hsubs:body∈qks (.mk 4 n [id] [.mk vo vn vb vk va,body] alts):=by
   rw[qks,qdr,qdr]
   refine List.mem_append_left _ (List.mem_append_right _ (List.mem_append_left _ ?_))
   cases body
   rw[qks]
   exact List.mem_append_right _ (List.mem_singleton.2 rfl)
  have hbody:BGt body:=qqh _ (qp7 htl hsubs).lab
  have hnf:¬ qcA id body:=by
   intro h
   obtain⟨l,h1,h2,h3⟩:=qsZ id body h
   rw[qlP id _ hbody] at h0
   have:=List.countP_eq_zero.1 h0 l h1
   rw[h2,h3] at this
   simp at this
  generalize hrp:qcP e i body (e.length-1)=t' at hrep
  obtain⟨s1,s2⟩:=qtZ (by
   rw[qaJ,qat,qat,hgt,qc4,qc4]
   omega) (qbw e) t' hrep
  have s3:=qtX rfl (fun l hl=>by
   rw[qbp,qbr,qbr]
   exact List.mem_append_left _ (List.mem_append_right _ (List.mem_append_left _ hl))) (qbw e) t' hrep
  have s4:=qrZ (by
   rw[qnq,qfo,qfo]
   exact (((List.sublist_append_left _ _).trans (List.sublist_append_right _ _)).trans (List.sublist_append_left _ _))) (qbw e) t' hrep
  have s5:=qtW (fun x hx=>by
   rw[qcA]
   refine .inr ?_
   rw[qcN]
   refine⟨1,by simp,hx,?_⟩
   intro hb
   have:x=id:=by simpa[qbg] using hb
   subst this
   exact hnf hx) (qbw e) t' hrep
  have htok:TOk t':=⟨by have:=hok.size;omega,by have:=hok.deep;omega,fun l' hl'=>by
   obtain⟨l,h1,h2⟩:=s3 l' hl'
   exact h2.ok (hok.lab l h1),hok.once.sublist s4⟩
  have hfree:qd7 t'=[]:=by
   refine List.eq_nil_iff_forall_not_mem.2 fun x hx=>?_
   have:=s5 x ((qhR t' x).1 hx)
   have h1:=(qhR (qbw e) x).2 this
   rw[hfr] at h1
   cases h1
  rw[if_pos (by rw[qnA htok,if_pos hfree])]
  simp[h0]
 ·rw[if_neg h0]
  try dsimp only
  have:(qd0 id body==0)=false:=by simpa using h0
  rw[this]
  rfl
end Go.Abs
set_option maxHeartbeats 8000000
namespace Go.Abs
def qzL (p:Int × Int→Bool) (xs:List (Int × Int)):Int:=match qaI (fun i a=>if p a=true then some i else none) xs 0 with | some i=>(i:Int) | none => -1
theorem qze {L:Lib} (hL:Plain L) (hf:L.fns 340=some fn340) (f:AVal) (hd:qax f=true) (hk:∃ g a c,f=.func g a c) (p:Int × Int→Bool) (xs:List (Int × Int)) (hl:xs.length<2 ^ 30)
  (hg:∀ a∈xs,∀ h:Heap,(match f with | .func g u c=>qb8 L.pure (call L) g (u++.agg [.int .i64 a.1,.int .i64 a.2]::c) h | _=>none)=some (.val (.bool (p a)),h)) (h:Heap) :
  pcall L 340 [.list (xs.map qd4) none,f] h=some (.val (.int .i64 (qzL p xs)),h):=by
 have hp:=hL.pure
 have hdU:=qjD xs
 obtain⟨g,u,c,rfl⟩:=hk
 dsimp only at hg
 refine qa5 hL hf rfl ?_ h
 have hloop:=qcO (pure:=L.pure) (call:=call L) (b:=0) (keep:=[0,1,7,8]) (fk:=[4]) (id:=0) (body:=qhi) xs (fun i a=>if p a=true then some i else none)
  (fun i=>⟨kt [0,1,7,8] [.list (xs.map qd4) none,.func g u c,.int .i64 xs.length,.int .i64 i],[]⟩) ⟨kt [4] [.junk],[]⟩ (fun i=>⟨kt [4] [.int .i64 i],[]⟩)
  (by
   intro i hi hq
   obtain⟨h1,h2,h3⟩:=qaN qd4 xs hl i hi
   have h5:=hg xs[i] (List.getElem_mem hi)
   have h6:p xs[i]=false:=by cases hx:p xs[i]<;>simp[hx] at hq ⊢
   generalize xs[i]=a at *
   rw[qfw] at h3
   unfold qhi
   simp -implicitDefEqProofs only[ev_,aOp,opd,qaa,qaA,qaz,qad,qab,qaK,qav,ren,renC,qaW,qbc,↓reduceIte,reduceCtorEq,Nat.reduceEqDiff,Nat.reduceAdd,hd,hdU,h1,h2,h3,h5,h6,reduceCtorEq])
  (by
   intro i hi r hq
   obtain⟨h1,h2,h3⟩:=qaN qd4 xs hl i hi
   have h5:=hg xs[i] (List.getElem_mem hi)
   have h6:p xs[i]=true:=by cases hx:p xs[i]<;>simp[hx] at hq ⊢
   have h7:i=r:=by simpa[h6] using hq
   subst h7
   generalize xs[i]=a at *
   rw[qfw] at h3
   unfold qhi
   simp -implicitDefEqProofs only[ev_,aOp,opd,qaa,qaA,qaz,qad,qab,qaK,gcE,qav,ren,renC,qaW,qbc,↓reduceIte,reduceCtorEq,Nat.reduceEqDiff,Nat.reduceAdd,hd,hdU,h1,h3,h5,h6,reduceCtorEq])
  (by
   have h0:=qaO xs.length
   unfold qhi
   simp -implicitDefEqProofs only[ev_,aOp,opd,qaa,qaA,qaz,qab,gcE,qav,ren,renC,qaW,qbc,↓reduceIte,reduceCtorEq,Nat.reduceEqDiff,hd,hdU,h0,reduceCtorEq])
 simp only[Int.natCast_zero] at hloop
 unfold fn340 qzL
 cases hq:qaI (fun i a=>if p a=true then some i else none) xs 0<;>simp only[hq,qbx] at hloop<;>simp -implicitDefEqProofs only[ev_,aOp,opd,qaa,qbq,qap,qac,qaf,qaj,qav,ren,renC,qaW,qbc,↓reduceIte,reduceCtorEq,Nat.reduceEqDiff,Int.reduceNeg,qal,hd,hdU,hloop,hq]
theorem qu0 {L:Lib} (hL:Plain L) (h341:L.fns 341=some fn341) (op n id b:Int) (ks:List Int) (as:List CAlt) (how:Int) (h:Heap) :
  qb8 L.pure (call L) 341 [.agg [.int .i64 id,.int .i64 how],.vptr [.int .i64 op,.int .i64 n,.list [.int .i64 b] none,.list (ks.map qau) none,.list (as.map qar) none] 0] h=some (.val (.bool (id==b)),h):=by
 have hp:=hL.pure
 have hI:=qah
 have hA:=qak
 have key:∀ h:Heap,pcall L 341 [.agg [.int .i64 id,.int .i64 how],.vptr [.int .i64 op,.int .i64 n,.list [.int .i64 b] none,.list (ks.map qau) none,.list (as.map qar) none] 0] h=some (.val (.bool (id==b)),h):=by
  intro h
  refine qa5 hL h341 rfl ?_ h
  unfold fn341
  simp -implicitDefEqProofs only[ev_,aOp,opd,qaa,qaA,qaz,qad,qab,qae,qag,qai,qap,qac,qaf,qaj,qaB,↓reduceIte,Nat.reduceEqDiff,Int.reduceToNat,qal,Int.le_refl]
 simp only[qan L hp,hp,qnF,qqu,qnE,qq3,qot,qtx,qq1,qtw,qor,qpU,qnC,qqw,qnB,qlj,qnD,qqv,qq4,qlT,qtB,aOp,opd,qww,qrf,qn1,qpN,qaa,qaq,qaA,qzH,qbq,qaz,aUn,aEq,qgU,qgT,qcX,qad,qab,qae,qag,qaL,qaK,qai,qnh,qqb,qbK,qbY,leaf,qk3,qpn,qk4,qrn,qjc,qk6,qje,qk5,qjb,qrm,qnj,qao,qap,qac,qaf,qaj,qlk,gcE,qy7,qlE,qjY,qqH,qlM,qj6,qqI,qav,ren,renC,qoG,qra,qoI,qoH,qaW,qbc,qnU,qqJ,qnW,qnV,qsL,qq2,qos,qaB,qa4,qrh,qpi,qpg,qri,qwe,qkH,qpe,qgm,qmc,qpf,qur,qrk,qeG,qrj,qph,qwd,qmb,qsc,qpd,quq,qaT,qfe,qff,qjT,qhT,qrI,qlA,qfB,qjU,qjW,qlC,qlB,qjV,qgM,qfA,qee,qzS,qyY,qyX,qzR,beq_self_eq_true,Option.map_some,Option.map_none,Option.getD_some,Option.getD_none,List.map_cons,List.map_nil,List.flatMap_cons,List.flatMap_nil,List.length_cons,List.length_nil,List.length_append,List.length_map,List.cons_append,List.nil_append,List.append_nil,List.append_assoc,List.getElem?_nil,List.getElem?_cons_zero,List.getElem?_cons_succ,List.set_cons_zero,List.set_cons_succ,List.take_succ_cons,List.take_zero,List.drop_succ_cons,List.drop_zero,List.take_nil,List.drop_nil,List.all_cons,List.all_nil,List.mem_cons,List.not_mem_nil,if_true,if_false,↓reduceIte,ite_true,ite_false,Bool.and_true,Bool.true_and,Bool.and_false,Bool.false_and,Bool.or_true,Bool.true_or,Bool.or_false,Bool.false_or,Bool.not_true,Bool.not_false,Bool.false_eq_true,Bool.true_eq_false,and_true,true_and,and_false,false_and,or_true,true_or,or_false,false_or,not_true_eq_false,not_false_eq_true,decide_true,decide_false,and_self,Nat.le_refl,Nat.zero_le,reduceCtorEq,Nat.add_zero,Nat.zero_add,Nat.reduceEqDiff,Nat.reduceAdd,Nat.reduceSub,Nat.reduceMul,Nat.reduceLT,Nat.reduceLeDiff,Int.reduceToNat,Int.reduceLE,Int.reduceLT,Int.reduceEq,Int.toNat_natCast,Int.natCast_nonneg,ne_eq,List.cons_ne_nil,qoK,qol,qih,qjv,qny,qno,qpp,qnI,forall_const,implies_true,forall_eq_or_imp,forall_eq,List.map_append,qfk,Int.reduceBEq,Int.reduceBNe,Int.reduceGT,Int.reduceGE,Int.reduceNeg,Int.reduceAdd,Int.reduceNe,qwo,Int.cast_ofNat_Int,ge_iff_le,gt_iff_lt,qjA,qnG,qlt,qqG,qs1,frz,frzC,qiF,qdk,qdu,Option.isSome_some,Option.isSome_none,qay,qiG,List.all_append,qgr,qmP,qh2,qpL,qh6,qj7,qlb,qh0,qws,qke,qgB,qa9,qaQ,qaR,qa6,qah,qak,qaY,qco,qbN,qcR,qcQ,qnn,qjh,qal,qbP,qez,qbE,qdZ,Option.isNone_some,Option.isNone_none,qfR,qrl,qkG,qbl,qb2,qbI,qb3,qbV,Nat.mul_one,List.length_set,qll,Int.le_refl,qeI,qtg,qrN,qus,qsb,key]
theorem qg7 {α:Type} (p:α→Bool):∀ (xs:List α) (k i:Nat),qaI (fun i a=>if p a=true then some i else none) xs k=some i→∃ hj:i-k<xs.length,k≤i∧p xs[i-k]=true
 | [],k,i,h=>by cases h
 | x :: xs,k,i,h => by
   rw[qaI] at h
   by_cases hx:p x=true
   ·rw[if_pos hx] at h
    injection h with h
    subst h
    exact⟨by simp,Nat.le_refl _,by simpa using hx⟩
   ·rw[if_neg hx] at h
    obtain⟨h1,h2,h3⟩:=qg7 p xs (k+1) i h
    refine⟨by rw[List.length_cons];omega,by omega,?_⟩
    have:i-k=(i-(k+1))+1:=by omega
    simp only[this,List.getElem_cons_succ]
    exact h3
theorem qw4 {p:Int × Int→Bool} {xs:List (Int × Int)} (h:∃ a∈xs,p a=true):∃ k,∃ hk:k<xs.length,qzL p xs=(k:Int)∧p xs[k]=true:=by
 have hs:(qaI (fun i a=>if p a=true then some i else none) xs 0).isSome=true:=by
  rw[qeU,List.any_eq_true]
  exact h
 unfold qzL
 cases hq:qaI (fun i a=>if p a=true then some i else none) xs 0 with
 | none=>rw[hq] at hs;cases hs
 | some i =>
   obtain⟨h1,_,h3⟩:=qg7 p xs 0 i hq
   exact⟨i,by simpa using h1,rfl,by simpa using h3⟩
section
variable {L:Lib} (hR:RLib L)
include hR
theorem qm6 (h331:L.fns 331=some fn331) (h340:L.fns 340=some fn340) (h341:L.fns 341=some fn341) (h274:L.fns 274=some fn274) (h232:L.fns 232=some fn232) (h236:L.fns 236=some fn236) (h285:L.fns 285=some fn285) (h295:L.fns 295=some fn295)
  (srt:List (Int × Int)→List (Int × Int)) (hsrt:∀ l,(srt l).Perm l) (hsort:qsh L srt) (hfact:∀ h:Heap,pcall L 275 [] h=some (.val (.bool true),h)) (e:List CExpr) (hl:e.length<2 ^ 30) (hf:∀ x∈e,NodeFit x) (h:Heap) :
  pcall L 331 [.list (e.map qam) none] h=some (.val (.bool true),h):=by
 have hL:=hR.plain
 have hp:=hL.pure
 have hdE:=qaY e
 have hof:=qz8 hR.toCLib h274 h232 h236 h285 h295 srt hsort e hl hf
 refine qa5 hL h331 rfl ?_ h
 unfold qm5 at hof
 by_cases hz:qa2 e=0
 case neg =>
  have hne:(qa2 e==0)=false:=by simpa using hz
  rw[if_neg hz] at hof
  dsimp only at hof
  rw[List.map_nil] at hof
  generalize qa2 e=r at *
  unfold fn331
  simp -implicitDefEqProofs only[ev_,aOp,opd,qaa,qaA,qbq,qaz,qab,qae,qap,qac,qaf,qaj,↓reduceIte,reduceCtorEq,Nat.reduceEqDiff,qay,qal,hof,hfact,hne,hdE,qan L hp,hp,List.map_nil,bne]
 rw[if_pos hz] at hof
 dsimp only at hof
 obtain⟨hT,hn4,hdeep,hlab,hnd,hfr⟩:=qbM hz
 have hmem:∀ u∈srt (qdj e),(u.2==0)=(qwN e u.1==0):=by
  intro u hu
  have hu':=(hsrt _).mem_iff.1 hu
  unfold qdj at hu'
  obtain⟨n,_,rfl⟩:=List.mem_map.1 hu'
  have h1:=qtq hz n
  dsimp only
  rw[Bool.eq_iff_iff,beq_iff_eq,beq_iff_eq,h1]
  unfold qwN
  rw[List.any_eq_false,List.length_eq_zero_iff,List.filter_eq_nil_iff]
 have hin:∀ id∈e.flatMap qaH,∃ u∈srt (qdj e),u.1=id:=by
  intro id hid
  refine⟨(id,qkT (qna (qbw e) 0 u0) id),(hsrt _).mem_iff.2 ?_,rfl⟩
  unfold qdj
  exact List.mem_map_of_mem hid
 have hlen:(srt (qdj e)).length<2 ^ 30:=by
  rw[(hsrt _).length_eq]
  unfold qdj
  rw[List.length_map]
  have h1:=qjk (ql5 hz)
  have h2:=((qda e hT).flatMap_right qch).length_eq
  rw[qeK e]
  omega
 generalize srt (qdj e)=l at *
 have hdU:=qjD l
 have hloop:qbd L.pure (call L) 0 [0,3,23,24,25] [2] 0 qeY ⟨kt [0,3,23,24,25] [.list (e.map qam) none,.list (l.map qd4) none,.list (e.map qam) none,.int .i64 e.length,.int .i64 ((0:Nat):Int)],[]⟩=some (.normal,⟨kt [2] [.junk],[]⟩):=by
  refine qj3 (fun i=>⟨kt [0,3,23,24,25] [.list (e.map qam) none,.list (l.map qd4) none,.list (e.map qam) none,.int .i64 e.length,.int .i64 i],[]⟩) e.length ?_ ?_
  ·intro i hi
   obtain⟨h1,h2,h3⟩:=qaN qam e hl i hi
   have hgd:=qs4 hz hf i hi
   have hte:=qca e hT.ahead i hi
   have hahead:=hT.ahead i hi
   have hbin:∀ id∈qaH e[i],id∈e.flatMap qaH:=fun id hid=>List.mem_flatMap.2 ⟨e[i],List.getElem_mem hi,hid⟩
   have hap:=fun h=>quE hR e hl hf 3 i 0 ⟨by decide,by decide⟩ h
   have hlaw:∀ {id n:Int} {v body:CTree} {alts:List CAlt},qbn e i=.mk 4 n [id] [v,body] alts→qhE v=true→((qeJ e 3 i 0).2==0)=(qwN e id==0):=fun a b=>quZ hz hf hi a b
   have hdG:=qaY (qeJ e 3 i 0).1
   generalize hxe:e[i]=x at *
   obtain⟨op,n,binds,kids,alts⟩:=x
   dsimp only at *
   have hdI:=qah
   have hdA:=qak alts
   by_cases h4:op=4
   case neg =>
    have b4:(op==4)=false:=by simpa using h4
    unfold qeY
    simp -implicitDefEqProofs only[ev_,aOp,opd,qaa,qaq,qaA,qaz,qad,qab,qae,qag,qaL,qaK,qai,leaf,qao,qav,ren,renC,qaW,qbc,↓reduceIte,reduceCtorEq,Nat.reduceEqDiff,Nat.reduceAdd,qaR,h1,h2,h3,b4,hdE,hdU,hdA,bne]
   subst h4
   rw[hte] at hgd
   have hsh:=hgd.shape
   obtain⟨s1,s2,s3,s4⟩:=qfL hsh rfl
   rw[List.length_map] at s1
   obtain⟨id,rfl⟩:∃ id,binds=[id]:=by
    rcases binds with _ | ⟨a,_ | ⟨b,l⟩⟩
    ·simp at s2
    ·exact⟨a,rfl⟩
    ·simp at s2
   obtain⟨k0,k1,rfl⟩:∃ a b,kids=[a,b]:=by
    rcases kids with _ | ⟨a,_ | ⟨b,_ | ⟨c,l⟩⟩⟩
    ·simp at s1
    ·simp at s1
    ·exact⟨a,b,rfl⟩
    ·simp at s1
   have hk0:=hahead k0 (by simp)
   have hk0l:k0.toNat<e.length:=by omega
   have hk0n:(0≤k0)=True:=by simp[hk0.1]
   have hgk:(e.map qam)[k0.toNat]? = some (qam e[k0.toNat]):=by rw[List.getElem?_map,List.getElem?_eq_getElem hk0l];rfl
   have hte0:=qca e hT.ahead k0.toNat hk0l
   generalize hye:e[k0.toNat]=y at *
   obtain⟨op0,n0,binds0,kids0,alts0⟩:=y
   dsimp only at *
   have hib:[id].map qau=[.int .i64 id]:=rfl
   have hik:[k0,k1].map qau=[.int .i64 k0,.int .i64 k1]:=rfl
   rw[qaR] at h3 hgk
   dsimp only at h3 hgk
   rw[hib,hik] at h3
   have hdA0:=qak alts0
   by_cases h10:op0=1
   case neg =>
    have b1:(op0==1)=false:=by simpa using h10
    unfold qeY
    simp -implicitDefEqProofs only[ev_,aOp,opd,qaa,qaq,qaA,qaz,qad,qab,qae,qag,qaL,qaK,qai,leaf,qao,qav,ren,renC,qaW,qbc,↓reduceIte,reduceCtorEq,Nat.reduceEqDiff,Nat.reduceAdd,Int.reduceToNat,Int.le_refl,h1,h2,h3,hgk,hk0n,b1,hdE,hdU,hdA,hdA0,bne]
   subst h10
   have hv:qhE (qbn e k0.toNat)=true:=by
    rw[hte0]
    simp[qhE,qps]
   rw[List.map_cons,List.map_cons,List.map_nil] at hte
   have hlw:=hlaw hte hv
   obtain⟨u,hu1,hu2⟩:=hin id (hbin id (by unfold qaH qbz;simp[qdw]))
   obtain⟨k,hk,hk1,hk2⟩:=qw4 (p:=fun u=>u.1==id) (xs:=l) ⟨u,hu1,by simpa using hu2⟩
   have hidx:=qze hL h340 (.func 341 [] [.vptr [.int .i64 4,.int .i64 n,.list [.int .i64 id] none,.list ([k0,k1].map qau) none,.list (alts.map qar) none] 0]) (by simp[qax,qas,hdI,hdA,qau]) ⟨_,_,_,rfl⟩ (fun u=>u.1==id) l hlen
    (fun a ha h=>qu0 hL h341 4 n a.1 id [k0,k1] alts a.2 h)
   rw[hk1,hik] at hidx
   have hgu:(l.map qd4)[k]? = some (.agg [.int .i64 l[k].1,.int .i64 l[k].2]):=by rw[List.getElem?_map,List.getElem?_eq_getElem hk];rfl
   have hm:=hmem l[k] (List.getElem_mem hk)
   have hk2':l[k].1=id:=by simpa using hk2
   rw[hk2'] at hm
   rw[← hm] at hlw
   have hkn:((k:Int)<0)=False:=by simp
   generalize (qeJ e 3 i 0).1=G at *
   generalize (qeJ e 3 i 0).2=g at *
   generalize l[k].2=how at *
   generalize l[k].1=id2 at *
   cases hg:(g==0) with
   | true =>
     have hh:(how==0)=true:=by rw[← hlw];exact hg
     unfold qeY
     simp -implicitDefEqProofs only[ev_,aOp,opd,qaa,qaq,qaA,qaz,aEq,qad,qab,qae,qag,qaL,qaK,qai,qbK,qbY,leaf,qao,qav,ren,renC,qaW,qbc,↓reduceIte,reduceCtorEq,Nat.reduceEqDiff,Nat.reduceAdd,Nat.reduceLT,Nat.reduceLeDiff,Int.reduceToNat,frz,frzC,qiF,qay,Int.le_refl,h1,h2,h3,hgk,hk0n,hidx,hap,hgu,hkn,hg,hh,hdE,hdU,hdA,hdA0,hdG,qan L hp,hp,bne]
   | false =>
     have hh:(how==0)=false:=by rw[← hlw];exact hg
     unfold qeY
     simp -implicitDefEqProofs only[ev_,aOp,opd,qaa,qaq,qaA,qaz,aEq,qad,qab,qae,qag,qaL,qaK,qai,qbK,qbY,leaf,qao,qav,ren,renC,qaW,qbc,↓reduceIte,reduceCtorEq,Nat.reduceEqDiff,Nat.reduceAdd,Nat.reduceLT,Nat.reduceLeDiff,Int.reduceToNat,frz,frzC,qiF,qay,Int.le_refl,h1,h2,h3,hgk,hk0n,hidx,hap,hgu,hkn,hg,hh,hdE,hdU,hdA,hdA0,hdG,qan L hp,hp,bne]
  ·have h0:=qaO e.length
   unfold qeY
   simp -implicitDefEqProofs only[ev_,aOp,opd,qaa,qaA,qaz,qab,gcE,qav,ren,renC,qaW,qbc,↓reduceIte,reduceCtorEq,Nat.reduceEqDiff,h0,hdE,hdU]
 simp only[Int.natCast_zero] at hloop
 unfold fn331
 simp -implicitDefEqProofs only[ev_,aOp,opd,qaa,qaA,qbq,qaz,qab,qap,qac,qaf,qaj,qav,ren,renC,qaW,qbc,↓reduceIte,reduceCtorEq,Nat.reduceEqDiff,qay,qal,hof,hfact,hloop,hdE,hdU,qan L hp,hp,bne]
end
end Go.Abs
set_option maxHeartbeats 4000000
namespace Go.Abs
def qzt (f:Nat) (args:List AVal) (h:Heap):Option (ARes × Heap) :=
 if f=286 then
  (match args with
  | [.vec id 1,.func 287 [] []] => (match h[id]? with
    | some (.vec [.int .i64 _,.int .i64 _] 2)=>some (.val (.tuple []),h)
    | _=>none)
  | _=>none)
 else twP f args h
def qpl (L:Lib):Prop:=∀ (a b:Int) (id:Nat) (h:Heap),h[id]? = some (.vec [.int .i64 a,.int .i64 b] 2)→call L 286 [.vec id 1,.func 287 [] []] h=some (.val (.tuple []),h)
theorem qyJ {L:Lib} (hM:MPrims L) (h0:∀ h:Heap,call L 138 [.list [] none] h=some (.val (.tuple []),h)) (h1:qpl L):∀ f a h r,qzt f a h=some r→call L f a h=some r:=by
 intro f a h r hr
 unfold qzt at hr
 split at hr
 ·rename_i hf
  subst hf
  split at hr
  ·rename_i id
   split at hr
   ·rename_i x y he
    injection hr with hr
    rw[← hr]
    exact h1 x y id h he
   ·cases hr
  ·cases hr
 ·exact qzu hM h0 f a h r hr
theorem qu5 {L:Lib} (hL:Plain L) (hM:MPrims L) (h0:∀ h:Heap,call L 138 [.list [] none] h=some (.val (.tuple []),h)) (h1:qpl L) {T:List (Nat × AFn)} (hT:∀ p∈T,L.fns p.1=some p.2) {n f:Nat} (hc:qvB (.bool true) (qsd (fun f=>List.lookup f T) qzt n f [] [])=true) (h:Heap) :
  pcall L f [] h=some (.val (.bool true),h):=by
 obtain⟨H,hr⟩:=qvC hc
 have:=qwf (L:=L) hL.pure hL.summ (fun f=>List.lookup f T) qzt (fun f fn hf=>hT _ (qmH hf)) (qyJ hM h0 h1) n f [] [] _ hr
 exact qb5 this rfl rfl h
end Go.Abs
