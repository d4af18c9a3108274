/-
  PARTS OF A PROOF, joined: an abstract machine for quiet code, its evaluation, and what the seat's functions answer on it. Conditions: none.
-/
import Derived.Test.YtjbgooldkkbdmaaDoorUG
import Derived.Test.YtjbgooldkkbdmaaDoorD
import Derived.Test.YtjbgooldkkbdmaaDoorRA
import Derived.Test.YtjbgooldkkbdmaaDoorRM
import Derived.Test.YtjbgooldkkbdmaaDoorHF
set_option linter.unusedVariables false
set_option linter.unusedSimpArgs false
set_option maxRecDepth 100000
set_option maxHeartbeats 8000000
namespace Go.Abs
theorem qlH:∀ {cs:List AVal},qaq cs=true→cs.flatMap qaN=[]
 | [],_=>rfl
 | c :: cs,h => by
   rw[qaq,Bool.and_eq_true] at h
   rw[List.flatMap_cons,qlH h.2,List.append_nil]
   unfold qaN
   rw[if_pos h.1]
theorem qmn (ρ:Nat→Option Nat):∀ {cs:List AVal},qaq cs=true→cs.map (ren ρ)=cs
 | [],_=>rfl
 | c :: cs,h => by
   rw[qaq,Bool.and_eq_true] at h
   rw[List.map_cons,qmn ρ h.2]
   unfold ren
   rw[if_pos h.1]
theorem qiS {p:Nat} {nl:List Nat} {h h2:Heap} {o:AObj} (hp:h[p]? = some o) (hr:qdF (qbC [p] nl h.length) ((h2[0]?).getD .gone)=o) :
  qdE [p] nl h h2=h++nl.map fun j=>qdF (qbC [p] nl h.length) ((h2[j]?).getD .gone):=by
 rw[qgR]
 congr 1
 refine List.ext_getElem? fun i=>?_
 by_cases hi:i<h.length
 ·rw[qqK [p] nl _ h2 h 0 i h[i] (List.getElem?_eq_getElem hi),Nat.zero_add,List.getElem?_eq_getElem hi]
  by_cases hip:p=i
  ·subst hip
   have e:h[p]=o:=by rw[List.getElem?_eq_getElem hi] at hp;injection hp
   simp only[qan,if_true]
   rw[hr,e]
  ·simp only[qan,if_neg hip]
 ·rw[List.getElem?_eq_none (by rw[qiQ];omega),List.getElem?_eq_none (by omega)]
theorem qqX {call:CallT} {f p n sz:Nat} {cs xs:List AVal} {h:Heap} (hp:h[p]? = some (.box cs)) (hcs:qaq cs=true) (hxs:qaq xs=true)
  (hc:call f [.ptr (some (0,0))] [.box cs]=some (.val (.list xs (qcG 1 n)),.box cs::qbk sz n)) :
  qhu call f [.ptr (some (p,0))] h=some (.val (.list xs (qcG h.length n)),h++qbk sz n):=by
 have hlt:p<h.length:=(List.getElem?_eq_some_iff.1 hp).1
 have hids:qi9 (.box cs)=[]:=qlH hcs
 have hg:∀ l,l=[p]→grow h l=[p]:=by
  rintro _ rfl
  rw[qne,List.flatMap_cons,List.flatMap_nil,hp]
  show qbV 0 (qi9 (.box cs)++[]) [p]=_
  rw[hids]
  rfl
 have h0:qbV 0 ([AVal.ptr (some (p,0))].flatMap qaN) []=[p]:=by simp[qaN,qap,qa3,qbV]
 have hroots:qbf [.ptr (some (p,0))] h=[p]:=by
  rw[qgS,h0]
  exact hg _ (hg _ (hg _ rfl))
 have hren:∀ ρ,qdF ρ (.box cs)=.box cs:=fun ρ=>by
  show AObj.box (cs.map (ren ρ))=_
  rw[qmn ρ hcs]
 have hsub:qcb [p] h=[.box cs]:=by
  rw[qgW,List.map_cons,List.map_nil,hp]
  exact congrArg (fun x=>[x]) (hren _)
 have harg:([AVal.ptr (some (p,0))].map (ren fun i=>qan i [p] 0))=[.ptr (some (0,0))]:=by simp[ren,renC,qap,qan]
 rw[qkQ,hroots,if_pos (by simpa using hlt),harg,hsub,hc]
 dsimp only
 rw[qfF,qiJ]
 have hdl:qap (.list xs (some none))=true:=by simp[qap,hxs]
 rcases qdW 1 sz n with ⟨o1,o2⟩ | ⟨o1,o2⟩<;>rcases qdW h.length sz n with ⟨o3,o4⟩ | ⟨o3,o4⟩
 ·rw[o1,o2,o3]
  have hid:qaN (.list xs (some none))=[]:=by unfold qaN;rw[if_pos hdl]
  have hnl:qbV [p].length (qaN (.list xs (some none))++([AObj.box cs].take [p].length).flatMap qi9) []=[]:=by
   rw[hid,List.nil_append]
   show qbV 1 (qi9 (.box cs)++[]) []=[]
   rw[hids];rfl
  rw[hnl,qiS hp (hren _)]
  have hr:ren (qbC [p] [] h.length) (.list xs (some none))=.list xs (some none):=by unfold ren;rw[if_pos hdl]
  rw[hr]
  rfl
 ·rw[o2] at o4;cases o4
 ·rw[o2] at o4;cases o4
 ·rw[o1,o2,o3]
  have hnd:qap (.list xs (some (some 1)))=false:=by simp[qap]
  have hid:qaN (.list xs (some (some 1)))=[1]:=by unfold qaN;rw[if_neg (by rw[hnd];decide)];show qa3 _=_;unfold qa3;rw[if_neg (by rw[hnd];decide)]
  have hnl:qbV [p].length (qaN (.list xs (some (some 1)))++((AObj.box cs::[.tail n sz]).take [p].length).flatMap qi9) []=[1]:=by
   rw[hid]
   show qbV 1 ([1]++(qi9 (.box cs)++[])) []=[1]
   rw[hids];rfl
  rw[hnl,qiS hp (hren _)]
  have hb:qbC [p] [1] h.length 1=some h.length:=by simp[qbC,qan]
  have hr:ren (qbC [p] [1] h.length) (.list xs (some (some 1)))=.list xs (some (some h.length)):=by
   unfold ren
   rw[if_neg (by rw[hnd];decide)]
   dsimp only
   unfold renC
   rw[if_neg (by rw[hnd];decide)]
   dsimp only
   rw[if_pos hxs,hb]
  rw[hr]
  rfl
def qaD (out:List (Int × Int)):List AVal:=(out.map qeK).flatMap acells
theorem qbJ (out:List (Int × Int)):(qaD out).length=out.length*2:=by
 unfold qaD
 induction out with
 | nil=>rfl
 | cons p l ih =>
   rw[List.map_cons,List.flatMap_cons,List.length_append,ih]
   show 2+_=_
   simp
   omega
theorem qk4 (out:List (Int × Int)) (p:Int × Int):qaD (out++[p])=qaD out++[.int .i64 p.1,.int .i64 p.2]:=by
 unfold qaD
 rw[List.map_append,List.flatMap_append]
 rfl
theorem qk3 (out:List (Int × Int)):(qaD out).all leaf=true:=by
 unfold qaD
 rw[List.all_eq_true]
 intro v hv
 obtain⟨x,hx,hv⟩:=List.mem_flatMap.1 hv
 obtain⟨p,_,rfl⟩:=List.mem_map.1 hx
 rw[qf8] at hv
 simp only[acells,List.mem_cons,List.not_mem_nil,or_false] at hv
 rcases hv with rfl | rfl<;>rfl
theorem qjE:∀ (out:List (Int × Int)),qeH 2 out.length (qaD out)=out.map qeK
 | []=>rfl
 | p :: l => by
   have h:qaD (p::l)=.int .i64 p.1::.int .i64 p.2::qaD l:=rfl
   rw[h,List.length_cons,qeH,List.map_cons]
   show AVal.agg [.int .i64 p.1,.int .i64 p.2]::qeH 2 l.length (qaD l)=_
   rw[qjE l]
   rfl
def UV (H:Heap) (out:List (Int × Int)) (v:AVal):Prop:=(out=[]∧v=.list [] (some none))∨(out≠[]∧∃ id,v=.vec id out.length∧4≤id∧H[id]? = some (.vec (qaD out) 2))
theorem UV.frame {H H':Heap} {out:List (Int × Int)} {v:AVal} (h:UV H out v) (he:∀ i,4≤i→i<H.length→H'[i]? = H[i]?):UV H' out v:=by
 rcases h with h | ⟨h1,id,h2,h3,h4⟩
 ·exact .inl h
 ·exact .inr ⟨h1,id,h2,h3,by rw[he id h3 (hlt h4)];exact h4⟩
theorem UV.app {H:Heap} {out:List (Int × Int)} {v:AVal} (h:UV H out v) (hH:4≤H.length) (hn:out.length+1≤1073741824) (p:Int × Int) (o:Option (Option Nat)) :
  ∃ v' H',qcK H 2 v (.list [.agg [.int .i64 p.1,.int .i64 p.2]] o)=some (v',H')∧UV H' (out++[p]) v'∧H.length≤H'.length∧∀ i,i<4→H'[i]? = H[i]? := by
 rcases h with ⟨rfl,rfl⟩ | ⟨h1,id,rfl,h3,h4⟩
 ·refine⟨.vec H.length 1,H++[.vec [.int .i64 p.1,.int .i64 p.2] 2],?_,.inr ⟨by simp,H.length,rfl,hH,hgl rfl⟩,by simp,fun i hi=>hga (by omega)⟩
  unfold qcK
  dsimp only
  rw[if_neg (by simp),if_pos ⟨rfl,by unfold qeh;simp⟩]
  rfl
 ·have hl:=hlt h4
  refine⟨.vec H.length (out.length+1),H.set id .gone++[.vec (qaD out++[.int .i64 p.1,.int .i64 p.2]) 2],?_,.inr ⟨by simp,H.length,by rw[List.length_append];rfl,hH,?_⟩,by simp,fun i hi=>?_⟩
  ·unfold qcK
   dsimp only
   unfold qaZ
   dsimp only
   rw[if_neg (by simp),h4]
   dsimp only
   rw[if_pos ⟨rfl,qbJ out,rfl,hn⟩]
   rfl
  ·rw[qk4]
   exact hgl (by simp)
  ·rw[hga (by simp;omega),hgn (by omega)]
theorem UV.view {H:Heap} {out:List (Int × Int)} {v:AVal} (h:UV H out v):qex H (.tuple [v,.int .i64 0])=.tuple [.list (out.map qeK) none,.int .i64 0]:=by
 rcases h with ⟨rfl,rfl⟩ | ⟨h1,id,rfl,h3,h4⟩
 ·rfl
 ·unfold qex
  rw[if_neg (by simp[wipeR,wipe,wipeCell,qap,qaq])]
  have hmap:∀ n,(qaD out).map (qaS H (n+1))=qaD out:=by
   intro n
   unfold qaD
   refine (List.map_congr_left fun v hv=>?_).trans (List.map_id _)
   obtain⟨x,hx,hv⟩:=List.mem_flatMap.1 hv
   obtain⟨p,_,rfl⟩:=List.mem_map.1 hx
   rw[qf8] at hv
   simp only[acells,List.mem_cons,List.not_mem_nil,or_false] at hv
   rcases hv with rfl | rfl<;>rfl
  have hv:qaS H 1999 (.vec id out.length)=.list (out.map qeK) none:=by
   show (if qap (.vec id out.length)=true then _ else qcf H (qaS H 1998) (.vec id out.length))=_
   rw[if_neg (by simp[qap])]
   unfold qcf
   dsimp only
   rw[h4]
   dsimp only
   rw[if_pos (qk3 out),if_neg (by omega),if_pos ⟨by decide,(qbJ out).symm⟩,hmap 1997,qjE]
  unfold viewV
  show wipeR (if qap (.tuple [.vec id out.length,.int .i64 0])=true then _ else qcf H (qaS H 1999) (.tuple [.vec id out.length,.int .i64 0]))=_
  rw[if_neg (by simp[qap,qaq])]
  unfold qcf
  dsimp only
  rw[List.map_cons,List.map_cons,List.map_nil,hv]
  rfl
structure CntH (H:Heap) (U:US):Prop where
 uses:H[0]? = some (.map (encB U.uses))
 many:H[2]? = some (.map (encB U.many))
 box:H[3]? = some (.box [.map (some 0),.map (some 1),.map (some 2)])
 len:4≤H.length
theorem CntH.frame {H H':Heap} {U:US} (h:CntH H U) (hl:H.length≤H'.length) (he:∀ i,i<4→H'[i]? = H[i]?):CntH H' U :=
 ⟨by rw[he 0 (by omega)];exact h.uses,by rw[he 2 (by omega)];exact h.many,by rw[he 3 (by omega)];exact h.box,Nat.le_trans h.len hl⟩
section
variable {L:Lib}
theorem qvI {b:Nat} (U:US) (E:AVal) (ne i0:Int) (bs:List Int) (hl:bs.length<2 ^ 30) (ob:Option (Option Nat)) (out0:List (Int × Int)) (hn:out0.length+bs.length≤1073741824) (H0:Heap) (v0:AVal) (hc:CntH H0 U) (hv:UV H0 out0 v0) :
  ∃ T,qbd L.pure (call L) b [1000000,5,7,28,29,30,42,43,44] [1000000,5,7,28,29,30] 2 qc0
   ⟨kt [5,7,28,29,30,42,43,44] [.ptr (some (3,0)),v0,E,.int .i64 ne,.int .i64 i0,.list (bs.map qat) ob,.int .i64 bs.length,.int .i64 0],H0⟩=some (.normal,T) ∧
   ∃ H v,T=⟨kt [5,7,28,29,30] [.ptr (some (3,0)),v,E,.int .i64 ne,.int .i64 i0],H⟩∧CntH H U∧UV H (out0++bs.map fun n=>(n,qjh U n)) v:=by
 refine qfn (pure:=L.pure) (call:=call L) (b:=b) (id:=2) (body:=qc0)
  (fun j s=>∃ H v,s=⟨kt [5,7,28,29,30,42,43,44] [.ptr (some (3,0)),v,E,.int .i64 ne,.int .i64 i0,.list (bs.map qat) ob,.int .i64 bs.length,.int .i64 (j:Nat)],H⟩∧CntH H U∧UV H (out0++(bs.take j).map fun n=>(n,qjh U n)) v) bs.length _ ?_ ?_ ?_
 ·intro j s hj hs
  obtain⟨H,v,rfl,hC,hV⟩:=hs
  obtain⟨h1,h2,h3⟩:=qaV qat bs hl j hj
  have ht:out0++(bs.take (j+1)).map (fun n=>(n,qjh U n))=(out0++(bs.take j).map fun n=>(n,qjh U n))++[(bs[j],qjh U bs[j])]:=by
   rw[List.take_succ_eq_append_getElem hj,List.map_append,List.append_assoc];rfl
  rw[ht]
  have hlen:(out0++(bs.take j).map fun n=>(n,qjh U n)).length+1≤1073741824:=by simp;omega
  generalize (out0++(bs.take j).map fun n=>(n,qjh U n))=out at *
  generalize bs[j]=n at *
  have hb:=hC.box
  have l0:=ql1 H 0 n U.uses hC.uses
  have l2:=ql1 H 2 n U.many hC.many
  obtain⟨v',H',a1,a2,a3,a4⟩:=hV.app hC.len hlen (n,qjh U n) (some none)
  dsimp only at a1
  have hC':=hC.frame a3 a4
  obtain⟨r,hr0⟩:∃ r,qbe L.pure (call L) b [1000000,5,7,28,29,30,42,43,44] [1000000,5,7,28,29,30] qc0
   ⟨kt [5,7,28,29,30,42,43,44] [.ptr (some (3,0)),v,E,.int .i64 ne,.int .i64 i0,.list (bs.map qat) ob,.int .i64 bs.length,.int .i64 (j:Nat)],H⟩=r:=⟨_,rfl⟩
  have hr:=hr0
  unfold qjh at a1
  by_cases q0:qbH n U.uses=0
  ·rw[if_pos q0] at a1
   have b0:(qbH n U.uses==0)=true:=by simpa using q0
   unfold qc0 at hr
   simp -implicitDefEqProofs only[ev_,aOp,opd,qaa,qaC,qaB,qae,qab,qah,qak,qcD,qcU,leaf,qas,↓reduceIte,Nat.reduceEqDiff,Nat.reduceAdd,Nat.reduceLeDiff,qa7,h1,h2,h3,hb,l0,l2,b0,a1] at hr
   subst hr
   exact⟨_,hr0,H',v',rfl,hC',a2⟩
  ·rw[if_neg q0] at a1
   have b0:(qbH n U.uses==0)=false:=by simpa using q0
   by_cases q1:qbH n U.uses=1
   ·have b1:(qbH n U.uses==1)=true:=by simpa using q1
    by_cases q2:qbH n U.many=0
    ·rw[if_pos ⟨q1,q2⟩] at a1
     have b2:(qbH n U.many==0)=true:=by simpa using q2
     unfold qc0 at hr
     simp -implicitDefEqProofs only[ev_,aOp,opd,qaa,qaC,qaB,qae,qab,qag,qah,qak,qcD,qcU,leaf,qas,↓reduceIte,Nat.reduceEqDiff,Nat.reduceAdd,Nat.reduceLeDiff,qa7,h1,h2,h3,hb,l0,l2,b0,b1,b2,a1] at hr
     subst hr
     exact⟨_,hr0,H',v',rfl,hC',a2⟩
    ·rw[if_neg (fun h=>q2 h.2)] at a1
     have b2:(qbH n U.many==0)=false:=by simpa using q2
     unfold qc0 at hr
     simp -implicitDefEqProofs only[ev_,aOp,opd,qaa,qaC,qaB,qae,qab,qag,qah,qak,qcD,qcU,leaf,qas,↓reduceIte,Nat.reduceEqDiff,Nat.reduceAdd,Nat.reduceLeDiff,qa7,h1,h2,h3,hb,l0,l2,b0,b1,b2,a1] at hr
     subst hr
     exact⟨_,hr0,H',v',rfl,hC',a2⟩
   ·rw[if_neg (fun h=>q1 h.1)] at a1
    have b1:(qbH n U.uses==1)=false:=by simpa using q1
    unfold qc0 at hr
    simp -implicitDefEqProofs only[ev_,aOp,opd,qaa,qaC,qaB,qae,qab,qag,qah,qak,qcD,qcU,leaf,qas,↓reduceIte,Nat.reduceEqDiff,Nat.reduceAdd,Nat.reduceLeDiff,qa7,h1,h2,h3,hb,l0,l2,b0,b1,a1] at hr
    subst hr
    exact⟨_,hr0,H',v',rfl,hC',a2⟩
 ·intro s hs
  obtain⟨H,v,rfl,hC,hV⟩:=hs
  have h0:=qa0 bs.length
  rw[List.take_length] at hV
  refine⟨_,?_,H,v,rfl,hC,hV⟩
  unfold qc0
  simp -implicitDefEqProofs only[ev_,aOp,opd,qaa,qaC,qaB,qab,gcE,↓reduceIte,Nat.reduceEqDiff,h0]
 ·exact⟨H0,v0,rfl,hc,by rw[List.take_zero,List.map_nil,List.append_nil];exact hv⟩
theorem qvJ (hL:Plain L) (h232:L.fns 232=some fn232) {b:Nat} (U:US) (e:List CExpr) (hl:e.length<2 ^ 30) (hf:∀ x∈e,NodeFit x) (hbf:∀ x∈e,qrt x) (hn:(e.flatMap qaz).length≤1073741824) (H0:Heap) (hc:CntH H0 U) :
  ∃ T,qbd L.pure (call L) b [1000000,5,7,28,29,30] [1000000,7] 0 qfh
   ⟨kt [5,7,28,29,30] [.ptr (some (3,0)),.list [] (some none),.list (e.map qal) none,.int .i64 e.length,.int .i64 0],H0⟩=some (.normal,T) ∧
   ∃ H v,T=⟨kt [7] [v],H⟩∧UV H ((e.flatMap qaz).map fun n=>(n,qjh U n)) v:=by
 refine qfn (pure:=L.pure) (call:=call L) (b:=b) (id:=0) (body:=qfh)
  (fun i s=>∃ H v,s=⟨kt [5,7,28,29,30] [.ptr (some (3,0)),v,.list (e.map qal) none,.int .i64 e.length,.int .i64 (i:Nat)],H⟩∧CntH H U∧UV H (((e.take i).flatMap qaz).map fun n=>(n,qjh U n)) v) e.length _ ?_ ?_ ?_
 ·intro i s hi hs
  obtain⟨H,v,rfl,hC,hV⟩:=hs
  obtain⟨h1,h2,h3⟩:=qaV qal e hl i hi
  have hx:=hf e[i] (List.getElem_mem hi)
  have ht:((e.take (i+1)).flatMap qaz).map (fun n=>(n,qjh U n))=((e.take i).flatMap qaz).map (fun n=>(n,qjh U n))++(qaz e[i]).map fun n=>(n,qjh U n):=by
   rw[List.take_succ_eq_append_getElem hi,List.flatMap_append,List.map_append,List.flatMap_cons,List.flatMap_nil,List.append_nil]
  rw[ht]
  have hsum:((e.take i).flatMap qaz).length+(qaz e[i]).length≤1073741824:=by
   have h4:(e.take (i+1)).flatMap qaz=(e.take i).flatMap qaz++qaz e[i]:=by
    rw[List.take_succ_eq_append_getElem hi,List.flatMap_append,List.flatMap_cons,List.flatMap_nil,List.append_nil]
   have h5:((e.take (i+1)).flatMap qaz).length≤(e.flatMap qaz).length:=by
    have h6:e.flatMap qaz=(e.take (i+1)).flatMap qaz++(e.drop (i+1)).flatMap qaz:=by rw[← List.flatMap_append,List.take_append_drop]
    rw[h6,List.length_append];omega
   rw[h4,List.length_append] at h5
   omega
  have hbl:(qaz e[i]).length<2 ^ 30∧(e[i].binds++e[i].alts.flatMap (·.binds)).length≤2 ^ 30:=by
   have h7:(e[i].binds++e[i].alts.flatMap (·.binds)).length<2 ^ 30:=hbf e[i] (List.getElem_mem hi)
   refine⟨?_,by omega⟩
   unfold qaz qbY
   rw[List.length_append] at h7 ⊢
   split
   ·omega
   ·rw[List.length_nil];omega
  have halts:=hx.alts
  have hol:(((e.take i).flatMap qaz).map fun n=>(n,qjh U n)).length+(qaz e[i]).length≤1073741824:=by rw[List.length_map];exact hsum
  generalize ((e.take i).flatMap qaz).map (fun n=>(n,qjh U n))=out at *
  generalize e[i]=x at *
  have hrc:=qqX (call:=call L) (f:=232) (p:=H.length+1) (n:=(qaz x).length) (sz:=1) (cs:=[.int .i64 x.op,.int .i64 0,.list (x.binds.map qat) none,.list [] (some none),.list (x.alts.map qao) none]) (xs:=(qaz x).map qat)
   (h:=H++[.box [.int .i64 x.op,.int .i64 x.n,.list (x.binds.map qat) none,.list (x.kids.map qat) none,.list (x.alts.map qao) none],.box [.int .i64 x.op,.int .i64 0,.list (x.binds.map qat) none,.list [] (some none),.list (x.alts.map qao) none]])
   (qtw rfl) (by simp[qaq,qap,qac,qaf]) (qac _) (qm1 hL h232 x.op 0 x.binds (.list [] (some none)) rfl x.alts halts hbl.2)
  have hdc:qbI L.pure (call L) 232 [.ptr (some (H.length+1,0))] (H++[.box [.int .i64 x.op,.int .i64 x.n,.list (x.binds.map qat) none,.list (x.kids.map qat) none,.list (x.alts.map qao) none],.box [.int .i64 x.op,.int .i64 0,.list (x.binds.map qat) none,.list [] (some none),.list (x.alts.map qao) none]])=_:=(qna rfl).trans hrc
  generalize hH3:(H++[.box [.int .i64 x.op,.int .i64 x.n,.list (x.binds.map qat) none,.list (x.kids.map qat) none,.list (x.alts.map qao) none],.box [.int .i64 x.op,.int .i64 0,.list (x.binds.map qat) none,.list [] (some none),.list (x.alts.map qao) none]]:Heap)++qbk 1 (qaz x).length=H3 at hdc
  generalize qcG _ (qaz x).length=ob at hdc
  have hle3:H.length≤H3.length:=by rw[← hH3];simp
  have hke3:∀ q,q<H.length→H3[q]? = H[q]? := fun q hq=>by rw[← hH3,List.append_assoc,hga hq]
  clear hrc hH3
  obtain⟨T,t1,H4,v4,rfl,t3,t4⟩:=qvI (L:=L) (b:=H3.length) U (.list (e.map qal) none) (e.length:Int) (i:Int) (qaz x) hbl.1 ob out hol H3 v (hC.frame hle3 fun q hq=>hke3 q (by have:=hC.len;omega)) (hV.frame fun q _ hq=>hke3 q hq)
  obtain⟨r,hr0⟩:∃ r,qbe L.pure (call L) b [1000000,5,7,28,29,30] [1000000,7] qfh
   ⟨kt [5,7,28,29,30] [.ptr (some (3,0)),v,.list (e.map qal) none,.int .i64 e.length,.int .i64 (i:Nat)],H⟩=r:=⟨_,rfl⟩
  have hr:=hr0
  unfold qfh at hr
  simp -implicitDefEqProofs only[ev_,aOp,opd,qaa,qau,qaC,qbu,qaB,qae,qab,qah,qaQ,qaH,qak,qcD,qcU,leaf,qas,↓reduceIte,Nat.reduceEqDiff,Nat.reduceAdd,Nat.reduceLeDiff,qaL,h1,h2,h3,hgl,hsl,hga,hdc,t1] at hr
  subst hr
  exact⟨_,hr0,H4,v4,rfl,t3,t4⟩
 ·intro s hs
  obtain⟨H,v,rfl,hC,hV⟩:=hs
  have h0:=qa0 e.length
  rw[List.take_length] at hV
  refine⟨_,?_,H,v,rfl,hV⟩
  unfold qfh
  simp -implicitDefEqProofs only[ev_,aOp,opd,qaa,qaC,qaB,qab,gcE,↓reduceIte,Nat.reduceEqDiff,h0]
 ·exact⟨H0,_,rfl,hc,.inl ⟨rfl,rfl⟩⟩
end
def qpz (L:Lib) (srt:List (Int × Int)→List (Int × Int)):Prop:=∀ (out:List (Int × Int)) (H:Heap) (v:AVal),UV H out v→out.length<1073741824→∃ H',call L 286 [v,.func 287 [] []] H=some (.val (.tuple []),H')∧UV H' (srt out) v
section
variable {L:Lib} (hC:CLib L)
include hC
theorem qvK (h274:L.fns 274=some fn274) (h232:L.fns 232=some fn232) (h236:L.fns 236=some fn236) (h285:L.fns 285=some fn285) (h295:L.fns 295=some fn295) (srt:List (Int × Int)→List (Int × Int)) (hsort:qpz L srt) (e:List CExpr) (hl:e.length<2 ^ 30) (hf:∀ x∈e,NodeFit x) (h:Heap) :
  pcall L 274 [.list (e.map qal) none] h=some (.val (.tuple [.list ((qdn srt e).1.map qeK) none,.int .i64 (qdn srt e).2]),h):=by
 have hL:=hC.plain
 have hp:=hL.pure
 have hdE:=qaW e
 have hck:=qrN hC e hl hf
 unfold qdn
 by_cases hz:qbw e=0
 case neg =>
  have hne:(qbw e==0)=false:=by simpa using hz
  rw[if_neg hz]
  refine qa5 hL h274 rfl ?_ h
  generalize qbw e=r at *
  unfold fn274
  simp -implicitDefEqProofs only[ev_,aOp,opd,qaa,qaC,qaB,qab,qaw,qad,qai,qam,↓reduceIte,reduceCtorEq,Nat.reduceEqDiff,qaA,qaj,hck,hne,hdE,qar L hp,hp,List.map_nil,bne]
 rw[if_pos hz]
 dsimp only
 rw[hz] at hck
 obtain⟨hT,hn4,hh,hlab,hnd,hfr⟩:=qdJ hz
 obtain⟨hft,hsz⟩:=qpS hz hf
 have hbf:=qoh hT hn4 hlab
 have hgr:=fun h=>hC.grow e h hl hf hT (by omega)
 have hus:=qvn hL h285 h295 h236 (qbO e) hft 0 u0 0 (by omega) (by omega) (fun v=>by simp[u0,qbH,qbi]) (by omega)
 have hbm2:(e.flatMap qaz).length≤131072:=by
  have h1:=qhZ (qs2 hz)
  have h2:=((qdT e hT).flatMap_right qdw).length_eq
  rw[qfG e]
  omega
 have hbm:(e.flatMap qaz).length≤1073741824:=by omega
 obtain⟨tc,htc,hdt⟩:=qds (qbO e)
 rw[htc] at hgr hus
 have hus2:call L 285 [.ptr (some (0,0)),.vptr tc 0,.int .i64 0] [.box [.map (some 1),.map (some 2),.map (some 3)],.map [],.map [],.map []]=some (.val (.tuple []),[.box [.map (some 1),.map (some 2),.map (some 3)],.map (encB (qk5 (qbO e) 0 u0).uses),.map (encB (qk5 (qbO e) 0 u0).depth),.map (encB (qk5 (qbO e) 0 u0).many)]):=hus
 have hraw:qdA e=(e.flatMap qaz).map fun n=>(n,qjh (qk5 (qbO e) 0 u0) n):=rfl
 generalize qk5 (qbO e) 0 u0=U at *
 obtain⟨T,t1,H,v,rfl,t3⟩:=qvJ (L:=L) (b:=4) hL h232 U e hl hf hbf hbm [.map (encB U.uses),.map (encB U.depth),.map (encB U.many),.box [.map (some 0),.map (some 1),.map (some 2)]] ⟨rfl,rfl,rfl,Nat.le_refl _⟩
 rw[← hraw] at t3
 obtain⟨H',s1,s2⟩:=hsort (qdA e) H v t3 (by rw[hraw,List.length_map];omega)
 have hcall:call L 274 [.list (e.map qal) none] []=some (.val (.tuple [v,.int .i64 0]),H'):=by
  refine qfL (hL.summ 274 (by rw[h274];simp)) h274 ?_
  unfold fn274
  simp -implicitDefEqProofs only[ev_,aOp,opd,qaa,qaC,qbu,qaB,qab,qcD,qcU,qas,qaw,qad,qai,qam,qan,ren,renC,qaN,qa3,↓reduceIte,reduceCtorEq,Nat.reduceEqDiff,Nat.reduceAdd,Nat.reduceLT,Nat.reduceLeDiff,qaA,hck,hgr,hus2,t1,s1,hdE,hdt,qcW,qcX,qar L hp,hp,bne]
 exact qct hcall s2.view (by simp only[qeP,qeO,qfS,qa8,qlz,qgM,Bool.and_true]) h
end
end Go.Abs
set_option maxHeartbeats 4000000
namespace Go.Abs
def qve (f:Nat) (args:List AVal) (h:Heap):Option (ARes × Heap) :=
 if f=286 then
  (match args with
  | [.vec id 1,.func 287 [] []] => (match h[id]? with
    | some (.vec [.int .i64 _,.int .i64 _] 2)=>some (.val (.tuple []),h)
    | _=>none)
  | _=>none)
 else twP f args h
def qmT (L:Lib):Prop:=∀ (a b:Int) (id:Nat) (h:Heap),h[id]? = some (.vec [.int .i64 a,.int .i64 b] 2)→call L 286 [.vec id 1,.func 287 [] []] h=some (.val (.tuple []),h)
theorem quy {L:Lib} (hM:MPrims L) (h0:∀ h:Heap,call L 138 [.list [] none] h=some (.val (.tuple []),h)) (h1:qmT L):∀ f a h r,qve f a h=some r→call L f a h=some r:=by
 intro f a h r hr
 unfold qve at hr
 split at hr
 ·rename_i hf
  subst hf
  split at hr
  ·rename_i id
   split at hr
   ·rename_i x y he
    injection hr with hr
    rw[← hr]
    exact h1 x y id h he
   ·cases hr
  ·cases hr
 ·exact qvf hM h0 f a h r hr
theorem qrZ {L:Lib} (hL:Plain L) (hM:MPrims L) (h0:∀ h:Heap,call L 138 [.list [] none] h=some (.val (.tuple []),h)) (h1:qmT L) {T:List (Nat × AFn)} (hT:∀ p∈T,L.fns p.1=some p.2) {n f:Nat} (hc:qsd (.bool true) (qpu (fun f=>List.lookup f T) qve n f [] [])=true) (h:Heap) :
  pcall L f [] h=some (.val (.bool true),h):=by
 obtain⟨H,hr⟩:=qse hc
 have:=qsL (L:=L) hL.pure hL.summ (fun f=>List.lookup f T) qve (fun f fn hf=>hT _ (qkL hf)) (quy hM h0 h1) n f [] [] _ hr
 exact qct this rfl rfl h
end Go.Abs
set_option maxHeartbeats 8000000
namespace Go.Abs
section
variable {L:Lib} (hC:CLib L)
include hC
theorem qjn (h267:L.fns 267=some fn267) (h276:L.fns 276=some fn276) (h290:L.fns 290=some fn290) (h277:L.fns 277=some fn277) (h274:L.fns 274=some fn274) (h232:L.fns 232=some fn232) (h236:L.fns 236=some fn236) (h285:L.fns 285=some fn285) (h295:L.fns 295=some fn295)
  (srt:List (Int × Int)→List (Int × Int)) (hsrt:∀ l,(srt l).Perm l) (hsort:qpz L srt) (hfact:∀ h:Heap,pcall L 275 [] h=some (.val (.bool true),h)) (e:List CExpr) (hl:e.length<2 ^ 30) (hf:∀ x∈e,NodeFit x) (h:Heap) :
  pcall L 267 [.list (e.map qal) none] h=some (.val (.bool true),h):=by
 refine qk2 hC.plain h267 h276 h290 h277 srt hsrt e hl hfact (qvK hC h274 h232 h236 h285 h295 srt hsort e hl hf) ?_ h
 unfold qdn
 by_cases hz:qbw e=0
 ·rw[if_pos hz]
  obtain⟨hT,hn4,hdeep,hlab,hnd,hfr⟩:=qdJ hz
  dsimp only
  rw[(hsrt _).length_eq]
  unfold qdA
  rw[List.length_map]
  have h1:=qhZ (qs2 hz)
  have h2:=((qdT e hT).flatMap_right qdw).length_eq
  rw[qfG e]
  omega
 ·rw[if_neg hz]
  exact Nat.two_pow_pos 30
end
end Go.Abs
