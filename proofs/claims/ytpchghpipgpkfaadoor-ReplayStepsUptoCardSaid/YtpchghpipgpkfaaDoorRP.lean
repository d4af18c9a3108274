/-
  PARTS OF A PROOF, joined: an abstract machine for quiet code, its evaluation, and what the seat's functions answer on it. Conditions: none.
-/
import Derived.Test.YtpchghpipgpkfaaDoorRM
import Derived.Test.YtpchghpipgpkfaaDoorD
import Derived.Test.YtpchghpipgpkfaaDoorHI
import Derived.Test.YtpchghpipgpkfaaDoorNA
set_option linter.unusedVariables false
set_option linter.unusedSimpArgs false
set_option maxRecDepth 100000
set_option maxHeartbeats 8000000
namespace Go.Abs
section
end
section
end
inductive WN (H:Heap):CNode→Nat→Prop
 | mk (op n:Int) (binds xk:List Int) (kids:List CNode) (alts:List CAlt) (p:Nat) (ps:List Nat) (ok:Option (Option Nat))
   (hbox:H[p]? = some (.box [.int .i64 op,.int .i64 n,.list (binds.map qau) none,.list (xk.map qau) none,.list (alts.map qaq) none,.list (ps.map qaF) ok]))
   (hl:ps.length=kids.length) (hk:∀ (i:Nat) (hi:i<kids.length),WN H kids[i] (ps[i]'(by omega))):WN H (.mk op n binds xk kids alts) p
theorem WN.view {H:Heap} {t:CNode} {p:Nat} (h:WN H t p):∀ n,2*hgt (qaE t)+2≤n→qa2 H n (qaF p)=qbB t:=by
 induction h with
 | mk op n binds xk kids alts p ps ok hbox hl hk ih =>
   intro m hm
   rw[qhB,hgt] at hm
   obtain⟨q,rfl⟩:∃ q,m=q+1+1+1:=⟨m-3,by omega⟩
   unfold qaF
   rw[qa2,if_neg (by simp[qaC])]
   unfold qdf
   dsimp only
   rw[hbox]
   dsimp only
   have hlf:([.int .i64 op,.int .i64 n,.list (binds.map qau) none,.list (xk.map qau) none,.list (alts.map qaq) none,.list (ps.map qaF) ok]:List AVal).all leaf=true:=rfl
   rw[if_pos hlf]
   simp only[List.map_cons,List.map_nil]
   rw[qbG (v:=.int .i64 op) rfl,qbG (v:=.int .i64 n) rfl,qda H _ (qah binds),qda H _ (qah xk),qda H _ (qan alts),qdJ]
   have hkids:qa2 H (q+1+1) (.list (ps.map qaF) ok)=.list (kids.map qbB) none:=by
    have hmap:(ps.map qaF).map (qa2 H (q+1))=kids.map qbB:=by
     refine List.ext_getElem (by simp[hl]) fun i h1 h2=>?_
     have hi:i<kids.length:=by simpa using h2
     rw[List.getElem_map,List.getElem_map,List.getElem_map]
     refine ih i hi _ ?_
     have hmem:qaE kids[i]∈kids.map qaE:=List.mem_map_of_mem (List.getElem_mem hi)
     have:=qeN hmem
     have:0<hgt (qaE kids[i]):=by generalize qaE kids[i]=t';cases t';rw[hgt];omega
     omega
    cases hps:ps with
    | nil =>
      have hk0:kids=[]:=List.length_eq_zero_iff.1 (by rw[← hl,hps];rfl)
      subst hk0
      exact qda H _ rfl ok
    | cons p0 ps' =>
      rw[hps] at hmap
      have hnd:qaw ((p0::ps').map qaF)=false:=by rw[List.map_cons,qaw];simp[qaF,qaC]
      rw[qa2,if_neg (ql4 (by rw[hnd];simp) ok)]
      generalize hW:(p0::ps').map qaF=W at hmap hnd
      show (if qaw W=true then AVal.list W none else if (W.map fun x=>(acells (qa2 H (q+1) x)).length)=W.map fun x=>(acells x).length then AVal.list (W.map (qa2 H (q+1))) none else .junk)=_
      rw[if_neg (by rw[hnd];simp),if_pos,hmap]
      have e1:(W.map fun x=>(acells (qa2 H (q+1) x)).length)=(W.map (qa2 H (q+1))).map fun y=>(acells y).length:=by rw[List.map_map];rfl
      rw[e1,hmap,← hW,List.map_map,List.map_map]
      have:(kids.map ((fun y=>(acells y).length) ∘ qbB))=kids.map fun _=>1:=List.map_congr_left fun t _=>by
       show (acells (qbB t)).length=1
       rw[qoc];rfl
      have h2:((p0::ps').map ((fun x=>(acells x).length) ∘ qaF))=(p0::ps').map fun _=>1:=rfl
      rw[this,h2,List.map_const',List.map_const',← hl,hps]
   rw[hkids]
   rfl
section
end
section
variable {L:Lib} (hC:CLib2 L)
include hC
theorem qzS (h153:L.fns 153=some fn153) (n:Int) (h:Heap):pcall L 153 [.int .i64 n] h=some (.val (qbB (nN 1 n [])),h):=by
 have hL:=hC.plain
 have hp:=hL.pure
 have hn:=qzE hC 1 n []
 refine qaY hL h153 (qg5 _) ?_ h
 obtain⟨tc,htc,hdt⟩:=qfk (nN 1 n [])
 rw[htc] at hn ⊢
 simp only[List.map_nil] at hn
 unfold fn153
 simp -implicitDefEqProofs only[ev_,aOp,opd,qao,qac,qae,qaj,↓reduceIte,reduceCtorEq,qat,qak,hn,hdt,qbI,qal L hp,hp]
end
section
end
section
end
end Go.Abs
