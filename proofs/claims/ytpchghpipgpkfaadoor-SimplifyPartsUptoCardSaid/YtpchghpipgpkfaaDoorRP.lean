/-
  PARTS OF A PROOF, joined: an abstract machine for quiet code, its evaluation, and what the seat's functions answer on it. Conditions: none.
-/
import Derived.Test.YtpchghpipgpkfaaDoorRM
import Derived.Test.YtpchghpipgpkfaaDoorD
import Derived.Test.YtpchghpipgpkfaaDoorHI
import Derived.Test.YtpchghpipgpkfaaDoorNA
set_option linter.unusedVariables false
set_option linter.unusedSimpArgs false
set_option maxRecDepth 100000
set_option maxHeartbeats 8000000
namespace Go.Abs
section
end
section
end
inductive WN (H:Heap):CNode→Nat→Prop
 | mk (op n:Int) (binds xk:List Int) (kids:List CNode) (alts:List CAlt) (p:Nat) (ps:List Nat) (ok:Option (Option Nat))
   (hbox:H[p]? = some (.box [.int .i64 op,.int .i64 n,.list (binds.map qaw) none,.list (xk.map qaw) none,.list (alts.map qax) none,.list (ps.map qaD) ok]))
   (hl:ps.length=kids.length) (hk:∀ (i:Nat) (hi:i<kids.length),WN H kids[i] (ps[i]'(by omega))):WN H (.mk op n binds xk kids alts) p
theorem WN.view {H:Heap} {t:CNode} {p:Nat} (h:WN H t p):∀ n,2*hgt (qhc t)+2≤n→qaW H n (qaD p)=qdy t:=by
 induction h with
 | mk op n binds xk kids alts p ps ok hbox hl hk ih =>
   intro m hm
   rw[qs1,hgt] at hm
   obtain⟨q,rfl⟩:∃ q,m=q+1+1+1:=⟨m-3,by omega⟩
   unfold qaD
   rw[qaW,if_neg (by simp[qay])]
   unfold qc1
   dsimp only
   rw[hbox]
   dsimp only
   have hlf:([.int .i64 op,.int .i64 n,.list (binds.map qaw) none,.list (xk.map qaw) none,.list (alts.map qax) none,.list (ps.map qaD) ok]:List AVal).all leaf=true:=rfl
   rw[if_pos hlf]
   simp only[List.map_cons,List.map_nil]
   rw[qbC (v:=.int .i64 op) rfl,qbC (v:=.int .i64 n) rfl,qcX H _ (qai binds),qcX H _ (qai xk),qcX H _ (qao alts),qkC]
   have hkids:qaW H (q+1+1) (.list (ps.map qaD) ok)=.list (kids.map qdy) none:=by
    have hmap:(ps.map qaD).map (qaW H (q+1))=kids.map qdy:=by
     refine List.ext_getElem (by simp[hl]) fun i h1 h2=>?_
     have hi:i<kids.length:=by simpa using h2
     rw[List.getElem_map,List.getElem_map,List.getElem_map]
     refine ih i hi _ ?_
     have hmem:qhc kids[i]∈kids.map qhc:=List.mem_map_of_mem (List.getElem_mem hi)
     have:=qew hmem
     have:0<hgt (qhc kids[i]):=by generalize qhc kids[i]=t';cases t';rw[hgt];omega
     omega
    cases hps:ps with
    | nil =>
      have hk0:kids=[]:=List.length_eq_zero_iff.1 (by rw[← hl,hps];rfl)
      subst hk0
      exact qcX H _ rfl ok
    | cons p0 ps' =>
      rw[hps] at hmap
      have hnd:qas ((p0::ps').map qaD)=false:=by rw[List.map_cons,qas];simp[qaD,qay]
      rw[qaW,if_neg (qlH (by rw[hnd];simp) ok)]
      generalize hW:(p0::ps').map qaD=W at hmap hnd
      show (if qas W=true then AVal.list W none else if (W.map fun x=>(acells (qaW H (q+1) x)).length)=W.map fun x=>(acells x).length then AVal.list (W.map (qaW H (q+1))) none else .junk)=_
      rw[if_neg (by rw[hnd];simp),if_pos,hmap]
      have e1:(W.map fun x=>(acells (qaW H (q+1) x)).length)=(W.map (qaW H (q+1))).map fun y=>(acells y).length:=by rw[List.map_map];rfl
      rw[e1,hmap,← hW,List.map_map,List.map_map]
      have:(kids.map ((fun y=>(acells y).length) ∘ qdy))=kids.map fun _=>1:=List.map_congr_left fun t _=>by
       show (acells (qdy t)).length=1
       rw[qnP];rfl
      have h2:((p0::ps').map ((fun x=>(acells x).length) ∘ qaD))=(p0::ps').map fun _=>1:=rfl
      rw[this,h2,List.map_const',List.map_const',← hl,hps]
   rw[hkids]
   rfl
section
end
section
end
section
end
section
end
end Go.Abs
