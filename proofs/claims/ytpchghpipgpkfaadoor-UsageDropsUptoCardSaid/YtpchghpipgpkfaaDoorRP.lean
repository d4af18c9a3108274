/-
  PARTS OF A PROOF, joined: an abstract machine for quiet code, its evaluation, and what the seat's functions answer on it. Conditions: none.
-/
import Derived.Test.YtpchghpipgpkfaaDoorRM
import Derived.Test.YtpchghpipgpkfaaDoorD
import Derived.Test.YtpchghpipgpkfaaDoorHF
import Derived.Test.YtpchghpipgpkfaaDoorPA
set_option linter.unusedVariables false
set_option linter.unusedSimpArgs false
set_option maxRecDepth 100000
set_option maxHeartbeats 8000000
namespace Go.Abs
section
end
section
end
inductive WN (H:Heap):CNode→Nat→Prop
 | mk (op n:Int) (binds xk:List Int) (kids:List CNode) (alts:List CAlt) (p:Nat) (ps:List Nat) (ok:Option (Option Nat))
   (hbox:H[p]? = some (.box [.int .i64 op,.int .i64 n,.list (binds.map qau) none,.list (xk.map qau) none,.list (alts.map qar) none,.list (ps.map qaE) ok]))
   (hl:ps.length=kids.length) (hk:∀ (i:Nat) (hi:i<kids.length),WN H kids[i] (ps[i]'(by omega))):WN H (.mk op n binds xk kids alts) p
theorem WN.view {H:Heap} {t:CNode} {p:Nat} (h:WN H t p):∀ n,2*hgt (qhB t)+2≤n→qaV H n (qaE p)=qdR t:=by
 induction h with
 | mk op n binds xk kids alts p ps ok hbox hl hk ih =>
   intro m hm
   rw[que,hgt] at hm
   obtain⟨q,rfl⟩:∃ q,m=q+1+1+1:=⟨m-3,by omega⟩
   unfold qaE
   rw[qaV,if_neg (by simp[qax])]
   unfold qck
   dsimp only
   rw[hbox]
   dsimp only
   have hlf:([.int .i64 op,.int .i64 n,.list (binds.map qau) none,.list (xk.map qau) none,.list (alts.map qar) none,.list (ps.map qaE) ok]:List AVal).all leaf=true:=rfl
   rw[if_pos hlf]
   simp only[List.map_cons,List.map_nil]
   rw[qbO (v:=.int .i64 op) rfl,qbO (v:=.int .i64 n) rfl,qdg H _ (qah binds),qdg H _ (qah xk),qdg H _ (qak alts),qlp]
   have hkids:qaV H (q+1+1) (.list (ps.map qaE) ok)=.list (kids.map qdR) none:=by
    have hmap:(ps.map qaE).map (qaV H (q+1))=kids.map qdR:=by
     refine List.ext_getElem (by simp[hl]) fun i h1 h2=>?_
     have hi:i<kids.length:=by simpa using h2
     rw[List.getElem_map,List.getElem_map,List.getElem_map]
     refine ih i hi _ ?_
     have hmem:qhB kids[i]∈kids.map qhB:=List.mem_map_of_mem (List.getElem_mem hi)
     have:=qd8 hmem
     have:0<hgt (qhB kids[i]):=by generalize qhB kids[i]=t';cases t';rw[hgt];omega
     omega
    cases hps:ps with
    | nil =>
      have hk0:kids=[]:=List.length_eq_zero_iff.1 (by rw[← hl,hps];rfl)
      subst hk0
      exact qdg H _ rfl ok
    | cons p0 ps' =>
      rw[hps] at hmap
      have hnd:qas ((p0::ps').map qaE)=false:=by rw[List.map_cons,qas];simp[qaE,qax]
      rw[qaV,if_neg (qmJ (by rw[hnd];simp) ok)]
      generalize hW:(p0::ps').map qaE=W at hmap hnd
      show (if qas W=true then AVal.list W none else if (W.map fun x=>(acells (qaV H (q+1) x)).length)=W.map fun x=>(acells x).length then AVal.list (W.map (qaV H (q+1))) none else .junk)=_
      rw[if_neg (by rw[hnd];simp),if_pos,hmap]
      have e1:(W.map fun x=>(acells (qaV H (q+1) x)).length)=(W.map (qaV H (q+1))).map fun y=>(acells y).length:=by rw[List.map_map];rfl
      rw[e1,hmap,← hW,List.map_map,List.map_map]
      have:(kids.map ((fun y=>(acells y).length) ∘ qdR))=kids.map fun _=>1:=List.map_congr_left fun t _=>by
       show (acells (qdR t)).length=1
       rw[qpm];rfl
      have h2:((p0::ps').map ((fun x=>(acells x).length) ∘ qaE))=(p0::ps').map fun _=>1:=rfl
      rw[this,h2,List.map_const',List.map_const',← hl,hps]
   rw[hkids]
   rfl
section
end
section
end
theorem qgZ {op:Int} {binds:List Int} {as:List CAlt} {k:Nat} {v:Int} (h:v∈qbg op binds as k):v∈qbz op binds as:=by
 unfold qbg at h
 unfold qbz
 split at h
 ·rename_i ho
  have:qdw op=true:=by
   unfold qdw
   rcases ho with ho | ho | ⟨ho,_⟩<;>subst ho<;>rfl
  rw[if_pos this]
  exact List.mem_append_left _ h
 ·split at h
  ·split at h
   ·rename_i a ha
    exact List.mem_append_right _ (List.mem_flatMap.2 ⟨a,List.mem_of_getElem? ha,h⟩)
   ·cases h
  ·cases h
theorem qoq {id:Int}:∀ {ks:List CTree},qcK id ks≠0→∃ j,∃ hj:j<ks.length,qd0 id ks[j]≠0
 | [],h=>absurd (by rw[qcK]) h
 | k :: ks,h => by
   by_cases hk:qd0 id k=0
   ·rw[qcK,hk,Nat.zero_add] at h
    obtain⟨j,hj,h2⟩:=qoq h
    exact⟨j+1,by simpa using hj,h2⟩
   ·exact⟨0,by simp,hk⟩
theorem qtu (id:Int) (t:CTree):qd0 id t≠0→(∃ l∈qbp t,id∈qch l)∨qcA id t:=by
 induction t using CTree.ind with
 | h op n binds kids alts ih =>
   intro h
   rw[qd0] at h
   rw[qbp,qcA]
   by_cases h0:op=0
   ·rw[if_pos h0] at h
    by_cases hn:n=id
    ·exact .inr (.inl ⟨h0,hn⟩)
    ·rw[if_neg hn] at h;exact absurd rfl h
   ·rw[if_neg h0] at h
    obtain⟨j,hj,h2⟩:=qoq h
    rcases ih _ (List.getElem_mem hj) h2 with ⟨l,h3,h4⟩ | h3
    ·exact .inl ⟨l,List.mem_append_left _ (qfG (List.getElem_mem hj) l h3),h4⟩
    ·by_cases hb:id∈qbg op binds alts j
     ·refine .inl ⟨⟨op,n,binds,kids.map qdy,alts⟩,List.mem_append_right _ List.mem_cons_self,?_⟩
      unfold qch
      exact qgZ hb
     ·exact .inr (.inr ((qcN id op binds alts kids 0).2 ⟨j,hj,h3,by rw[Nat.zero_add];exact hb⟩))
section
end
section
end
end Go.Abs
