/-
  PARTS OF A PROOF, joined: an abstract machine for quiet code, its evaluation, and what the seat's functions answer on it. Conditions: none.
-/
import Derived.Test.YtjbgooldkkbdmaaDoorRA
set_option linter.unusedVariables false
set_option linter.unusedSimpArgs false
set_option maxRecDepth 100000
set_option maxHeartbeats 4000000
namespace Go.Abs
theorem qhG (H:Heap) (n:Nat) {xs:List AVal} (h:qao xs=true) (o:Option (Option Nat)):qa3 H (n+1) (.list xs o)=.list xs none:=by
 by_cases hd:qar (.list xs o)=true
 ·rw[qb9 hd];rfl
 ·rw[qa3,if_neg hd]
  show (if qao xs=true then AVal.list xs none else _)=_
  rw[if_pos h]
theorem RA.viewL (H:Heap) (n:Nat) {l:List CAlt} {v:List AVal} {oa:Option (Option Nat)} (h:RA l v):qa3 H (n+1) (.list v oa)=.list (l.map qan) none:=by
 rw[show v=_ from h]
 exact qhG H n (qah l) oa
theorem WS.view {H:Heap} {S:Nat→Prop} {t:CTree} {p:Nat} (h:WS H S t p):∀ n,2*hgt t+2≤n→qa3 H n (qaH p)=qaB t:=by
 induction h with
 | mk op n binds kids alts p ps ob ok avs oa hp hbox ha hl hk ih =>
   intro m hm
   rw[hgt] at hm
   obtain⟨q,rfl⟩:∃ q,m=q+1+1+1:=⟨m-3,by omega⟩
   unfold qaH
   rw[qa3,if_neg (by simp[qar])]
   unfold qcJ
   dsimp only
   rw[hbox]
   dsimp only
   have hlf:([.int .i64 op,.int .i64 n,.list (binds.map qau) ob,.list (ps.map qaH) ok,.list avs oa]:List AVal).all leaf=true:=rfl
   rw[if_pos hlf]
   simp only[List.map_cons,List.map_nil]
   rw[qb9 (v:=.int .i64 op) rfl,qb9 (v:=.int .i64 n) rfl,qhG H _ (qac binds),ha.viewL,qbG]
   have hkids:qa3 H (q+1+1) (.list (ps.map qaH) ok)=.list (kids.map qaB) none:=by
    have hmap:(ps.map qaH).map (qa3 H (q+1))=kids.map qaB:=by
     refine List.ext_getElem (by simp[hl]) fun i h1 h2=>?_
     have hi:i<kids.length:=by simpa using h2
     rw[List.getElem_map,List.getElem_map,List.getElem_map]
     refine ih i hi _ ?_
     have:=qgZ (List.getElem_mem hi)
     have:0<hgt kids[i]:=by generalize kids[i]=t';cases t';rw[hgt];omega
     omega
    cases hps:ps with
    | nil =>
      have hk0:kids=[]:=List.length_eq_zero_iff.1 (by rw[← hl,hps];rfl)
      subst hk0
      exact qhG H _ rfl ok
    | cons p0 ps' =>
      rw[hps] at hmap
      have hnd:qao ((p0::ps').map qaH)=false:=by rw[List.map_cons,qao];simp[qaH,qar]
      rw[qa3,if_neg (qn4 (by rw[hnd];simp) ok)]
      generalize hW:(p0::ps').map qaH=W at hmap hnd
      show (if qao W=true then AVal.list W none else if (W.map fun x=>(acells (qa3 H (q+1) x)).length)=W.map fun x=>(acells x).length then AVal.list (W.map (qa3 H (q+1))) none else .junk)=_
      rw[if_neg (by rw[hnd];simp),if_pos,hmap]
      have e1:(W.map fun x=>(acells (qa3 H (q+1) x)).length)=(W.map (qa3 H (q+1))).map fun y=>(acells y).length:=by rw[List.map_map];rfl
      rw[e1,hmap,← hW,List.map_map,List.map_map]
      have:(kids.map ((fun y=>(acells y).length) ∘ qaB))=kids.map fun _=>1:=List.map_congr_left fun t _=>by
       show (acells (qaB t)).length=1
       rw[qgh];rfl
      have h2:((p0::ps').map ((fun x=>(acells x).length) ∘ qaH))=(p0::ps').map fun _=>1:=rfl
      rw[this,h2,List.map_const',List.map_const',← hl,hps]
   rw[hkids]
   rfl
theorem WS.look {H:Heap} {S:Nat→Prop} {t:CTree} {p:Nat} (h:WS H S t p) (hh:hgt t≤900):viewV H (qaH p)=qaB t:=h.view _ (by omega)
theorem WS.lookV {H:Heap} {S:Nat→Prop} {t:CTree} {p:Nat} (h:WS H S t p) (hh:hgt t≤900):Go.Abs.lookV H (.ptr (some (p,0)))=qaB t:=by
 unfold Go.Abs.lookV
 show wipe (viewV H (qaH p))=_
 rw[h.look hh]
 obtain⟨tc,htc,_⟩:=qdv t
 rw[htc]
 rfl
inductive ShT:CTree→Prop
 | mk (op n:Int) (binds:List Int) (kids:List CTree) (alts:List CAlt) (hs:qbA op n binds.length kids.length alts=true) (h:∀ k∈kids,ShT k):ShT (.mk op n binds kids alts)
section
end
def qxW (H:Heap) (p q:Nat):Prop:=∃ (a b c:AVal) (ps:List Nat) (ok:Option (Option Nat)) (d:AVal),H[p]? = some (.box [a,b,c,.list (ps.map qaH) ok,d])∧q∈ps
inductive Reach (H:Heap):Nat→Nat→Prop
 | refl (p:Nat):Reach H p p
 | step {p q r:Nat} (h:qxW H p q) (hr:Reach H q r):Reach H p r
section
end
section
end
section
end
section
end
end Go.Abs
