/-
  PARTS OF A PROOF, joined: an abstract machine for quiet code, its evaluation, and what the seat's functions answer on it. Conditions: none.
-/
import Derived.Test.YtjbgooldkkbdmaaDoorRA
set_option linter.unusedVariables false
set_option linter.unusedSimpArgs false
set_option maxRecDepth 100000
set_option maxHeartbeats 4000000
namespace Go.Abs
theorem qg0 (H:Heap) (n:Nat) {xs:List AVal} (h:qaq xs=true) (o:Option (Option Nat)):qaS H (n+1) (.list xs o)=.list xs none:=by
 by_cases hd:qap (.list xs o)=true
 ·rw[qbQ hd];rfl
 ·rw[qaS,if_neg hd]
  show (if qaq xs=true then AVal.list xs none else _)=_
  rw[if_pos h]
theorem RA.viewL (H:Heap) (n:Nat) {l:List CAlt} {v:List AVal} {oa:Option (Option Nat)} (h:RA l v):qaS H (n+1) (.list v oa)=.list (l.map qao) none:=by
 rw[show v=_ from h]
 exact qg0 H n (qaf l) oa
theorem WS.view {H:Heap} {S:Nat→Prop} {t:CTree} {p:Nat} (h:WS H S t p):∀ n,2*hgt t+2≤n→qaS H n (qbE p)=qay t:=by
 induction h with
 | mk op n binds kids alts p ps ob ok avs oa hp hbox ha hl hk ih =>
   intro m hm
   rw[hgt] at hm
   obtain⟨q,rfl⟩:∃ q,m=q+1+1+1:=⟨m-3,by omega⟩
   unfold qbE
   rw[qaS,if_neg (by simp[qap])]
   unfold qcf
   dsimp only
   rw[hbox]
   dsimp only
   have hlf:([.int .i64 op,.int .i64 n,.list (binds.map qat) ob,.list (ps.map qbE) ok,.list avs oa]:List AVal).all leaf=true:=rfl
   rw[if_pos hlf]
   simp only[List.map_cons,List.map_nil]
   rw[qbQ (v:=.int .i64 op) rfl,qbQ (v:=.int .i64 n) rfl,qg0 H _ (qac binds),ha.viewL,qba]
   have hkids:qaS H (q+1+1) (.list (ps.map qbE) ok)=.list (kids.map qay) none:=by
    have hmap:(ps.map qbE).map (qaS H (q+1))=kids.map qay:=by
     refine List.ext_getElem (by simp[hl]) fun i h1 h2=>?_
     have hi:i<kids.length:=by simpa using h2
     rw[List.getElem_map,List.getElem_map,List.getElem_map]
     refine ih i hi _ ?_
     have:=qgm (List.getElem_mem hi)
     have:0<hgt kids[i]:=by generalize kids[i]=t';cases t';rw[hgt];omega
     omega
    cases hps:ps with
    | nil =>
      have hk0:kids=[]:=List.length_eq_zero_iff.1 (by rw[← hl,hps];rfl)
      subst hk0
      exact qg0 H _ rfl ok
    | cons p0 ps' =>
      rw[hps] at hmap
      have hnd:qaq ((p0::ps').map qbE)=false:=by rw[List.map_cons,qaq];simp[qbE,qap]
      rw[qaS,if_neg (qni (by rw[hnd];simp) ok)]
      generalize hW:(p0::ps').map qbE=W at hmap hnd
      show (if qaq W=true then AVal.list W none else if (W.map fun x=>(acells (qaS H (q+1) x)).length)=W.map fun x=>(acells x).length then AVal.list (W.map (qaS H (q+1))) none else .junk)=_
      rw[if_neg (by rw[hnd];simp),if_pos,hmap]
      have e1:(W.map fun x=>(acells (qaS H (q+1) x)).length)=(W.map (qaS H (q+1))).map fun y=>(acells y).length:=by rw[List.map_map];rfl
      rw[e1,hmap,← hW,List.map_map,List.map_map]
      have:(kids.map ((fun y=>(acells y).length) ∘ qay))=kids.map fun _=>1:=List.map_congr_left fun t _=>by
       show (acells (qay t)).length=1
       rw[qd1];rfl
      have h2:((p0::ps').map ((fun x=>(acells x).length) ∘ qbE))=(p0::ps').map fun _=>1:=rfl
      rw[this,h2,List.map_const',List.map_const',← hl,hps]
   rw[hkids]
   rfl
theorem WS.look {H:Heap} {S:Nat→Prop} {t:CTree} {p:Nat} (h:WS H S t p) (hh:hgt t≤900):viewV H (qbE p)=qay t:=h.view _ (by omega)
theorem WS.lookV {H:Heap} {S:Nat→Prop} {t:CTree} {p:Nat} (h:WS H S t p) (hh:hgt t≤900):Go.Abs.lookV H (.ptr (some (p,0)))=qay t:=by
 unfold Go.Abs.lookV
 show wipe (viewV H (qbE p))=_
 rw[h.look hh]
 obtain⟨tc,htc,_⟩:=qds t
 rw[htc]
 rfl
inductive ShT:CTree→Prop
 | mk (op n:Int) (binds:List Int) (kids:List CTree) (alts:List CAlt) (hs:qbS op n binds.length kids.length alts=true) (h:∀ k∈kids,ShT k):ShT (.mk op n binds kids alts)
section
end
def qvw (H:Heap) (p q:Nat):Prop:=∃ (a b c:AVal) (ps:List Nat) (ok:Option (Option Nat)) (d:AVal),H[p]? = some (.box [a,b,c,.list (ps.map qbE) ok,d])∧q∈ps
inductive Reach (H:Heap):Nat→Nat→Prop
 | refl (p:Nat):Reach H p p
 | step {p q r:Nat} (h:qvw H p q) (hr:Reach H q r):Reach H p r
section
end
section
end
section
end
section
end
end Go.Abs
