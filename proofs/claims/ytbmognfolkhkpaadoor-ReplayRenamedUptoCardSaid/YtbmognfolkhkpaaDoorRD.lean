/-
  PARTS OF A PROOF, joined: an abstract machine for quiet code, its evaluation, and what the seat's functions answer on it. Conditions: none.
-/
import Derived.Test.YtbmognfolkhkpaaDoorRA
set_option linter.unusedVariables false
set_option linter.unusedSimpArgs false
set_option maxRecDepth 100000
set_option maxHeartbeats 4000000
namespace Go.Abs
theorem qer (H:Heap) (n:Nat) {xs:List AVal} (h:qaZ xs=true) (o:Option (Option Nat)):qbV H (n+1) (.list xs o)=.list xs none:=by
 by_cases hd:qa2 (.list xs o)=true
 ·rw[qcH hd];rfl
 ·rw[qbV,if_neg hd]
  show (if qaZ xs=true then AVal.list xs none else _)=_
  rw[if_pos h]
theorem RA.viewL (H:Heap) (n:Nat) {l:List CAlt} {v:List AVal} {oa:Option (Option Nat)} (h:RA l v):qbV H (n+1) (.list v oa)=.list (l.map qaM) none:=by
 rw[show v=_ from h]
 exact qer H n (qaG l) oa
theorem WS.view {H:Heap} {S:Nat→Prop} {t:CTree} {p:Nat} (h:WS H S t p):∀ n,2*hgt t+2≤n→qbV H n (qbq p)=qaX t:=by
 induction h with
 | mk op n binds kids alts p ps ob ok avs oa hp hbox ha hl hk ih =>
   intro m hm
   rw[hgt] at hm
   obtain⟨q,rfl⟩:∃ q,m=q+1+1+1:=⟨m-3,by omega⟩
   unfold qbq
   rw[qbV,if_neg (by simp[qa2])]
   unfold qeW
   dsimp only
   rw[hbox]
   dsimp only
   have hlf:([.int .i64 op,.int .i64 n,.list (binds.map qaP) ob,.list (ps.map qbq) ok,.list avs oa]:List AVal).all leaf=true:=rfl
   rw[if_pos hlf]
   simp only[List.map_cons,List.map_nil]
   rw[qcH (v:=.int .i64 op) rfl,qcH (v:=.int .i64 n) rfl,qer H _ (qar binds),ha.viewL,qc6]
   have hkids:qbV H (q+1+1) (.list (ps.map qbq) ok)=.list (kids.map qaX) none:=by
    have hmap:(ps.map qbq).map (qbV H (q+1))=kids.map qaX:=by
     refine List.ext_getElem (by simp[hl]) fun i h1 h2=>?_
     have hi:i<kids.length:=by simpa using h2
     rw[List.getElem_map,List.getElem_map,List.getElem_map]
     refine ih i hi _ ?_
     have:=qiA (List.getElem_mem hi)
     have:0<hgt kids[i]:=by generalize kids[i]=t';cases t';rw[hgt];omega
     omega
    cases hps:ps with
    | nil =>
      have hk0:kids=[]:=List.length_eq_zero_iff.1 (by rw[← hl,hps];rfl)
      subst hk0
      exact qer H _ rfl ok
    | cons p0 ps' =>
      rw[hps] at hmap
      have hnd:qaZ ((p0::ps').map qbq)=false:=by rw[List.map_cons,qaZ];simp[qbq,qa2]
      rw[qbV,if_neg (qmD (by rw[hnd];simp) ok)]
      generalize hW:(p0::ps').map qbq=W at hmap hnd
      show (if qaZ W=true then AVal.list W none else if (W.map fun x=>(acells (qbV H (q+1) x)).length)=W.map fun x=>(acells x).length then AVal.list (W.map (qbV H (q+1))) none else .junk)=_
      rw[if_neg (by rw[hnd];simp),if_pos,hmap]
      have e1:(W.map fun x=>(acells (qbV H (q+1) x)).length)=(W.map (qbV H (q+1))).map fun y=>(acells y).length:=by rw[List.map_map];rfl
      rw[e1,hmap,← hW,List.map_map,List.map_map]
      have:(kids.map ((fun y=>(acells y).length) ∘ qaX))=kids.map fun _=>1:=List.map_congr_left fun t _=>by
       show (acells (qaX t)).length=1
       rw[qhL];rfl
      have h2:((p0::ps').map ((fun x=>(acells x).length) ∘ qbq))=(p0::ps').map fun _=>1:=rfl
      rw[this,h2,List.map_const',List.map_const',← hl,hps]
   rw[hkids]
   rfl
theorem WS.look {H:Heap} {S:Nat→Prop} {t:CTree} {p:Nat} (h:WS H S t p) (hh:hgt t≤900):viewV H (qbq p)=qaX t:=h.view _ (by omega)
theorem WS.lookV {H:Heap} {S:Nat→Prop} {t:CTree} {p:Nat} (h:WS H S t p) (hh:hgt t≤900):Go.Abs.lookV H (.ptr (some (p,0)))=qaX t:=by
 unfold Go.Abs.lookV
 show wipe (viewV H (qbq p))=_
 rw[h.look hh]
 obtain⟨tc,htc,_⟩:=qc0 t
 rw[htc]
 rfl
inductive ShT:CTree→Prop
 | mk (op n:Int) (binds:List Int) (kids:List CTree) (alts:List CAlt) (hs:qcz op n binds.length kids.length alts=true) (h:∀ k∈kids,ShT k):ShT (.mk op n binds kids alts)
section
end
def qyh (H:Heap) (p q:Nat):Prop:=∃ (a b c:AVal) (ps:List Nat) (ok:Option (Option Nat)) (d:AVal),H[p]? = some (.box [a,b,c,.list (ps.map qbq) ok,d])∧q∈ps
inductive Reach (H:Heap):Nat→Nat→Prop
 | refl (p:Nat):Reach H p p
 | step {p q r:Nat} (h:qyh H p q) (hr:Reach H q r):Reach H p r
section
end
section
variable {L:Lib} (hL:Plain L)
include hL
def qxy (id:Int) (v b:CTree):CTree:=.mk 4 0 [id] [v,b] []
end
section
end
section
end
end Go.Abs
