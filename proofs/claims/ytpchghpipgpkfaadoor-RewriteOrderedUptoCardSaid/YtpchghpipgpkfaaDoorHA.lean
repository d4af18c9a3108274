/-
  PARTS OF A PROOF, joined: an abstract machine for quiet code, its evaluation, and what the seat's functions answer on it. Conditions: none.
-/
import Derived.Test.YtpchghpipgpkfaaDoorW
import Derived.Test.YtpchghpipgpkfaaDoorC
set_option linter.unusedVariables false
set_option linter.unusedSimpArgs false
set_option maxRecDepth 100000
set_option maxHeartbeats 4000000
namespace Go.Abs
theorem qwq (h:Heap) (n:Nat) (l:List Int):(l.map qav).map (qaV h n)=l.map qav:=by
 rw[List.map_map]
 refine List.map_congr_left fun x _=>?_
 show qaV h n (qav x)=qav x
 cases n<;>rw[qaV,if_pos (show qaH (qav x)=true from rfl)]<;>rfl
theorem qu4 (l:List Int):(l.map qav).all leaf=true:=by
 rw[List.all_eq_true]
 intro x hx
 obtain⟨y,_,rfl⟩:=List.mem_map.1 hx
 rfl
section
end
def wv (id:Nat) (acc:List Int):AVal:=if acc=[] then .list [] (some none) else .vec id acc.length
def wA (acc:List Int):Heap:=if acc=[] then [] else [.vec (acc.map qav) 1]
section
end
theorem qu3 {l:Lab} (h:qbL false l=0):qa2 l.op l.n l.binds.length l.kops.length l.alts=true:=by
 unfold qbL at h
 split at h
 ·cases h
 ·unfold qp8 at h
  split at h
  ·cases h
  ·rename_i hs
   simpa using hs
theorem qdC {op n:Int} {bl kl:Nat} {as:List CAlt} (h:qa2 op n bl kl as=true):((op=7∨op=13)→kl=as.length+1)∧(¬ (op=7∨op=13)→as=[]):=by
 unfold qa2 at h
 split at h
 ·rename_i ho
  simp only[Bool.and_eq_true] at h
  have:=h.1.1
  unfold qhh at this
  simp only[Bool.and_eq_true,beq_iff_eq] at this
  exact⟨fun _=>by omega,fun hn=>absurd ho hn⟩
 ·rename_i ho
  refine⟨fun hy=>absurd hy ho,fun _=>?_⟩
  split at h
  ·cases h
  ·unfold qbN at h
   simp only[Bool.and_eq_true,beq_iff_eq] at h
   exact List.length_eq_zero_iff.1 (by omega)
theorem qpI {n:Int} {bl kl:Nat} {as:List CAlt} (h:qa2 0 n bl kl as=true):kl=0:=by
 unfold qa2 kbu qbN at h
 simp only[Bool.and_eq_true,beq_iff_eq] at h
 simp at h
 omega
section
end
theorem qbG {h:Heap} {v:AVal} (hd:qaH v=true) (n:Nat):qaV h n v=wipe v:=by cases n<;>rw[qaV,if_pos hd]
def qar (p:Nat):AVal:=.ptr (some (p,0))
def HInts (H:Heap) (l:List Int) (v:AVal) (f:List Nat):Prop:=(l=[]∧v=.list [] none∧f=[])∨(l≠[]∧∃ id,v=.vec id l.length∧H[id]? = some (.vec (l.map qav) 1)∧f=[id])
def HAlts (H:Heap):List CAlt→List AVal→List Nat→Prop
 | [],avs,fa=>avs=[]∧fa=[]
 | a::as,avs,fa=>∃ bv fb avs' fa',avs=.agg [.int .i64 a.tag,bv]::avs'∧fa=fb++fa'∧HInts H a.binds bv fb∧HAlts H as avs' fa'
inductive HT (H:Heap):CTree→Nat→List Nat→Prop
 | mk (op n:Int) (binds:List Int) (kids:List CTree) (alts:List CAlt) (p:Nat) (bv:AVal) (fb ps:List Nat) (ow:Option (Option Nat)) (fks:List (List Nat)) (avs:List AVal) (oa:Option (Option Nat)) (fa:List Nat)
   (hbox:H[p]? = some (.box [.int .i64 op,.int .i64 n,bv,.list (ps.map qar) ow,.list avs oa])) (hb:HInts H binds bv fb) (ha:HAlts H alts avs fa) (hl1:ps.length=kids.length) (hl2:fks.length=kids.length)
   (hk:∀ (i:Nat) (hi:i<kids.length),HT H kids[i] (ps[i]'(by omega)) (fks[i]'(by omega))):HT H (.mk op n binds kids alts) p (p::(fb++(fa++fks.flatten)))
theorem qll {xs:List AVal} (h:qax xs≠true) (own:Option (Option Nat)):¬ qaH (.list xs own)=true:=by
 rcases own with _ | _ | own<;>simp[qaH,h]
theorem HInts.frame {H H':Heap} {l:List Int} {v:AVal} {f:List Nat} (h:HInts H l v f) (he:∀ i∈f,H'[i]? = H[i]?):HInts H' l v f:=by
 rcases h with h | ⟨h1,id,h2,h3,h4⟩
 ·exact .inl h
 ·exact .inr ⟨h1,id,h2,by rw[he id (by rw[h4];simp)];exact h3,h4⟩
theorem HAlts.frame {H H':Heap}:∀ {l:List CAlt} {v:List AVal} {f:List Nat},HAlts H l v f→(∀ i∈f,H'[i]? = H[i]?)→HAlts H' l v f
 | [],v,f,h,_=>h
 | a::as,v,f,⟨bv,fb,avs',fa',h1,h2,h3,h4⟩,he=>⟨bv,fb,avs',fa',h1,h2,h3.frame (fun i hi=>he i (by rw[h2];simp[hi])),h4.frame (fun i hi=>he i (by rw[h2];simp[hi]))⟩
theorem HT.frame {H H':Heap} {t:CTree} {p:Nat} {fp:List Nat} (h:HT H t p fp):(∀ i∈fp,H'[i]? = H[i]?)→HT H' t p fp:=by
 induction h with
 | mk op n binds kids alts p bv fb ps ow fks avs oa fa hbox hb ha hl1 hl2 hk ih =>
   intro he
   refine .mk op n binds kids alts p bv fb ps ow fks avs oa fa (by rw[he p (by simp)];exact hbox) (hb.frame fun i hi=>he i (by simp[hi])) (ha.frame fun i hi=>he i (by simp[hi])) hl1 hl2 fun i hi=>ih i hi fun j hj=>he j ?_
   have:j∈fks.flatten:=List.mem_flatten.2 ⟨_,List.getElem_mem (by omega),hj⟩
   simp[this]
theorem HInts.lt {H:Heap} {l:List Int} {v:AVal} {f:List Nat} (h:HInts H l v f):∀ i∈f,i<H.length:=by
 rcases h with ⟨_,_,rfl⟩ | ⟨_,id,_,h3,rfl⟩
 ·intro i hi;cases hi
 ·intro i hi
  rw[List.mem_singleton.1 hi]
  exact (List.getElem?_eq_some_iff.1 h3).1
theorem HInts.view {H:Heap} {l:List Int} {v:AVal} {f:List Nat} (h:HInts H l v f) (n:Nat):qaV H (n+1) v=.list (l.map qav) none:=by
 rcases h with ⟨rfl,rfl,_⟩ | ⟨_,id,rfl,h3,_⟩
 ·rw[qbG rfl]
  rfl
 ·rw[qaV,if_neg (by simp[qaH])]
  unfold qcx
  dsimp only
  rw[h3]
  dsimp only
  rw[if_pos (qu4 l),if_pos ⟨rfl,by simp⟩,qwq]
theorem HInts.leaf {H:Heap} {l:List Int} {v:AVal} {f:List Nat} (h:HInts H l v f):leaf v=true:=by
 rcases h with ⟨_,rfl,_⟩ | ⟨_,id,rfl,_⟩<;>rfl
theorem HAlts.view {H:Heap} (n:Nat):∀ {l:List CAlt} {v:List AVal} {f:List Nat},HAlts H l v f→v.map (qaV H (n+2))=l.map qas∧(v.map fun x=>(acells x).length)=l.map fun _=>2
 | [],v,f,h => by
   obtain⟨rfl,_⟩:=h
   exact⟨rfl,rfl⟩
 | a :: as,v,f,⟨bv,fb,avs',fa',h1,h2,h3,h4⟩ => by
   obtain⟨g1,g2⟩:=HAlts.view n h4
   subst h1
   refine⟨?_,?_⟩
   ·rw[List.map_cons,List.map_cons,g1]
    congr 1
    by_cases hd:qaH (.agg [.int .i64 a.tag,bv])=true
    ·rw[qbG hd]
     rcases h3 with ⟨hz,rfl,_⟩ | ⟨_,id,rfl,_⟩
     ·rw[qaZ,hz];rfl
     ·simp[qaH,qax] at hd
    ·rw[qaV,if_neg hd]
     unfold qcx
     dsimp only
     rw[List.map_cons,List.map_cons,List.map_nil,h3.view n,qbG rfl,qaZ]
     rfl
   ·rw[List.map_cons,List.map_cons,g2]
    rfl
theorem HAlts.viewL {H:Heap} {l:List CAlt} {v:List AVal} {f:List Nat} {oa:Option (Option Nat)} (h:HAlts H l v f) (n:Nat):qaV H (n+3) (.list v oa)=.list (l.map qas) none:=by
 obtain⟨g1,g2⟩:=h.view n
 by_cases hdl:qax v=true
 ·have hv:v=l.map qas:=by
   clear g1 g2
   induction l generalizing v f with
   | nil=>exact h.1
   | cons a as ih =>
     obtain⟨bv,fb,avs',fa',h1,h2,h3,h4⟩:=h
     subst h1
     rw[qax,Bool.and_eq_true] at hdl
     rw[List.map_cons,← ih h4 hdl.2]
     congr 1
     rcases h3 with ⟨hz,rfl,_⟩ | ⟨_,id,rfl,_⟩
     ·rw[qaZ,hz];rfl
     ·have:=hdl.1;simp[qaH,qax] at this
  by_cases hd:qaH (.list v oa)=true
  ·rw[qbG hd,hv]
   rcases oa with _ | _ | oa
   ·rfl
   ·rfl
   ·simp[qaH] at hd
  ·rw[qaV,if_neg hd]
   show (if qax v=true then AVal.list v none else if (v.map fun x=>(acells (qaV H (n+2) x)).length)=v.map fun x=>(acells x).length then AVal.list (v.map (qaV H (n+2))) none else .junk)=_
   rw[if_pos hdl,hv]
 ·rw[qaV,if_neg (qll hdl oa)]
  show (if qax v=true then AVal.list v none else if (v.map fun x=>(acells (qaV H (n+2) x)).length)=v.map fun x=>(acells x).length then AVal.list (v.map (qaV H (n+2))) none else .junk)=_
  rw[if_neg hdl,if_pos,g1]
  have e1:(v.map fun x=>(acells (qaV H (n+2) x)).length)=(v.map (qaV H (n+2))).map fun y=>(acells y).length:=by rw[List.map_map];rfl
  rw[e1,g1,g2,List.map_map]
  rfl
theorem HT.view {H:Heap} {t:CTree} {p:Nat} {fp:List Nat} (h:HT H t p fp):∀ n,2*hgt t+2≤n→qaV H n (qar p)=qao t:=by
 induction h with
 | mk op n binds kids alts p bv fb ps ow fks avs oa fa hbox hb ha hl1 hl2 hk ih =>
   intro m hm
   rw[hgt] at hm
   obtain⟨q,rfl⟩:∃ q,m=q+1+1+1+1:=⟨m-4,by omega⟩
   unfold qar
   rw[qaV,if_neg (by simp[qaH])]
   unfold qcx
   dsimp only
   rw[hbox]
   dsimp only
   have hlf:([.int .i64 op,.int .i64 n,bv,.list (ps.map qar) ow,.list avs oa]:List AVal).all leaf=true:=by
    simp only[List.all_cons,List.all_nil,hb.leaf]
    rfl
   rw[if_pos hlf]
   simp only[List.map_cons,List.map_nil]
   rw[qbG (v:=.int .i64 op) rfl,qbG (v:=.int .i64 n) rfl,hb.view,ha.viewL q,qbj]
   have hkids:qaV H (q+1+1+1) (.list (ps.map qar) ow)=.list (kids.map qao) none:=by
    have hmap:(ps.map qar).map (qaV H (q+1+1))=kids.map qao:=by
     refine List.ext_getElem (by simp[hl1]) fun i h1 h2=>?_
     have hi:i<kids.length:=by simpa using h2
     rw[List.getElem_map,List.getElem_map,List.getElem_map]
     refine ih i hi _ ?_
     have:=qdK (List.getElem_mem hi)
     omega
    cases hps:ps with
    | nil =>
      have hk0:kids=[]:=List.length_eq_zero_iff.1 (by rw[← hl1,hps];rfl)
      subst hk0
      by_cases hd:qaH (.list (([]:List Nat).map qar) ow)=true
      ·rw[qbG hd]
       rcases ow with _ | _ | ow
       ·rfl
       ·rfl
       ·simp[qaH] at hd
      ·rw[qaV,if_neg hd]
       rfl
    | cons p0 ps' =>
      rw[hps] at hmap
      have hnd:qax ((p0::ps').map qar)=false:=by rw[List.map_cons,qax];simp[qar,qaH]
      rw[qaV,if_neg (qll (by rw[hnd];simp) ow)]
      generalize hW:(p0::ps').map qar=W at hmap hnd
      show (if qax W=true then AVal.list W none else if (W.map fun x=>(acells (qaV H (q+1+1) x)).length)=W.map fun x=>(acells x).length then AVal.list (W.map (qaV H (q+1+1))) none else .junk)=_
      rw[if_neg (by rw[hnd];simp),if_pos,hmap]
      have e1:(W.map fun x=>(acells (qaV H (q+1+1) x)).length)=(W.map (qaV H (q+1+1))).map fun y=>(acells y).length:=by rw[List.map_map];rfl
      rw[e1,hmap,← hW,List.map_map,List.map_map]
      have:(kids.map ((fun y=>(acells y).length) ∘ qao))=kids.map fun _=>1:=List.map_congr_left fun t _=>by
       show (acells (qao t)).length=1
       rw[qer];rfl
      have h2:((p0::ps').map ((fun x=>(acells x).length) ∘ qar))=(p0::ps').map fun _=>1:=rfl
      rw[this,h2,List.map_const',List.map_const',← hl1,hps]
   rw[hkids]
   rfl
theorem HT.look {H:Heap} {t:CTree} {p:Nat} {fp:List Nat} (h:HT H t p fp) (hh:hgt t≤900):viewV H (qar p)=qao t:=h.view _ (by omega)
end Go.Abs
