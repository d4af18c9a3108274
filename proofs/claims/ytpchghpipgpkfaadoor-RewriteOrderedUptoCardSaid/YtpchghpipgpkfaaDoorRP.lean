/-
  PARTS OF A PROOF, joined: an abstract machine for quiet code, its evaluation, and what the seat's functions answer on it. Conditions: none.
-/
import Derived.Test.YtpchghpipgpkfaaDoorRM
import Derived.Test.YtpchghpipgpkfaaDoorD
import Derived.Test.YtpchghpipgpkfaaDoorHF
import Derived.Test.YtpchghpipgpkfaaDoorPA
set_option linter.unusedVariables false
set_option linter.unusedSimpArgs false
set_option maxRecDepth 100000
set_option maxHeartbeats 8000000
namespace Go.Abs
def qf7 (n:Int) (l:List Int):Int:=l.foldl (fun n x=>if x > n then x else n) n
def qvf (e:List CExpr):Int:=qf7 (-1) (e.flatMap qbB)
theorem qiB:∀ (l:List Int) (n:Int),n≤qf7 n l∧∀ x∈l,x≤qf7 n l
 | [],n=>⟨Int.le_refl _,fun x hx=>by cases hx⟩
 | y :: l,n => by
   obtain⟨h1,h2⟩:=qiB l (if y > n then y else n)
   have e:qf7 n (y::l)=qf7 (if y > n then y else n) l:=rfl
   rw[e]
   have h3:n≤(if y > n then y else n)∧y≤(if y > n then y else n):=by split<;>omega
   refine⟨by omega,fun x hx=>?_⟩
   rcases List.mem_cons.1 hx with rfl | hx
   ·omega
   ·exact h2 x hx
theorem qxN (e:List CExpr) : -1≤qvf e:=(qiB _ _).1
theorem qnP:∀ (l:List Int) (n b:Int),n≤b→(∀ x∈l,x≤b)→qf7 n l≤b
 | [],n,b,h,_=>h
 | y :: l,n,b,h,hl => by
   have e:qf7 n (y::l)=qf7 (if y > n then y else n) l:=rfl
   rw[e]
   refine qnP l _ b ?_ fun x hx=>hl x (List.mem_cons_of_mem _ hx)
   have:=hl y List.mem_cons_self
   split<;>omega
section
end
section
end
inductive WN (H:Heap):CNode→Nat→Prop
 | mk (op n:Int) (binds xk:List Int) (kids:List CNode) (alts:List CAlt) (p:Nat) (ps:List Nat) (ok:Option (Option Nat))
   (hbox:H[p]? = some (.box [.int .i64 op,.int .i64 n,.list (binds.map qav) none,.list (xk.map qav) none,.list (alts.map qas) none,.list (ps.map qar) ok]))
   (hl:ps.length=kids.length) (hk:∀ (i:Nat) (hi:i<kids.length),WN H kids[i] (ps[i]'(by omega))):WN H (.mk op n binds xk kids alts) p
theorem WN.view {H:Heap} {t:CNode} {p:Nat} (h:WN H t p):∀ n,2*hgt (qiJ t)+2≤n→qaV H n (qar p)=qev t:=by
 induction h with
 | mk op n binds xk kids alts p ps ok hbox hl hk ih =>
   intro m hm
   rw[qwh,hgt] at hm
   obtain⟨q,rfl⟩:∃ q,m=q+1+1+1:=⟨m-3,by omega⟩
   unfold qar
   rw[qaV,if_neg (by simp[qaH])]
   unfold qcx
   dsimp only
   rw[hbox]
   dsimp only
   have hlf:([.int .i64 op,.int .i64 n,.list (binds.map qav) none,.list (xk.map qav) none,.list (alts.map qas) none,.list (ps.map qar) ok]:List AVal).all leaf=true:=rfl
   rw[if_pos hlf]
   simp only[List.map_cons,List.map_nil]
   rw[qbG (v:=.int .i64 op) rfl,qbG (v:=.int .i64 n) rfl,qcn H _ (qah binds),qcn H _ (qah xk),qcn H _ (qap alts),qmz]
   have hkids:qaV H (q+1+1) (.list (ps.map qar) ok)=.list (kids.map qev) none:=by
    have hmap:(ps.map qar).map (qaV H (q+1))=kids.map qev:=by
     refine List.ext_getElem (by simp[hl]) fun i h1 h2=>?_
     have hi:i<kids.length:=by simpa using h2
     rw[List.getElem_map,List.getElem_map,List.getElem_map]
     refine ih i hi _ ?_
     have hmem:qiJ kids[i]∈kids.map qiJ:=List.mem_map_of_mem (List.getElem_mem hi)
     have:=qdK hmem
     have:0<hgt (qiJ kids[i]):=by generalize qiJ kids[i]=t';cases t';rw[hgt];omega
     omega
    cases hps:ps with
    | nil =>
      have hk0:kids=[]:=List.length_eq_zero_iff.1 (by rw[← hl,hps];rfl)
      subst hk0
      exact qcn H _ rfl ok
    | cons p0 ps' =>
      rw[hps] at hmap
      have hnd:qax ((p0::ps').map qar)=false:=by rw[List.map_cons,qax];simp[qar,qaH]
      rw[qaV,if_neg (qll (by rw[hnd];simp) ok)]
      generalize hW:(p0::ps').map qar=W at hmap hnd
      show (if qax W=true then AVal.list W none else if (W.map fun x=>(acells (qaV H (q+1) x)).length)=W.map fun x=>(acells x).length then AVal.list (W.map (qaV H (q+1))) none else .junk)=_
      rw[if_neg (by rw[hnd];simp),if_pos,hmap]
      have e1:(W.map fun x=>(acells (qaV H (q+1) x)).length)=(W.map (qaV H (q+1))).map fun y=>(acells y).length:=by rw[List.map_map];rfl
      rw[e1,hmap,← hW,List.map_map,List.map_map]
      have:(kids.map ((fun y=>(acells y).length) ∘ qev))=kids.map fun _=>1:=List.map_congr_left fun t _=>by
       show (acells (qev t)).length=1
       rw[qqb];rfl
      have h2:((p0::ps').map ((fun x=>(acells x).length) ∘ qar))=(p0::ps').map fun _=>1:=rfl
      rw[this,h2,List.map_const',List.map_const',← hl,hps]
   rw[hkids]
   rfl
section
end
theorem qAH {e:List CExpr} (hz:qaD e=0):qvf e≤1048576:=by
 obtain⟨_,_,_,hlab,_⟩:=qa8 hz
 refine qnP _ _ _ (by decide) fun x hx=>?_
 obtain⟨y,hy,hxy⟩:=List.mem_flatMap.1 hx
 have hr:=(qdb (hlab y hy)).2
 unfold qhb at hr
 dsimp only at hr
 unfold qbZ at hr
 have hb:y.binds.any qdW=false:=by
  cases h:y.binds.any qdW with
  | false=>rfl
  | true =>
    exfalso
    rw[if_pos h] at hr
    split at hr<;>exact absurd hr (by decide)
 have ha:y.alts.any (qcf y.op)=false:=by
  cases h:y.alts.any (qcf y.op) with
  | false=>rfl
  | true =>
    exfalso
    rw[if_neg (c:=y.binds.any qdW=true) (by rw[hb];decide),if_pos h] at hr
    split at hr<;>exact absurd hr (by decide)
 have h1:∀ z∈y.binds,z≤1048576:=by
  intro z hz
  have:=List.any_eq_false.1 hb z hz
  unfold qdW at this
  simp at this
  omega
 have h2:∀ z∈y.alts.flatMap (·.binds),z≤1048576:=by
  intro z hz
  obtain⟨a,haa,hza⟩:=List.mem_flatMap.1 hz
  have h3:=List.any_eq_false.1 ha a haa
  unfold qcf at h3
  simp only[Bool.or_eq_true,not_or] at h3
  have h4:a.binds.any qdW=false:=by simpa using h3.2
  have:=List.any_eq_false.1 h4 z hza
  unfold qdW at this
  simp at this
  omega
 unfold qbB qaq at hxy
 rcases List.mem_append.1 hxy with h | h
 ·split at h
  ·exact h1 x h
  ·cases h
 ·exact h2 x h
section
end
section
end
section
end
section
end
end Go.Abs
