/-
  PARTS OF A PROOF, joined: an abstract machine for quiet code, its evaluation, and what the seat's functions answer on it. Conditions: none.
-/
import Derived.Test.YtjbgooldkkbdmaaDoorHB
import Derived.Test.YtjbgooldkkbdmaaDoorW
import Derived.Test.YtjbgooldkkbdmaaDoorHA
set_option linter.unusedVariables false
set_option linter.unusedSimpArgs false
set_option maxRecDepth 100000
set_option maxHeartbeats 4000000
namespace Go.Abs
abbrev RS:=IM Int × Int
section
end
def HKids (H:Heap):List CTree→List Nat→List (List Nat)→Prop
 | [],ps,fs=>ps=[]∧fs=[]
 | t::ts,ps,fs=>∃ p f ps' fs',ps=p::ps'∧fs=f::fs'∧HT H t p f∧HKids H ts ps' fs'
theorem HKids.frame {H H':Heap}:∀ {ts:List CTree} {ps:List Nat} {fs:List (List Nat)},HKids H ts ps fs→(∀ q∈fs.flatten,H'[q]? = H[q]?)→HKids H' ts ps fs
 | [],ps,fs,h,_=>h
 | t::ts,ps,fs,⟨p,f,ps',fs',e1,e2,h3,h4⟩,he=>⟨p,f,ps',fs',e1,e2,h3.frame fun q hq=>he q (by rw[e2];simp[hq]),h4.frame fun q hq=>he q (by
   rw[e2,List.flatten_cons]
   exact List.mem_append.2 (.inr hq))⟩
theorem HKids.snoc {H:Heap} {t:CTree} {p:Nat} {f:List Nat} (ht:HT H t p f):∀ {ts:List CTree} {ps:List Nat} {fs:List (List Nat)},HKids H ts ps fs→HKids H (ts++[t]) (ps++[p]) (fs++[f])
 | [],ps,fs,h => by
   obtain⟨rfl,rfl⟩:=h
   exact⟨p,f,[],[],rfl,rfl,ht,rfl,rfl⟩
 | t'::ts,ps,fs,⟨p',f',ps',fs',e1,e2,h3,h4⟩=>⟨p',f',_,_,by rw[e1];rfl,by rw[e2];rfl,h3,h4.snoc ht⟩
theorem HKids.len {H:Heap}:∀ {ts:List CTree} {ps:List Nat} {fs:List (List Nat)},HKids H ts ps fs→ps.length=ts.length
 | [],ps,fs,h=>by obtain⟨rfl,_⟩:=h;rfl
 | t::ts,ps,fs,⟨p,f,ps',fs',e1,e2,h3,h4⟩=>by rw[e1];simp[h4.len]
structure RE (H:Heap) (pm pf pw r:Nat) (s:RS):Prop where
 m:H[pm]? = some (.box [.map (some r)])
 f:H[pf]? = some (.box [.int .i64 s.2])
 w:H[pw]? = some (.box [.func 207 [] [qbE pm,qbE pf,qbE pw]])
 r:H[r]? = some (.map (encB s.1))
theorem RE.ne {H:Heap} {pm pf pw r:Nat} {s:RS} (h:RE H pm pf pw r s):pf≠pm∧pf≠r∧pm≠r∧pw≠pf∧pw≠r:=by
 have h1:=h.m
 have h2:=h.f
 have h3:=h.w
 have h4:=h.r
 refine⟨?_,?_,?_,?_,?_⟩<;>rintro rfl
 ·rw[h1] at h2;cases h2
 ·rw[h4] at h2;cases h2
 ·rw[h1] at h4;cases h4
 ·rw[h3] at h2;cases h2
 ·rw[h3] at h4;cases h4
theorem RE.frame {H H':Heap} {pm pf pw r:Nat} {s s':RS} (h:RE H pm pf pw r s) (hf:H'[pf]? = some (.box [.int .i64 s'.2])) (hr:H'[r]? = some (.map (encB s'.1))) (he:∀ q,q≠pf→q≠r→(q=pm∨q=pw)→H'[q]? = H[q]?):RE H' pm pf pw r s':=by
 obtain⟨a,b,c,d,e⟩:=h.ne
 exact⟨by rw[he pm (fun x=>a x.symm) c (.inl rfl)];exact h.m,hf,by rw[he pw d e (.inr rfl)];exact h.w,hr⟩
section
end
section
end
theorem HT.lt {H:Heap} {t:CTree} {p:Nat} {fp:List Nat} (h:HT H t p fp):∀ q∈fp,q<H.length:=by
 induction h with
 | mk op n binds kids alts p bv fb ps ow fks avs oa fa hbox hb ha hl1 hl2 hk ih =>
   intro q hq
   rcases List.mem_cons.1 hq with rfl | hq
   ·exact hlt hbox
   ·rcases List.mem_append.1 hq with hq | hq
    ·exact hb.lt q hq
    ·rcases List.mem_append.1 hq with hq | hq
     ·exact ha.lt q hq
     ·obtain⟨f,hf,hq⟩:=List.mem_flatten.1 hq
      obtain⟨i,hi,rfl⟩:=List.getElem_of_mem hf
      exact ih i (by omega) q hq
section
variable {L:Lib}
theorem qoZ (hL:Plain L) (hP:MPrims L) (h160:L.fns 160=some fm160) (e:List CExpr) (h:Heap) (hl:e.length<2 ^ 30) (hf:∀ x∈e,NodeFit x) (hT:TreeL e) (hh:hgt (qbO e)≤400) :
  pcall L 160 [.list (e.map qal) none] h=some (.val (qay (qbO e)),h):=by
 obtain⟨H,p,fp,h1,h2,_⟩:=qsp hL hP h160 e hl hf hT []
 have hv:=h2.look (by omega)
 obtain⟨tc,htc,hdt⟩:=qds (qbO e)
 refine qct h1 ?_ (qdd _) h
 unfold qex
 rw[if_neg (by simp[qbE,wipeR,wipe,wipeCell,qap]),hv,htc,qkm]
end
section
end
theorem qug {l:Lab} (h:qb9 false l=0):qpv l=0:=by
 unfold qb9 at h
 split at h
 ·cases h
 ·exact h
theorem qo7 {l:Lab} (h:qb9 false l=0):qbS l.op l.n l.binds.length l.kops.length l.alts=true∧qcu l.op l.n l.binds l.kops.length l.alts=0:=by
 have he:=qug h
 unfold qpv at he
 split at he
 ·cases he
 ·rename_i h1
  split at he
  ·rename_i h2;exact absurd he h2
  ·rename_i h2
   exact⟨by simpa using h1,Classical.not_not.1 h2⟩
def NM (s:RS):Prop:=∀ x y,qbi x s.1=some y→0≤y∧y<s.2
mutual
theorem qog:∀ t:CTree,((qcR t).map fun l=>l.kops.length).sum+1=qez t
 | .mk op n binds kids alts => by
   rw[qcR,qez,List.map_append,List.sum_append]
   have:=qlW kids
   simp
   omega
theorem qlW:∀ ts:List CTree,((qca ts).map fun l=>l.kops.length).sum+ts.length=qbl ts
 | []=>by rw[qca,qbl];rfl
 | t :: ts => by
   rw[qca,qbl,List.map_append,List.sum_append,List.length_cons]
   have:=qog t
   have:=qlW ts
   omega
end
theorem quh {l:Lab} (h:qb9 false l=0):(qdw l).length≤16+16*l.kops.length:=by
 obtain⟨h1,h2⟩:=qo7 h
 have hf:=qgv h2
 obtain⟨f1,f2⟩:=qii l.alts (l.binds.length:Int)
 have h3:=qjL l.alts fun a ha=>by have:=f2 a ha;omega
 have h4:(qdw l).length≤l.binds.length+(l.alts.flatMap (·.binds)).length:=by
  have:=qnm l.op l.binds l.alts
  rw[List.length_append] at this
  exact this
 rcases qkd h1 with h5 | h5<;>omega
theorem qhZ {t:CTree} (h:TOk t):((qcR t).flatMap qdw).length≤131072:=by
 have h1:∀ ls:List Lab,(∀ l∈ls,qb9 false l=0)→(ls.flatMap qdw).length≤16*ls.length+16*(ls.map fun l=>l.kops.length).sum:=by
  intro ls
  induction ls with
  | nil=>intro _;simp
  | cons l ls ih =>
    intro hl
    have a1:=quh (hl l (by simp))
    have a2:=ih fun x hx=>hl x (by simp[hx])
    rw[List.flatMap_cons,List.length_append,List.length_cons,List.map_cons,List.sum_cons]
    omega
 have h2:=h1 _ h.lab
 have h3:=qog t
 have h4:=h.size
 rw[qiL] at h2
 omega
end Go.Abs
