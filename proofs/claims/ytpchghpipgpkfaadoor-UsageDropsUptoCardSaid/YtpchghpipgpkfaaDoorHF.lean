/-
  PARTS OF A PROOF, joined: an abstract machine for quiet code, its evaluation, and what the seat's functions answer on it. Conditions: none.
-/
import Derived.Test.YtpchghpipgpkfaaDoorHB
import Derived.Test.YtpchghpipgpkfaaDoorW
import Derived.Test.YtpchghpipgpkfaaDoorHA
import Derived.Test.YtpchghpipgpkfaaDoorC
set_option linter.unusedVariables false
set_option linter.unusedSimpArgs false
set_option maxRecDepth 100000
set_option maxHeartbeats 4000000
namespace Go.Abs
abbrev RS:=IM Int × Int
section
end
def HKids (H:Heap):List CTree→List Nat→List (List Nat)→Prop
 | [],ps,fs=>ps=[]∧fs=[]
 | t::ts,ps,fs=>∃ p f ps' fs',ps=p::ps'∧fs=f::fs'∧HT H t p f∧HKids H ts ps' fs'
theorem HKids.frame {H H':Heap}:∀ {ts:List CTree} {ps:List Nat} {fs:List (List Nat)},HKids H ts ps fs→(∀ q∈fs.flatten,H'[q]? = H[q]?)→HKids H' ts ps fs
 | [],ps,fs,h,_=>h
 | t::ts,ps,fs,⟨p,f,ps',fs',e1,e2,h3,h4⟩,he=>⟨p,f,ps',fs',e1,e2,h3.frame fun q hq=>he q (by rw[e2];simp[hq]),h4.frame fun q hq=>he q (by
   rw[e2,List.flatten_cons]
   exact List.mem_append.2 (.inr hq))⟩
theorem HKids.snoc {H:Heap} {t:CTree} {p:Nat} {f:List Nat} (ht:HT H t p f):∀ {ts:List CTree} {ps:List Nat} {fs:List (List Nat)},HKids H ts ps fs→HKids H (ts++[t]) (ps++[p]) (fs++[f])
 | [],ps,fs,h => by
   obtain⟨rfl,rfl⟩:=h
   exact⟨p,f,[],[],rfl,rfl,ht,rfl,rfl⟩
 | t'::ts,ps,fs,⟨p',f',ps',fs',e1,e2,h3,h4⟩=>⟨p',f',_,_,by rw[e1];rfl,by rw[e2];rfl,h3,h4.snoc ht⟩
theorem HKids.len {H:Heap}:∀ {ts:List CTree} {ps:List Nat} {fs:List (List Nat)},HKids H ts ps fs→ps.length=ts.length
 | [],ps,fs,h=>by obtain⟨rfl,_⟩:=h;rfl
 | t::ts,ps,fs,⟨p,f,ps',fs',e1,e2,h3,h4⟩=>by rw[e1];simp[h4.len]
structure RE (H:Heap) (pm pf pw r:Nat) (s:RS):Prop where
 m:H[pm]? = some (.box [.map (some r)])
 f:H[pf]? = some (.box [.int .i64 s.2])
 w:H[pw]? = some (.box [.func 207 [] [qaE pm,qaE pf,qaE pw]])
 r:H[r]? = some (.map (encB s.1))
theorem RE.ne {H:Heap} {pm pf pw r:Nat} {s:RS} (h:RE H pm pf pw r s):pf≠pm∧pf≠r∧pm≠r∧pw≠pf∧pw≠r:=by
 have h1:=h.m
 have h2:=h.f
 have h3:=h.w
 have h4:=h.r
 refine⟨?_,?_,?_,?_,?_⟩<;>rintro rfl
 ·rw[h1] at h2;cases h2
 ·rw[h4] at h2;cases h2
 ·rw[h1] at h4;cases h4
 ·rw[h3] at h2;cases h2
 ·rw[h3] at h4;cases h4
theorem RE.frame {H H':Heap} {pm pf pw r:Nat} {s s':RS} (h:RE H pm pf pw r s) (hf:H'[pf]? = some (.box [.int .i64 s'.2])) (hr:H'[r]? = some (.map (encB s'.1))) (he:∀ q,q≠pf→q≠r→(q=pm∨q=pw)→H'[q]? = H[q]?):RE H' pm pf pw r s':=by
 obtain⟨a,b,c,d,e⟩:=h.ne
 exact⟨by rw[he pm (fun x=>a x.symm) c (.inl rfl)];exact h.m,hf,by rw[he pw d e (.inr rfl)];exact h.w,hr⟩
section
end
section
end
theorem HT.lt {H:Heap} {t:CTree} {p:Nat} {fp:List Nat} (h:HT H t p fp):∀ q∈fp,q<H.length:=by
 induction h with
 | mk op n binds kids alts p bv fb ps ow fks avs oa fa hbox hb ha hl1 hl2 hk ih =>
   intro q hq
   rcases List.mem_cons.1 hq with rfl | hq
   ·exact hlt hbox
   ·rcases List.mem_append.1 hq with hq | hq
    ·exact hb.lt q hq
    ·rcases List.mem_append.1 hq with hq | hq
     ·exact ha.lt q hq
     ·obtain⟨f,hf,hq⟩:=List.mem_flatten.1 hq
      obtain⟨i,hi,rfl⟩:=List.getElem_of_mem hf
      exact ih i (by omega) q hq
theorem qrg (tm:Tmps) (h:Heap):qo7 ⟨tm,h⟩=⟨fun i=>viewV h (tm i),h.map fun _=>.gone⟩:=rfl
section
variable {L:Lib}
theorem qrG (hL:Plain L) (hP:MPrims L) (h160:L.fns 160=some fm160) (e:List CExpr) (h:Heap) (hl:e.length<2 ^ 30) (hf:∀ x∈e,NodeFit x) (hT:TreeL e) (hh:hgt (qbw e)≤400) :
  pcall L 160 [.list (e.map qam) none] h=some (.val (qaw (qbw e)),h):=by
 obtain⟨H,p,fp,h1,h2,_⟩:=qvQ hL hP h160 e hl hf hT []
 have hv:=h2.look (by omega)
 obtain⟨tc,htc,hdt⟩:=qcf (qbw e)
 refine qb5 h1 ?_ (qco _) h
 unfold qeo
 rw[if_neg (by simp[qaE,wipeR,wipe,wipeCell,qax]),hv,htc,qmd]
end
section
end
def BG (op:Int) (binds:List Int):Prop:=op≠9→qdw op=false→binds=[]
inductive BGt:CTree→Prop
 | mk (op n:Int) (binds:List Int) (kids:List CTree) (alts:List CAlt) (hb:BG op binds) (h0:op=0→kids=[]∧alts=[]) (h:∀ k∈kids,BGt k):BGt (.mk op n binds kids alts)
theorem qv5 {op n:Int} {binds:List Int} {kl:Nat} {as:List CAlt} (h:qa3 op n binds.length kl as=true):BG op binds∧(op=0→kl=0∧as=[]):=by
 unfold qa3 at h
 split at h
 ·rename_i ho
  simp only[Bool.and_eq_true,beq_iff_eq] at h
  refine⟨fun _ _=>List.length_eq_zero_iff.1 (by omega),fun h0=>?_⟩
  subst h0
  exact absurd ho (by decide)
 ·split at h
  ·cases h
  ·rename_i r hr
   unfold qbJ at h
   simp only[Bool.and_eq_true,beq_iff_eq] at h
   obtain⟨⟨⟨a1,a2⟩,a3⟩,_⟩:=h
   refine⟨fun h9 hob=>List.length_eq_zero_iff.1 ?_,fun h0=>?_⟩
   ·unfold qdw at hob
    simp only[Bool.or_eq_false_iff,beq_eq_false_iff_ne] at hob
    obtain⟨⟨o1,o2⟩,o3⟩:=hob
    unfold kbu at hr
    rw[if_neg o1,if_neg o2,if_neg o3,if_neg h9] at hr
    repeat' (split at hr)
    all_goals first
     | (cases hr;done)
     | (injection hr with hr;subst hr;simpa using a2)
   ·subst h0
    have:kbu 0 n binds.length kl=some (0,0,true):=rfl
    rw[this] at hr
    injection hr with hr
    subst hr
    exact⟨by simpa using a1,List.length_eq_zero_iff.1 (by simpa using a3)⟩
theorem qyl {l:Lab} (h:qbL false l=0):qqB l=0:=by
 unfold qbL at h
 split at h
 ·cases h
 ·exact h
theorem qhW {l:Lab} (h:qbL false l=0):qa3 l.op l.n l.binds.length l.kops.length l.alts=true∧qc1 l.op l.n l.binds l.kops.length l.alts=0:=by
 have he:=qyl h
 unfold qqB at he
 split at he
 ·cases he
 ·rename_i h1
  split at he
  ·rename_i h2;exact absurd he h2
  ·rename_i h2
   exact⟨by simpa using h1,Classical.not_not.1 h2⟩
theorem qfG {k:CTree} {ks:List CTree} (h:k∈ks):∀ l∈qbp k,l∈qbr ks:=by
 induction ks with
 | nil=>cases h
 | cons a ks ih =>
   intro l hl
   rw[qbr]
   rcases List.mem_cons.1 h with h | h
   ·subst h;exact List.mem_append.2 (.inl hl)
   ·exact List.mem_append.2 (.inr (ih h l hl))
theorem qqh (t:CTree) (h:∀ l∈qbp t,qbL false l=0):BGt t:=by
 induction t using CTree.ind with
 | h op n binds kids alts ih =>
   rw[qbp] at h
   obtain⟨h1,_⟩:=qhW (h ⟨op,n,binds,kids.map qdy,alts⟩ (by simp))
   obtain⟨b1,b2⟩:=qv5 h1
   refine .mk _ _ _ _ _ b1 (fun h0=>?_) fun k hk=>ih k hk fun l hl=>h l (List.mem_append.2 (.inl (qfG hk l hl)))
   obtain⟨x1,x2⟩:=b2 h0
   exact⟨by simpa using x1,x2⟩
def NM (s:RS):Prop:=∀ x y,qbt x s.1=some y→0≤y∧y<s.2
mutual
theorem qqS:∀ t:CTree,((qbp t).map fun l=>l.kops.length).sum+1=qaJ t
 | .mk op n binds kids alts => by
   rw[qbp,qaJ,List.map_append,List.sum_append]
   have:=qn9 kids
   simp
   omega
theorem qn9:∀ ts:List CTree,((qbr ts).map fun l=>l.kops.length).sum+ts.length=qat ts
 | []=>by rw[qbr,qat];rfl
 | t :: ts => by
   rw[qbr,qat,List.map_append,List.sum_append,List.length_cons]
   have:=qqS t
   have:=qn9 ts
   omega
end
theorem qym {l:Lab} (h:qbL false l=0):(qch l).length≤16+16*l.kops.length:=by
 obtain⟨h1,h2⟩:=qhW h
 have hf:=qe6 h2
 obtain⟨f1,f2⟩:=qg5 l.alts (l.binds.length:Int)
 have h3:=qlr l.alts fun a ha=>by have:=f2 a ha;omega
 have h4:(qch l).length≤l.binds.length+(l.alts.flatMap (·.binds)).length:=by
  have:=qpT l.op l.binds l.alts
  rw[List.length_append] at this
  exact this
 rcases ql2 h1 with h5 | h5<;>omega
theorem qjk {t:CTree} (h:TOk t):((qbp t).flatMap qch).length≤131072:=by
 have h1:∀ ls:List Lab,(∀ l∈ls,qbL false l=0)→(ls.flatMap qch).length≤16*ls.length+16*(ls.map fun l=>l.kops.length).sum:=by
  intro ls
  induction ls with
  | nil=>intro _;simp
  | cons l ls ih =>
    intro hl
    have a1:=qym (hl l (by simp))
    have a2:=ih fun x hx=>hl x (by simp[hx])
    rw[List.flatMap_cons,List.length_append,List.length_cons,List.map_cons,List.sum_cons]
    omega
 have h2:=h1 _ h.lab
 have h3:=qqS t
 have h4:=h.size
 rw[qka] at h2
 omega
section
end
def h7 (s:List Int):Heap:=if s=[] then [] else [.vec (s.map qau) 1]
section
end
end Go.Abs
