/-
  PARTS OF A PROOF, joined: an abstract machine for quiet code, its evaluation, and what the seat's functions answer on it. Conditions: none.
-/
import Derived.Test.YtbmognfolkhkpaaDoorHI
import Derived.Test.YtbmognfolkhkpaaDoorHA
import Derived.Test.YtbmognfolkhkpaaDoorC
set_option linter.unusedVariables false
set_option linter.unusedSimpArgs false
set_option maxRecDepth 100000
namespace Go.Abs
def sgA (a:CAlt):Int × Nat:=(a.tag,a.binds.length)
def qoB (op:Int) (as:List (Int × Nat)) (i:Nat) (a:Int × Nat):Bool :=
 (as.take i).any (fun b=>b.1==a.1) || decide (a.1 < -1) || (op==7 && a.1 == -1 && (decide ((i:Int)<as.length-1) || decide ((0:Int)<a.2))) ||
 (op==13 && (((i:Int)==0) != (a.1 == -1))) || (op==13 && ((a.2:Int) != min ((i:Int)+1) 2))
theorem qrh (op:Int) (as:List CAlt) (i:Nat) (a:CAlt):qib op as i a=qoB op (as.map sgA) i (sgA a):=by
 unfold qib qoB sgA
 rw[← List.map_take,List.any_map,List.length_map]
 rfl
theorem qjp {α β γ:Type} (g:α→β) (f:Nat→β→Option γ):∀ (l:List α) (k:Nat),qbr (fun i a=>f i (g a)) l k=qbr f (l.map g) k
 | [],k=>rfl
 | x :: l,k => by
   rw[qbr,List.map_cons,qbr,qjp g f l]
theorem qri {op:Int} {as cs:List CAlt} (h:as.map sgA=cs.map sgA) (kl:Nat):qic op as kl=qic op cs kl:=by
 have hl:as.length=cs.length:=by have:=congrArg List.length h;simpa using this
 unfold qic
 rw[hl]
 have e:∀ xs:List CAlt,qbr (fun i a=>if qib op xs i a=true then some () else none) xs 0=qbr (fun i p=>if qoB op (xs.map sgA) i p=true then some () else none) (xs.map sgA) 0:=by
  intro xs
  rw[← qjp sgA]
  congr 1
  funext i a
  rw[qrh]
 rw[e,e,h]
theorem qng {as cs:List CAlt} (h:as.map sgA=cs.map sgA) (b:Int):qbX b as=qbX b cs:=by
 have e:∀ (xs:List CAlt) (b:Int),qbX b xs=(xs.map sgA).foldl (fun m p=>max m (p.2:Int)) b:=by
  intro xs b
  unfold qbX
  rw[List.foldl_map]
  rfl
 rw[e,e,h]
theorem qxM (as:List CAlt):∀ s:RS,(frA as s).1.map sgA=as.map sgA:=by
 induction as with
 | nil=>intro s;rfl
 | cons a as ih =>
   intro s
   rw[frA,List.map_cons,List.map_cons,ih]
   unfold sgA
   rw[qdD]
theorem quS {op n:Int} {binds:List Int} {kl:Nat} {as:List CAlt} (h:qcz op n binds.length kl as=true):BG op binds∧(op=0→kl=0∧as=[]):=by
 unfold qcz at h
 split at h
 ·rename_i ho
  simp only[Bool.and_eq_true,beq_iff_eq] at h
  refine⟨fun _ _=>List.length_eq_zero_iff.1 (by omega),fun h0=>?_⟩
  subst h0
  exact absurd ho (by decide)
 ·split at h
  ·cases h
  ·rename_i r hr
   unfold qeV at h
   simp only[Bool.and_eq_true,beq_iff_eq] at h
   obtain⟨⟨⟨a1,a2⟩,a3⟩,_⟩:=h
   refine⟨fun h9 hob=>List.length_eq_zero_iff.1 ?_,fun h0=>?_⟩
   ·unfold qdH at hob
    simp only[Bool.or_eq_false_iff,beq_eq_false_iff_ne] at hob
    obtain⟨⟨o1,o2⟩,o3⟩:=hob
    unfold kbu at hr
    rw[if_neg o1,if_neg o2,if_neg o3,if_neg h9] at hr
    repeat' (split at hr)
    all_goals first
     | (cases hr;done)
     | (injection hr with hr;subst hr;simpa using a2)
   ·subst h0
    have:kbu 0 n binds.length kl=some (0,0,true):=rfl
    rw[this] at hr
    injection hr with hr
    subst hr
    exact⟨by simpa using a1,List.length_eq_zero_iff.1 (by simpa using a3)⟩
theorem qyt {op n n':Int} (h:op≠0→n'=n) (bl kl:Nat):kbu op n' bl kl=kbu op n bl kl:=by
 by_cases h0:op=0
 ·subst h0;rfl
 ·rw[h h0]
theorem qxl {op n n':Int} (h:op≠0→n'=n) {bl kl:Nat} {as cs:List CAlt} (hs:as.map sgA=cs.map sgA) (hk:qcz op n bl kl as=true):qcz op n' bl kl cs=true:=by
 have hl:as.length=cs.length:=by have:=congrArg List.length hs;simpa using this
 unfold qcz at hk ⊢
 rw[← qri hs,qyt h,← hl]
 by_cases h0:op=0
 ·subst h0
  have:kbu 0 n bl kl=some (0,0,true):=rfl
  rw[this] at hk ⊢
  unfold qeV at hk ⊢
  simpa using hk
 ·rw[h h0]
  exact hk
theorem qvD {op n n':Int} {binds binds':List Int} {ko:List Int} {as cs:List CAlt} (he:qoQ ⟨op,n,binds,ko,as⟩=0) (hn:op≠0→n'=n) (hn0:op=0→0≤n'∧n'≤1048575) (hl:binds'.length=binds.length)
  (h9:op=9→binds'=binds) (hb:∀ x∈binds',0≤x∧x≤1048575) (hs:as.map sgA=cs.map sgA) (hc:∀ c∈cs,∀ x∈c.binds,0≤x∧x≤1048575):qoQ ⟨op,n',binds',ko,cs⟩=0:=by
 unfold qoQ at he ⊢
 dsimp only at he ⊢
 split at he
 ·cases he
 ·rename_i h1
  have h1:qcz op n binds.length ko.length as=true:=by simpa using h1
  split at he
  ·rename_i h2;exact absurd he h2
  ·rename_i h2
   have h2:qcP op n binds ko.length as=0:=Classical.not_not.1 h2
   split at he
   ·cases he
   ·rename_i h3
    rw[hl,qxl hn hs h1,if_neg (by decide),if_neg,if_neg]
    ·refine fun hx=>h3 ?_
     rw[qim] at hx ⊢
     obtain⟨i,hi,hx⟩:=hx
     refine⟨i,by omega,?_⟩
     unfold qgo at hx ⊢
     by_cases h:op=9
     ·rw[h9 h] at hx;exact hx
     ·have:(op==9)=false:=by simpa using h
      rw[this] at hx ⊢
      simpa using hx
    ·refine fun hx=>hx ?_
     unfold qcP at h2 ⊢
     split at h2
     ·cases h2
     ·rename_i r1
      split at h2
      ·cases h2
      ·split at h2
       ·cases h2
       ·rename_i r3
        split at h2
        ·cases h2
        ·rename_i r4
         rw[if_neg,if_neg,if_neg,if_neg]
         ·rw[hl,← qng hs];exact r4
         ·intro hx
          rw[List.any_eq_true] at hx
          obtain⟨c,hcm,hx⟩:=hx
          refine r3 ?_
          have hmem:sgA c∈as.map sgA:=by rw[hs];exact List.mem_map_of_mem hcm
          obtain⟨a,ha,hac⟩:=List.mem_map.1 hmem
          have ht:a.tag=c.tag:=congrArg Prod.fst hac
          refine List.any_eq_true.2 ⟨a,ha,?_⟩
          unfold qcZ at hx ⊢
          rw[ht]
          have:c.binds.any qeS=false:=by
           rw[List.any_eq_false]
           intro x hxm
           unfold qeS
           simpa using hc c hcm x hxm
          rw[this,Bool.or_false] at hx
          rw[hx,Bool.true_or]
         ·rw[Bool.not_eq_true,List.any_eq_false]
          intro x hxm
          unfold qeS
          simpa using hb x hxm
         ·intro hx
          by_cases h0:op=0
          ·subst h0
           exact hx (hn0 rfl)
          ·rw[hn h0] at hx
           exact r1 hx
theorem qw1 {l:Lab} (h:qcM false l=0):qoQ l=0:=by
 unfold qcM at h
 split at h
 ·cases h
 ·exact h
theorem qht {l:Lab} (h:qcM false l=0):qcz l.op l.n l.binds.length l.kops.length l.alts=true∧qcP l.op l.n l.binds l.kops.length l.alts=0:=by
 have he:=qw1 h
 unfold qoQ at he
 split at he
 ·cases he
 ·rename_i h1
  split at he
  ·rename_i h2;exact absurd he h2
  ·rename_i h2
   exact⟨by simpa using h1,Classical.not_not.1 h2⟩
theorem qnP {k:CTree} {ks:List CTree} (h:k∈ks):∀ l∈qcx k,l∈qcl ks:=by
 induction ks with
 | nil=>cases h
 | cons a ks ih =>
   intro l hl
   rw[qcl]
   rcases List.mem_cons.1 h with h | h
   ·subst h;exact List.mem_append.2 (.inl hl)
   ·exact List.mem_append.2 (.inr (ih h l hl))
theorem qpr (t:CTree) (h:∀ l∈qcx t,qcM false l=0):BGt t:=by
 induction t using CTree.ind with
 | h op n binds kids alts ih =>
   rw[qcx] at h
   obtain⟨h1,_⟩:=qht (h ⟨op,n,binds,kids.map qhI,alts⟩ (by simp))
   obtain⟨b1,b2⟩:=quS h1
   refine .mk _ _ _ _ _ b1 (fun h0=>?_) fun k hk=>ih k hk fun l hl=>h l (List.mem_append.2 (.inl (qnP hk l hl)))
   obtain⟨x1,x2⟩:=b2 h0
   exact⟨by simpa using x1,x2⟩
def NM (s:RS):Prop:=∀ x y,qce x s.1=some y→0≤y∧y<s.2
theorem NM.frL (l:List Int):∀ {s:RS},NM s→0≤s.2→NM (frL l s):=by
 induction l with
 | nil=>exact fun h _=>h
 | cons v l ih =>
   intro s h h0
   rw[qhr]
   refine ih (fun x y hxy=>?_) (by show 0≤s.2+1;omega)
   dsimp only at hxy ⊢
   rw[qe8] at hxy
   split at hxy
   ·injection hxy with hxy;omega
   ·have:=h x y hxy;omega
theorem qsB (t:CTree) (s:RS):qhI (qdF t s).1=qhI t:=by cases t;rw[qdF];rfl
theorem qlZ:∀ (ks:List CTree) (s:RS),(qbO ks s).1.map qhI=ks.map qhI
 | [],s=>by rw[qbO]
 | k::ks,s=>by rw[qbO,List.map_cons,List.map_cons,qsB,qlZ ks]
theorem quf (t:CTree):∀ s:RS,(∀ l∈qcx t,qcM false l=0)→NM s→0≤s.2→(qdF t s).2.2≤1048576→(∀ l∈qcx (qdF t s).1,qcM false l=0)∧NM (qdF t s).2:=by
 induction t using CTree.ind with
 | h op n binds kids alts ih =>
   intro s h hm h0 hx
   have hT:=qpr _ h
   rw[qcx] at h
   have hlab:=h ⟨op,n,binds,kids.map qhI,alts⟩ (by simp)
   cases hT with
   | mk _ _ _ _ _ hb hz hk =>
   have key:∀ ks:List CTree,(∀ k∈ks,k∈kids)→∀ s:RS,NM s→0≤s.2→(qbO ks s).2.2≤1048576→(∀ l∈qcl (qbO ks s).1,qcM false l=0)∧NM (qbO ks s).2:=by
    intro ks
    induction ks with
    | nil=>intro _ s hm _ _;rw[qbO];exact⟨fun l hl=>(by rw[qcl] at hl;cases hl),hm⟩
    | cons k ks ih2 =>
      intro hks s hm h0 hx
      rw[qbO] at hx ⊢
      dsimp only at hx ⊢
      have m1:=qgZ k s
      have m2:=qfU ks (fun k _=>qgZ k) (qdF k s).2
      obtain⟨a1,a2⟩:=ih k (hks k (by simp)) s (fun l hl=>h l (List.mem_append.2 (.inl (qnP (hks k (by simp)) l hl)))) hm h0 (by omega)
      obtain⟨b1,b2⟩:=ih2 (fun q hq=>hks q (by simp[hq])) (qdF k s).2 a2 (by omega) hx
      refine⟨fun l hl=>?_,b2⟩
      rw[qcl] at hl
      rcases List.mem_append.1 hl with hl | hl
      ·exact a1 l hl
      ·exact b1 l hl
   rw[qdF] at hx ⊢
   dsimp only at hx ⊢
   have m1:=qjc op binds s
   have m2:=qms alts (qdC op binds s)
   have m3:=qfU kids (fun k _=>qgZ k) (frA alts (qdC op binds s)).2
   have hs2:NM (frA alts (qdC op binds s)).2:=by rw[qff hb];exact hm.frL _ h0
   obtain⟨c1,c2⟩:=key kids (fun k hk=>hk) _ hs2 (by omega) hx
   refine⟨fun l hl=>?_,c2⟩
   rw[qcx] at hl
   rcases List.mem_append.1 hl with hl | hl
   ·exact c1 l hl
   ·rw[List.mem_singleton.1 hl,qlZ]
    unfold qcM at hlab ⊢
    dsimp only at hlab ⊢
    split at hlab
    ·cases hlab
    ·rename_i hop
     rw[if_neg hop]
     obtain⟨_,hr⟩:=qht (h ⟨op,n,binds,kids.map qhI,alts⟩ (by simp))
     refine qvD hlab (fun h=>?_) (fun h=>?_) (qkT op binds s) (fun h=>?_) (fun x hxm=>?_) (qxM alts _).symm fun c hc x hxm=>?_
     ·unfold qq4
      cases qce n s.1 with
      | none=>rfl
      | some x=>exact if_neg h
     ·subst h
      have hn:0≤n∧n≤1048575:=by
       unfold qcP at hr
       split at hr
       ·cases hr
       ·rename_i hr1
        exact Classical.not_not.1 hr1
      unfold qq4
      cases hq:qce n s.1 with
      | none=>exact hn
      | some x =>
        have:=hm n x hq
        show 0≤x∧x≤1048575
        omega
     ·unfold qh4
      rw[if_pos h]
     ·unfold qh4 at hxm
      unfold qdC at m1 m2 m3 hx
      split at hxm
      ·unfold qcP at hr
       split at hr
       ·cases hr
       ·split at hr
        ·cases hr
        ·rename_i hr2
         dsimp only at hr2
         rw[Bool.not_eq_true,List.any_eq_false] at hr2
         have:=hr2 x hxm
         unfold qeS at this
         simpa using this
      ·rename_i h9
       rw[if_neg h9,qde] at m2
       have:=qpZ.1 hxm
       rw[if_neg h9] at m3 hx
       omega
     ·have hmem:x∈(frA alts (qdC op binds s)).1.flatMap (·.binds):=List.mem_flatMap.2 ⟨c,hc,hxm⟩
      rw[qnj] at hmem
      have:=qpZ.1 hmem
      have hq:=qpH alts (qdC op binds s)
      omega
theorem qqV (a:Int) (n:Nat):(qfX a n).Nodup:=by
 unfold qfX
 refine List.pairwise_map.2 (List.nodup_range.imp fun {x y} hxy e=>hxy ?_)
 omega
theorem qpd (a:Int) (n:Nat):(qfX a n).Pairwise (· ≤ ·):=by
 unfold qfX
 refine List.pairwise_map.2 (List.pairwise_lt_range.imp fun {x y} hxy=>?_)
 omega
theorem qxd {t:CTree} (h:TOk t) (a:Int) (ha:0≤a) (hb:(qdF t ([],a)).2.2≤1048576):TOk (qdF t ([],a)).1:=by
 have hB:=qpr t h.lab
 refine⟨by rw[qkU];exact h.size,by rw[qmJ];exact h.deep,(quf t ([],a) h.lab (fun x y hxy=>by cases hxy) ha hb).1,?_⟩
 refine ((qn7 t hB ([],a)).2.nodup_iff).2 ?_
 exact qqV _ _
mutual
theorem qpU:∀ t:CTree,((qcx t).map fun l=>l.kops.length).sum+1=qbR t
 | .mk op n binds kids alts => by
   rw[qcx,qbR,List.map_append,List.sum_append]
   have:=qnC kids
   simp
   omega
theorem qnC:∀ ts:List CTree,((qcl ts).map fun l=>l.kops.length).sum+ts.length=qbd ts
 | []=>by rw[qcl,qbd];rfl
 | t :: ts => by
   rw[qcl,qbd,List.map_append,List.sum_append,List.length_cons]
   have:=qpU t
   have:=qnC ts
   omega
end
theorem qw2 {l:Lab} (h:qcM false l=0):(qcL l).length≤16+16*l.kops.length:=by
 obtain⟨h1,h2⟩:=qht h
 have hf:=qiN h2
 obtain⟨f1,f2⟩:=qku l.alts (l.binds.length:Int)
 have h3:=qlB l.alts fun a ha=>by have:=f2 a ha;omega
 have h4:(qcL l).length≤l.binds.length+(l.alts.flatMap (·.binds)).length:=by
  have:=qmE l.op l.binds l.alts
  rw[List.length_append] at this
  exact this
 rcases ql4 h1 with h5 | h5<;>omega
theorem qoH {t:CTree} (h:TOk t):((qcx t).flatMap qcL).length≤131072:=by
 have h1:∀ ls:List Lab,(∀ l∈ls,qcM false l=0)→(ls.flatMap qcL).length≤16*ls.length+16*(ls.map fun l=>l.kops.length).sum:=by
  intro ls
  induction ls with
  | nil=>intro _;simp
  | cons l ls ih =>
    intro hl
    have a1:=qw2 (hl l (by simp))
    have a2:=ih fun x hx=>hl x (by simp[hx])
    rw[List.flatMap_cons,List.length_append,List.length_cons,List.map_cons,List.sum_cons]
    omega
 have h2:=h1 _ h.lab
 have h3:=qpU t
 have h4:=h.size
 rw[qiK] at h2
 omega
theorem qsG {e:List CExpr} (h:qbi e=0) (hf:∀ x∈e,NodeFit x) (a:Int) (ha:0≤a) (hb:a<5000) :
  (qdb e a).2=0∧(∃ K,qb4 ((qdb e a).1.flatMap qbL)=qfX a K∧K≤131072)∧qfW e (qdb e a).1=true∧(qdb e a).1=qbU (qdF (qb2 e) ([],a)).1:=by
 have hT:=qvj h
 have hB:=qpr _ hT.lab
 obtain⟨_,_,_,_,_,hc⟩:=qcG h
 have hm:=qoH hT
 obtain⟨c1,c2⟩:=qn7 _ hB ([],a)
 dsimp only at c1 c2
 have hx:(qdF (qb2 e) ([],a)).2.2≤1048576:=by omega
 have hT':=qxd hT a ha hx
 have hc':=qqP hB hT.once hc a
 have hre:qdb e a=(qbU (qdF (qb2 e) ([],a)).1,0):=by
  unfold qdb
  rw[if_pos h,if_neg (by omega),if_neg (by omega)]
 rw[hre]
 refine⟨rfl,⟨_,?_,hm⟩,?_,rfl⟩
 ·have hp:=qe2 _ (qk9 (qdF (qb2 e) ([],a)).1)
  rw[qe0] at hp
  refine qk2 (qdu _) (qpd _ _) ((qc3 _).trans ?_)
  rw[qhO (qbU (qdF (qb2 e) ([],a)).1)]
  exact ((hp.flatMap_right qcL).symm).trans c2
 ·unfold qfW
  rw[h,qnd hT',if_pos hc',qe0]
  have:=quL (qb2 e) hB ([],a)
  rw[this]
  rfl
end Go.Abs
set_option maxHeartbeats 4000000
namespace Go.Abs
def qyF (H:Heap) (n:Nat) (ow:Option (Option Nat)):Prop:=(n=0∧ow=some none)∨(0<n∧∃ t,ow=some (some t)∧H[t]? = some (.tail n 1))
section
variable {L:Lib}
theorem qmj {b:Nat} (as:List CAlt) (hl:as.length<2 ^ 30) (s0:List Int) (ht:(s0++as.flatMap (·.binds)).length≤2 ^ 30) (H:Heap) (ow:Option (Option Nat)) (ho:qyF H s0.length ow) :
  ∃ T,qcg L.pure (call L) b [1000000,3,24,25,26] [1000000,3] 0 qhf ⟨kt [3,24,25,26] [.list (s0.map qaP) ow,.list (as.map qaM) none,.int .i64 as.length,.int .i64 0],H⟩=some (.normal,T) ∧
   ∃ H' ow',T=⟨kt [3] [.list ((s0++as.flatMap (·.binds)).map qaP) ow'],H'⟩:=by
 refine qc7 (pure:=L.pure) (call:=call L) (b:=b) (id:=0) (body:=qhf)
  (fun j st=>∃ H' ow',st=⟨kt [3,24,25,26] [.list ((s0++(as.take j).flatMap (·.binds)).map qaP) ow',.list (as.map qaM) none,.int .i64 as.length,.int .i64 j],H'⟩∧qyF H' (s0++(as.take j).flatMap (·.binds)).length ow') as.length _ ?_ ?_ ?_
 ·intro j st hj hst
  obtain⟨H',ow',rfl,hO⟩:=hst
  obtain⟨h1,h2,h3⟩:=qbE qaM as hl j hj
  have htake:(as.take (j+1)).flatMap (·.binds)=(as.take j).flatMap (·.binds)++as[j].binds:=by
   rw[List.take_succ_eq_append_getElem hj,List.flatMap_append,List.flatMap_cons,List.flatMap_nil,List.append_nil]
  have hlen:(s0++(as.take j).flatMap (·.binds)).length+as[j].binds.length≤1073741824:=by
   have h5:as.flatMap (·.binds)=(as.take j).flatMap (·.binds)++(as[j].binds++(as.drop (j+1)).flatMap (·.binds)):=by
    conv=>lhs;rw[← List.take_append_drop j as,List.drop_eq_getElem_cons hj]
    rw[List.flatMap_append,List.flatMap_cons]
   rw[h5] at ht
   simp only[List.length_append] at ht ⊢
   omega
  rw[htake,← List.append_assoc]
  generalize s0++(as.take j).flatMap (·.binds)=s at *
  generalize as[j]=a at *
  have hs1:=qet s
  have hs3:=qet a.binds
  obtain⟨rr,hr0⟩:∃ rr,qch L.pure (call L) b [1000000,3,24,25,26] [1000000,3] qhf ⟨kt [3,24,25,26] [.list (s.map qaP) ow',.list (as.map qaM) none,.int .i64 as.length,.int .i64 j],H'⟩=rr:=⟨_,rfl⟩
  have hrr:=hr0
  unfold qhf at hrr
  by_cases hab:a.binds=[]
  ·rw[hab,List.append_nil]
   have hab':a.binds.map qaP=[]:=by rw[hab];rfl
   simp -implicitDefEqProofs only[qaq,qad,qae,qaf,qao,qab,qah,aOp,opd,qai,qa1,qav,qag,qaV,qbh,qbg,qaE,qaj,qaF,qbC,qbG,qaK,leaf,qaw,qaT,qaS,qac,qbM,Option.map_some,List.map_cons,List.map_nil,List.length_cons,List.length_nil,List.nil_append,List.append_nil,List.getElem?_cons_zero,List.getElem?_cons_succ,List.take_succ_cons,List.take_zero,List.drop_succ_cons,List.drop_zero,List.take_nil,List.drop_nil,List.all_cons,List.all_nil,↓reduceIte,Bool.and_true,Bool.false_eq_true,decide_true,and_self,Nat.le_refl,Nat.zero_add,Nat.reduceEqDiff,Nat.reduceAdd,Int.toNat_natCast,Int.natCast_nonneg,qau,qbD,h1,h2,h3,hab',hgl,hsl] at hrr
   subst hrr
   refine⟨_,hr0,_,ow',rfl,?_⟩
   rcases hO with hO | ⟨x1,t,x2,x3⟩
   ·exact .inl hO
   ·exact .inr ⟨x1,t,x2,by rw[hga (hlt x3)];exact x3⟩
  ·have hab':((a.binds.map qaP)=[])=False:=by simpa using hab
   have hpos:=List.length_pos_iff.2 hab
   rcases hO with ⟨x1,rfl⟩ | ⟨x1,t,rfl,x3⟩
   ·have:s=[]:=List.length_eq_zero_iff.1 x1
    subst this
    have hlen:a.binds.length≤1073741824:=by simpa using hlen
    simp -implicitDefEqProofs only[qaq,qad,qae,qaf,qao,qab,qah,aOp,opd,qai,qa1,qav,qag,qaV,qbh,qbg,qaE,qaj,qaF,qbC,qbG,qaK,leaf,qaw,qaT,qaS,qac,qbM,Option.map_some,List.map_cons,List.map_nil,List.length_cons,List.length_nil,List.length_append,List.length_map,List.cons_append,List.nil_append,List.append_nil,List.append_assoc,List.getElem?_cons_zero,List.getElem?_cons_succ,List.take_succ_cons,List.take_zero,List.drop_succ_cons,List.drop_zero,List.take_nil,List.drop_nil,List.all_cons,List.all_nil,↓reduceIte,Bool.and_true,Bool.false_eq_true,decide_true,and_self,Nat.le_refl,Nat.zero_add,Nat.reduceEqDiff,Nat.reduceAdd,Int.toNat_natCast,Int.natCast_nonneg,qau,qb3,qbD,h1,h2,h3,hab',hlen,hs3,hgl,hsl] at hrr
    subst hrr
    refine⟨_,hr0,_,_,rfl,.inr ⟨by simpa using hpos,_,rfl,?_⟩⟩
    simp
   ·have x4:=hlt x3
    simp -implicitDefEqProofs only[qaq,qad,qae,qaf,qao,qab,qah,aOp,opd,qai,qa1,qav,qag,qaV,qbh,qbg,qaE,qaj,qaF,qbC,qbG,qaK,leaf,qaw,qaT,qaS,qac,qbM,Option.map_some,List.map_cons,List.map_nil,List.length_cons,List.length_nil,List.length_map,List.nil_append,List.append_nil,List.getElem?_cons_zero,List.getElem?_cons_succ,List.take_succ_cons,List.take_zero,List.drop_succ_cons,List.drop_zero,List.take_nil,List.drop_nil,List.all_cons,List.all_nil,↓reduceIte,Bool.and_true,Bool.false_eq_true,decide_true,and_self,Nat.le_refl,Nat.zero_add,Nat.reduceEqDiff,Nat.reduceAdd,Int.toNat_natCast,Int.natCast_nonneg,qau,qb3,qbD,h1,h2,h3,hab',hlen,hs1,hs3,hgl,hsl,hsa,hga,x3,x4] at hrr
    subst hrr
    refine⟨_,hr0,_,some (some t),by rw[List.map_append],.inr ⟨by simp;omega,t,rfl,?_⟩⟩
    rw[hga (by simpa using x4),hgs x4,List.length_append]
 ·intro st hst
  obtain⟨H',ow',rfl,hO⟩:=hst
  have h0:=qbF as.length
  rw[List.take_length]
  refine⟨_,?_,H',ow',rfl⟩
  unfold qhf
  simp -implicitDefEqProofs only[qad,qae,qaf,qbl,qab,qah,aOp,opd,qai,qav,qag,qbh,qbg,qaj,gcE,qaS,qac,List.map_cons,List.map_nil,List.drop_succ_cons,List.drop_zero,↓reduceIte,Bool.false_eq_true,decide_true,decide_false,Nat.reduceEqDiff,qau,List.map_append,h0]
 ·exact⟨H,ow,by rw[List.take_zero,List.flatMap_nil,List.append_nil];rfl,by rw[List.take_zero,List.flatMap_nil,List.append_nil];exact ho⟩
theorem qti (hL:Plain L) (h141:L.fns 141=some fm141) (x:CExpr) (hl:x.alts.length<2 ^ 30) (ht:(x.binds++x.alts.flatMap (·.binds)).length≤2 ^ 30) (h:Heap) :
  pcall L 141 [qaH x] h=some (.val (.list ((qbL x).map qaP) none),h):=by
 refine qbH hL h141 (by rw[qaa];exact qar _) ?_ h
 rw[qbB]
 unfold qbL qbt
 have hlB:(x.alts.flatMap (·.binds)).length≤2 ^ 30:=by rw[List.length_append] at ht;omega
 have hall:=qet x.binds
 have hbl:x.binds.length≤1073741824:=by rw[List.length_append] at ht;omega
 have hdI:=qar
 cases ho:qdH x.op with
 | true =>
   have e:(x.op==2)=true∨((x.op==2)=false∧(x.op==4)=true)∨((x.op==2)=false∧(x.op==4)=false∧(x.op==5)=true):=by
    unfold qdH at ho
    revert ho
    cases (x.op==2)<;>cases (x.op==4)<;>cases (x.op==5)<;>simp
   rw[if_pos rfl]
   by_cases hb:x.binds=[]
   ·have hb':x.binds.map qaP=[]:=by rw[hb];rfl
    obtain⟨T,t1,H',ow',rfl⟩:=qmj (L:=L) (b:=1) x.alts hl [] (by simpa using hlB) [.box [.int .i64 x.op,.int .i64 x.n,.list [] none,.list (x.kids.map qaP) none,.list (x.alts.map qaM) none]] (some none) (.inl ⟨rfl,rfl⟩)
    rw[List.nil_append,List.map_nil] at t1
    rw[hb,List.nil_append]
    generalize x.alts.flatMap (·.binds)=r at *
    rcases e with e1 | ⟨e1,e2⟩ | ⟨e1,e2,e3⟩
    ·unfold fm141;simp -implicitDefEqProofs only[qad,qae,qaf,qax,qab,qaC,qah,aOp,opd,qai,qan,qav,qag,qbh,qco,qbg,qaj,qaA,qaF,qaK,qaw,qaR,qas,qaB,qaI,qaL,qaS,qac,qbM,qbZ,qdj,Option.getD_some,List.map_cons,List.map_nil,List.length_cons,List.length_nil,List.length_map,List.nil_append,List.getElem?_cons_zero,List.getElem?_cons_succ,List.drop_succ_cons,List.drop_zero,↓reduceIte,Bool.false_eq_true,decide_true,Nat.add_zero,Nat.zero_add,Nat.reduceEqDiff,qaD,e1,hb',t1,hdI]
    ·unfold fm141;simp -implicitDefEqProofs only[qad,qae,qaf,qax,qab,qaC,qah,aOp,opd,qai,qan,qav,qag,qbh,qco,qbg,qaj,qaA,qaF,qaK,qaw,qaR,qas,qaB,qaI,qaL,qaS,qac,qbM,qbZ,qdj,beq_self_eq_true,Option.getD_some,List.map_cons,List.map_nil,List.length_cons,List.length_nil,List.length_map,List.nil_append,List.getElem?_cons_zero,List.getElem?_cons_succ,List.drop_succ_cons,List.drop_zero,↓reduceIte,Bool.false_eq_true,decide_true,Nat.add_zero,Nat.zero_add,Nat.reduceEqDiff,qaD,e1,e2,hb',t1,hdI]
    ·unfold fm141;simp -implicitDefEqProofs only[qad,qae,qaf,qax,qab,qaC,qah,aOp,opd,qai,qan,qav,qag,qbh,qco,qbg,qaj,qaA,qaF,qaK,qaw,qaR,qas,qaB,qaI,qaL,qaS,qac,qbM,qbZ,beq_self_eq_true,Option.getD_some,List.map_cons,List.map_nil,List.length_cons,List.length_nil,List.length_map,List.nil_append,List.getElem?_cons_zero,List.getElem?_cons_succ,List.drop_succ_cons,List.drop_zero,↓reduceIte,Bool.false_eq_true,decide_true,Nat.add_zero,Nat.zero_add,Nat.reduceEqDiff,qaD,e1,e2,e3,hb',t1,hdI]
   ·have hb':((x.binds.map qaP)=[])=False:=by simpa using hb
    have hpos:=List.length_pos_iff.2 hb
    obtain⟨T,t1,H',ow',rfl⟩:=qmj (L:=L) (b:=2) x.alts hl x.binds ht [.box [.int .i64 x.op,.int .i64 x.n,.list (x.binds.map qaP) none,.list (x.kids.map qaP) none,.list (x.alts.map qaM) none],.tail x.binds.length 1] (some (some 1)) (.inr ⟨hpos,1,rfl,rfl⟩)
    rw[List.map_append] at t1
    generalize x.alts.flatMap (·.binds)=r at *
    rcases e with e1 | ⟨e1,e2⟩ | ⟨e1,e2,e3⟩
    ·unfold fm141;simp -implicitDefEqProofs only[qad,qae,qaf,qax,qab,qaC,qah,aOp,opd,qai,qan,qav,qag,qbh,qco,qbg,qaj,qaA,qaF,qaK,qaw,qaR,qas,qaB,qaI,qaL,qaS,qac,qbM,qbZ,qdj,Option.getD_some,List.map_cons,List.map_nil,List.length_cons,List.length_nil,List.length_map,List.cons_append,List.nil_append,List.getElem?_cons_zero,List.getElem?_cons_succ,List.drop_succ_cons,List.drop_zero,List.all_nil,↓reduceIte,Bool.false_eq_true,decide_true,and_self,Nat.add_zero,Nat.zero_add,Nat.reduceEqDiff,Nat.reduceAdd,qb3,List.map_append,qaD,e1,hb',hall,hbl,t1,hdI]
    ·unfold fm141;simp -implicitDefEqProofs only[qad,qae,qaf,qax,qab,qaC,qah,aOp,opd,qai,qan,qav,qag,qbh,qco,qbg,qaj,qaA,qaF,qaK,qaw,qaR,qas,qaB,qaI,qaL,qaS,qac,qbM,qbZ,qdj,beq_self_eq_true,Option.getD_some,List.map_cons,List.map_nil,List.length_cons,List.length_nil,List.length_map,List.cons_append,List.nil_append,List.getElem?_cons_zero,List.getElem?_cons_succ,List.drop_succ_cons,List.drop_zero,List.all_nil,↓reduceIte,Bool.false_eq_true,decide_true,and_self,Nat.add_zero,Nat.zero_add,Nat.reduceEqDiff,Nat.reduceAdd,qb3,List.map_append,qaD,e1,e2,hb',hall,hbl,t1,hdI]
    ·unfold fm141;simp -implicitDefEqProofs only[qad,qae,qaf,qax,qab,qaC,qah,aOp,opd,qai,qan,qav,qag,qbh,qco,qbg,qaj,qaA,qaF,qaK,qaw,qaR,qas,qaB,qaI,qaL,qaS,qac,qbM,qbZ,beq_self_eq_true,Option.getD_some,List.map_cons,List.map_nil,List.length_cons,List.length_nil,List.length_map,List.cons_append,List.nil_append,List.getElem?_cons_zero,List.getElem?_cons_succ,List.drop_succ_cons,List.drop_zero,List.all_nil,↓reduceIte,Bool.false_eq_true,decide_true,and_self,Nat.add_zero,Nat.zero_add,Nat.reduceEqDiff,Nat.reduceAdd,qb3,List.map_append,qaD,e1,e2,e3,hb',hall,hbl,t1,hdI]
 | false =>
   have e:(x.op==2)=false∧(x.op==4)=false∧(x.op==5)=false:=by
    unfold qdH at ho
    revert ho
    cases (x.op==2)<;>cases (x.op==4)<;>cases (x.op==5)<;>simp
   obtain⟨e1,e2,e3⟩:=e
   rw[if_neg (by decide),List.nil_append]
   obtain⟨T,t1,H',ow',rfl⟩:=qmj (L:=L) (b:=1) x.alts hl [] (by simpa using hlB) [.box [.int .i64 x.op,.int .i64 x.n,.list (x.binds.map qaP) none,.list (x.kids.map qaP) none,.list (x.alts.map qaM) none]] (some none) (.inl ⟨rfl,rfl⟩)
   rw[List.nil_append,List.map_nil] at t1
   generalize x.alts.flatMap (·.binds)=r at *
   unfold fm141
   simp -implicitDefEqProofs only[qaq,qad,qae,qaf,qax,qab,qaC,qah,aOp,opd,qai,qan,qav,qag,qbh,qco,qbg,qaj,qaA,qaF,qaK,qaw,qaR,qas,qaB,qaI,qaL,qaS,qac,qbZ,beq_self_eq_true,Option.getD_some,List.map_cons,List.map_nil,List.length_cons,List.length_nil,List.length_map,List.nil_append,List.getElem?_cons_zero,List.getElem?_cons_succ,List.drop_succ_cons,List.drop_zero,↓reduceIte,Bool.false_eq_true,decide_true,Nat.add_zero,Nat.zero_add,Nat.reduceEqDiff,qaD,e1,e2,e3,t1,hdI]
end
def h7 (s:List Int):Heap:=if s=[] then [] else [.vec (s.map qaP) 1]
section
end
end Go.Abs
