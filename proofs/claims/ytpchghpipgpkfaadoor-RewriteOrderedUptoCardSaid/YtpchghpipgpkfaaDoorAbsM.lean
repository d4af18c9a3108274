/-
  A region that draws its order gives what it gives in the order of the text. Conditions: none.
-/
import Derived.Test.YtpchghpipgpkfaaDoorAbsL
set_option linter.unusedVariables false
namespace Go.Abs
variable {E:Env} {G:Ghost} {w:World}
open Classical in
noncomputable def tmS (L:List Step) (tmf tm0:Tmps) (S:Nat→Bool):Tmps:=fun t=>if ∃ i,S i=true∧qdP L i=some t then tmf t else tm0 t
theorem qlO {L:List Step} {tmf tm0:Tmps} {S:Nat→Bool} {t i:Nat} (hs:S i=true) (hd:qdP L i=some t):tmS L tmf tm0 S t=tmf t:=if_pos ⟨i,hs,hd⟩
theorem qgF {L:List Step} {tmf tm0:Tmps} {S:Nat→Bool} {t:Nat} (h:¬ ∃ i,S i=true∧qdP L i=some t):tmS L tmf tm0 S t=tm0 t:=if_neg h
theorem qA3 {L:List Step} {tmf tm0:Tmps} {S S':Nat→Bool} {i:Nat} (hS':∀ j,S' j=true↔S j=true∨j=i):tmS L tmf tm0 S'=match qdP L i with | some d=>upd (tmS L tmf tm0 S) (some d) (tmf d) | none=>tmS L tmf tm0 S:=by
 funext t
 cases hd:qdP L i with
 | none =>
   by_cases hx:∃ j,S j=true∧qdP L j=some t
   ·obtain⟨j,h1,h2⟩:=hx
    simp only[]
    rw[qlO h1 h2,qlO ((hS' j).2 (.inl h1)) h2]
   ·simp only[]
    rw[qgF hx,qgF]
    rintro ⟨j,h1,h2⟩
    rcases (hS' j).1 h1 with h3 | rfl
    ·exact hx ⟨j,h3,h2⟩
    ·rw[hd] at h2;cases h2
 | some d =>
   simp only[upd]
   by_cases htd:t=d
   ·subst htd
    rw[if_pos rfl,qlO ((hS' i).2 (.inr rfl)) hd]
   ·rw[if_neg htd]
    by_cases hx:∃ j,S j=true∧qdP L j=some t
    ·obtain⟨j,h1,h2⟩:=hx
     rw[qlO h1 h2,qlO ((hS' j).2 (.inl h1)) h2]
    ·rw[qgF hx,qgF]
     rintro ⟨j,h1,h2⟩
     rcases (hS' j).1 h1 with h3 | rfl
     ·exact hx ⟨j,h3,h2⟩
     ·rw[hd] at h2
      injection h2 with h2
      exact htd h2.symm
structure DrawOk (L:List Step) (needs:List (List Nat)):Prop where
 len:needs.length=L.length
 lt:∀ (i:Nat) (ns:List Nat),needs[i]? = some ns→∀ j∈ns,j<i
 loud:∀ i j,i<L.length→j<i→qbf L i=true→qbf L j=true→j∈(qlX needs).getD i []
 dst:∀ i j d,i<L.length→j<i→qdP L i=some d→qdP L j≠some d
 read:∀ i,i<L.length→qhQ L i=true→(qdP L i).isSome=true
 look:∀ i t j,i<L.length→j<L.length→t∈qnL L i→qdP L j=some t→j∈(qlX needs).getD i []∨(qhQ L i=false∧i∈(qlX needs).getD j [])
theorem qum {L:List Step} {needs:List (List Nat)} (h:qmx L needs=true):DrawOk L needs:=by
 unfold qmx at h
 simp only[Bool.and_eq_true,beq_iff_eq,List.all_eq_true,List.mem_range,decide_eq_true_eq,Bool.or_eq_true,Bool.not_eq_true',Bool.and_eq_false_iff,List.contains_iff_mem] at h
 obtain⟨h1,h2⟩:=h
 refine⟨h1,fun i ns e j hj=>?_,fun i j hi hj l1 l2=>?_,fun i j d hi hj e1 e2=>?_,fun i hi hr=>?_,fun i t j hi hj ht e=>?_⟩
 ·have hi:i<L.length:=by rw[← h1];exact (List.getElem?_eq_some_iff.1 e).1
  exact (h2 i hi).1.1.1 j (by rw[List.getD_eq_getElem?_getD,e];exact hj)
 ·rcases ((h2 i hi).1.1.2 j hj).1 with (h3 | h3) | h3
  ·rw[l1] at h3;cases h3
  ·rw[l2] at h3;cases h3
  ·exact h3
 ·have:=((h2 i hi).1.1.2 j hj).2
  rw[e1] at this
  simp only[bne_iff_ne,ne_eq] at this
  exact this e2
 ·rcases (h2 i hi).2 with h3 | h3
  ·rw[hr] at h3;cases h3
  ·exact h3
 ·rcases (h2 i hi).1.2 t ht j hj with (h3 | h3) | h3
  ·rw[e] at h3;simp at h3
  ·exact .inl h3
  ·exact .inr h3
theorem qtU {L:List Step} {needs:List (List Nat)} (hd:DrawOk L needs) {i:Nat} {ns:List Nat} (e:needs[i]? = some ns):∀ j∈(qlX needs).getD i [],j<i:=by
 intro j hj
 have:=qeX hd.lt (S:=fun q=>decide (q<i)) (fun q nq eq hq r hr=>by
  have h1:=hd.lt q nq eq r hr
  simp at hq ⊢
  omega) i i (Nat.le_refl _) ns e (fun q hq=>by simpa using hd.lt i ns e q hq) j hj
 simpa using this
section
variable (E) (q:QM) (ops:Array Oper)
theorem qCf {i:Nat} {o:Oper} (e:ops[i]? = some o):(ops.toList.map (qaK E q ops))[i]? = some (qaK E q ops o):=by simp[e]
theorem qck {i:Nat} {o:Oper} (e:ops[i]? = some o):(ops.toList.map qbv)[i]? = some (qbv o):=by simp[e]
end
theorem qgw {ops:Array Oper} {listed:Array Bool} (hsz:listed.size=ops.size) {i:Nat}:i∈Region.ready .any ops listed↔∃ o,ops[i]? = some o∧listed.getD i false=false∧∀ j∈qbv o,listed.getD j false=true:=by
 unfold Region.ready
 simp only[List.mem_filter,List.mem_range,Bool.and_eq_true,Bool.not_eq_true']
 constructor
 ·rintro ⟨h1,h2,h3⟩
  have ho:ops[i]? = some ops[i]:=Array.getElem?_eq_getElem h1
  refine⟨ops[i],ho,?_,fun j hj=>?_⟩
  ·have hi':i<listed.size:=by rw[hsz];exact h1
   simp[Array.getD_eq_getD_getElem?,hi'] at h2 ⊢
   exact h2
  ·rw[ho] at h3
   simp only[Option.map_some,Option.getD_some,Array.all_eq_true',Bool.or_eq_true,Bool.not_eq_true'] at h3
   unfold qbv at hj
   obtain⟨e,he,rfl⟩:=List.mem_map.1 hj
   have he2:=List.mem_filter.1 he
   rcases h3 e (by simpa using he2.1) with h4 | h4
   ·rw[he2.2] at h4;cases h4
   ·exact h4
 ·rintro ⟨o,ho,h2,h3⟩
  have hi:i<ops.size:=(Array.getElem?_eq_some_iff.1 ho).1
  have hi':i<listed.size:=by rw[hsz];exact hi
  refine⟨hi,?_,?_⟩
  ·simp[Array.getD_eq_getD_getElem?,hi'] at h2 ⊢
   exact h2
  ·rw[ho]
   simp only[Option.map_some,Option.getD_some,Array.all_eq_true',Bool.or_eq_true,Bool.not_eq_true']
   intro e he
   cases hb:Region.binds .any e with
   | false=>exact .inl rfl
   | true =>
     refine .inr (h3 e.on ?_)
     unfold qbv
     exact List.mem_map.2 ⟨e,List.mem_filter.2 ⟨by simpa using he,hb⟩,rfl⟩
theorem qw8 (hE:EnvOk E) {call:CallT} (hc:qbX E call) (pure:Nat→Bool) (n:Nat) (q:QM) (ops:Array Oper) (Q:Exit→Act→World→Prop) (hok:qez n ops=true)
  {s:St} (hg:GlobOk E G) {tmf:Tmps} {H:List Heap} {hf:Heap} (hd:DrawOk (ops.toList.map (qaK E q ops)) (ops.toList.map qbv))
  (hrun:qds pure call (ops.toList.map (qaK E q ops)) s.tm [] s.h=some (tmf,H,hf)) (hck:∀ c∈qfv (ops.toList.map (qaK E q ops)) (ops.toList.map qbv),qkI (ops.toList.map (qaK E q ops)) tmf H c)
  (hQ:Owed E G n s w .normal ⟨tmf,hf⟩ Q) :
  ∀ (fuel:Nat) (listed:Array Bool) (a:Act) (w':World) (G':Ghost) (hk:Heap),listed.size=ops.size →
   (∀ (i:Nat) (ns:List Nat),(ops.toList.map qbv)[i]? = some ns→listed.getD i false=true→∀ j∈ns,listed.getD j false=true) →
   cnt ops.size (fun i => !listed.getD i false)≤fuel →
   H[cnt ops.size (fun j=>qbf (ops.toList.map (qaK E q ops)) j && listed.getD j false)]? = some hk→Post E G s.h w G' hk w' →
   RelT E G' (tmS (ops.toList.map (qaK E q ops)) tmf s.tm fun i=>listed.getD i false) a→n≤a.tmps.size→a.defers=[]→wpAny E.P .any ops Q fuel listed a w':=by
 have hLl:(ops.toList.map (qaK E q ops)).length=ops.size:=by simp
 have hinfo:=qlq pure call (ops.toList.map (qaK E q ops)) H tmf hf (ops.toList.map (qaK E q ops)) 0 s.tm [] s.h (fun j=>by rw[Nat.zero_add])
  (by
   have:cnt (ops.toList.map (qaK E q ops)).length (fun j=>qbf (ops.toList.map (qaK E q ops)) j && decide (j<0))=cnt (ops.toList.map (qaK E q ops)).length (fun _=>false):=qeu fun j _=>by simp
   rw[this]
   unfold cnt
   rw[List.filter_eq_nil_iff.2 (by simp)]
   rfl) hrun
 obtain⟨_,_,hlast,htm0,hop⟩:=hinfo
 rw[hLl] at hlast hop
 have fin:∀ (listed:Array Bool) (a:Act) (w':World) (G':Ghost) (hk:Heap),(∀ i,i<ops.size→listed.getD i false=true) →
   H[cnt ops.size (fun j=>qbf (ops.toList.map (qaK E q ops)) j && listed.getD j false)]? = some hk→Post E G s.h w G' hk w' →
   RelT E G' (tmS (ops.toList.map (qaK E q ops)) tmf s.tm fun i=>listed.getD i false) a→n≤a.tmps.size→a.defers=[]→Q .normal a w':=by
  intro listed a w' G' hk hall hH hp ht hn hdf
  have e1:cnt ops.size (fun j=>qbf (ops.toList.map (qaK E q ops)) j && listed.getD j false)=cnt ops.size (fun j=>qbf (ops.toList.map (qaK E q ops)) j && decide (j<ops.size)):=qeu fun j hj=>by rw[hall j hj];simp[hj]
  rw[e1,hlast] at hH
  injection hH with hH
  subst hH
  have e2:tmS (ops.toList.map (qaK E q ops)) tmf s.tm (fun i=>listed.getD i false)=tmf:=by
   funext t
   by_cases hx:∃ i,listed.getD i false=true∧qdP (ops.toList.map (qaK E q ops)) i=some t
   ·obtain⟨i,h1,h2⟩:=hx
    exact qlO (S:=fun i=>listed.getD i false) h1 h2
   ·rw[qgF hx]
    refine htm0 t fun j st _ e hdst=>hx ⟨j,hall j ?_,?_⟩
    ·have:=(List.getElem?_eq_some_iff.1 e).1
     rw[hLl] at this
     exact this
    ·simp[qdP,e,hdst]
  rw[e2] at ht
  exact hQ G' .normal a w' hp ⟨hp.inv,ht,hn,hdf⟩ rfl
 intro fuel
 induction fuel with
 | zero =>
   intro listed a w' G' hk hsz hcl hcnt hH hp ht hn hdf
   have hall:∀ i,i<ops.size→listed.getD i false=true:=by
    intro i hi
    cases hq:listed.getD i false with
    | true=>rfl
    | false =>
      have h1:0<cnt ops.size (fun i => !listed.getD i false):=by
       unfold cnt
       exact List.length_pos_iff.2 (List.ne_nil_of_mem (List.mem_filter.2 ⟨List.mem_range.2 hi,by simp[hq]⟩))
      omega
   refine⟨?_,fin listed a w' G' hk hall hH hp ht hn hdf⟩
   refine List.eq_nil_iff_forall_not_mem.2 fun i hi=>?_
   obtain⟨o,ho,h2,_⟩:=(qgw hsz).1 hi
   rw[hall i (Array.getElem?_eq_some_iff.1 ho).1] at h2
   cases h2
 | succ fuel ih =>
   intro listed a w' G' hk hsz hcl hcnt hH hp ht hn hdf
   refine⟨fun hnil=>?_,fun i hi=>?_⟩
   ·have hall:∀ i,i<ops.size→listed.getD i false=true:=by
     intro i
     induction i using Nat.strongRecOn with
     | _ i ihi =>
       intro hi
       cases hq:listed.getD i false with
       | true=>rfl
       | false =>
         have ho:ops[i]? = some ops[i]:=Array.getElem?_eq_getElem hi
         have hmem:i∈Region.ready .any ops listed:=(qgw hsz).2 ⟨_,ho,hq,fun j hj=>by
          have hji:=hd.lt i _ (qck ops ho) j hj
          exact ihi j hji (by omega)⟩
         rw[hnil] at hmem
         cases hmem
    exact fin listed a w' G' hk hall hH hp ht hn hdf
   ·obtain⟨o,ho,hun,hneed⟩:=(qgw hsz).1 hi
    have hilt:i<ops.size:=(Array.getElem?_eq_some_iff.1 ho).1
    have hLi:=qCf E q ops ho
    have hNi:=qck ops ho
    have hanc:=qeX hd.lt (S:=fun j=>listed.getD j false) hcl i i (Nat.le_refl _) _ hNi hneed
    have hanclt:=qtU hd hNi
    obtain⟨tmi,h0,h1,e0,e1,htmi,htmi0,hway⟩:=hop i _ (Nat.zero_le _) hLi
    have hloudi:qbf (ops.toList.map (qaK E q ops)) i=qaz (qrp E q o.op):=by simp[qbf,hLi,qaK]
    have hdsti:qdP (ops.toList.map (qaK E q ops)) i=o.dst:=by simp[qdP,hLi,qaK]
    have hlooki:qnL (ops.toList.map (qaK E q ops)) i=qlL (qaK E q ops o):=by simp[qnL,hLi]
    have hnol:∀ d,o.dst=some d→∀ j s',i<j→(ops.toList.map (qaK E q ops))[j]? = some s'→s'.dst≠some d:=by
     intro d hdd j s' hj e ed
     have hjl:j<(ops.toList.map (qaK E q ops)).length:=(List.getElem?_eq_some_iff.1 e).1
     exact hd.dst j i d hjl hj (by simp[qdP,e,ed]) (by rw[hdsti,hdd])
    have huniq:∀ j j' t,j<ops.size→j'<ops.size→qdP (ops.toList.map (qaK E q ops)) j=some t→qdP (ops.toList.map (qaK E q ops)) j'=some t→j=j':=by
     intro j j' t hj hj' e e'
     rcases Nat.lt_trichotomy j j' with h3 | h3 | h3
     ·exact absurd e (hd.dst j' j t (by rw[hLl];exact hj') h3 e')
     ·exact h3
     ·exact absurd e' (hd.dst j j' t (by rw[hLl];exact hj) h3 e)
    have hlk:∀ t∈qlL (qaK E q ops o),tmS (ops.toList.map (qaK E q ops)) tmf s.tm (fun i=>listed.getD i false) t=tmi t∧(reads (qrp E q o.op)=true→tmi t=tmf t):=by
     intro t htl
     have hread:qhQ (ops.toList.map (qaK E q ops)) i=reads (qrp E q o.op):=by simp[qhQ,hLi,qaK]
     have hwr:∀ (j:Nat) (s':Step),(ops.toList.map (qaK E q ops))[j]? = some s'→s'.dst=some t→j<ops.size∧qdP (ops.toList.map (qaK E q ops)) j=some t:=fun j s' e ed =>
      ⟨by have:=(List.getElem?_eq_some_iff.1 e).1;rw[hLl] at this;exact this,by simp[qdP,e,ed]⟩
     by_cases hx:∃ j,j<ops.size∧qdP (ops.toList.map (qaK E q ops)) j=some t
     ·obtain⟨j,hj,hjt⟩:=hx
      rcases hd.look i t j (by rw[hLl];exact hilt) (by rw[hLl];exact hj) (by rw[hlooki];exact htl) hjt with h3 | ⟨h3,h4⟩
      ·have hf:tmi t=tmf t:=htmi t fun j' s' hj' e ed=>by
        obtain⟨g1,g2⟩:=hwr j' s' e ed
        have:=huniq j j' t hj g1 hjt g2
        have:=hanclt j h3
        omega
       exact⟨by rw[hf];exact qlO (S:=fun i=>listed.getD i false) (hanc j h3) hjt,fun _=>hf⟩
      ·have hoj:ops[j]? = some ops[j]:=Array.getElem?_eq_getElem hj
       have hij:i<j:=qtU hd (qck ops hoj) i h4
       refine⟨?_,fun hr=>by rw[hread,hr] at h3;cases h3⟩
       rw[htmi0 t fun j' s' _ hj' e ed=>by
        obtain⟨g1,g2⟩:=hwr j' s' e ed
        have:=huniq j j' t hj g1 hjt g2
        omega]
       refine qgF (S:=fun i=>listed.getD i false) ?_
       rintro ⟨j',g1,g2⟩
       have hj':j'<ops.size:=by
        rcases Nat.lt_or_ge j' ops.size with h5 | h5
        ·exact h5
        ·rw[Array.getD_eq_getD_getElem?,Array.getElem?_eq_none (by rw[hsz];exact h5)] at g1
         cases g1
       have:=huniq j j' t hj hj' hjt g2
       subst this
       have:=qeX hd.lt (S:=fun j=>listed.getD j false) hcl j j (Nat.le_refl _) _ (qck ops hoj) (hcl j _ (qck ops hoj) g1) i h4
       rw[hun] at this
       cases this
     ·have hno:∀ (j:Nat) (s':Step),(ops.toList.map (qaK E q ops))[j]? = some s'→s'.dst≠some t:=fun j s' e ed=>hx ⟨j,hwr j s' e ed⟩
      have hf:tmi t=tmf t:=htmi t fun j' s' _ e=>hno j' s' e
      refine⟨?_,fun _=>hf⟩
      rw[hf,qgF (S:=fun i=>listed.getD i false)]
      ·exact htm0 t fun j' s' _ e=>hno j' s' e
      ·rintro ⟨j',_,g2⟩
       have hj':j'<ops.size:=by
        rcases Nat.lt_or_ge j' ops.size with h5 | h5
        ·exact h5
        ·have:(ops.toList.map (qaK E q ops))[j']? = none:=List.getElem?_eq_none (by rw[hLl];exact h5)
         simp[qdP,this] at g2
       exact hx ⟨j',hj',g2⟩
    have hwc:qaf (qh3 ops o.guard) (tmS (ops.toList.map (qaK E q ops)) tmf s.tm fun i=>listed.getD i false)=qaf (qh3 ops o.guard) tmi:=qjP fun t htl=>(hlk t (List.mem_append.2 (.inr htl))).1
    have hopc:∀ hh,aOp pure call (qrp E q o.op) (tmS (ops.toList.map (qaK E q ops)) tmf s.tm fun i=>listed.getD i false) hh=aOp pure call (qrp E q o.op) tmi hh:=fun hh=>qom pure call hh fun t htl=>(hlk t (List.mem_append.2 (.inl htl))).1
    have hopf:reads (qrp E q o.op)=true→∀ hh,aOp pure call (qrp E q o.op) tmf hh=aOp pure call (qrp E q o.op) tmi hh:=fun hr hh=>qom pure call hh fun t htl=>((hlk t (List.mem_append.2 (.inl htl))).2 hr).symm
    have hwf:reads (qrp E q o.op)=true→qaf (qh3 ops o.guard) tmf=qaf (qh3 ops o.guard) tmi:=fun hr=>qjP fun t htl=>((hlk t (List.mem_append.2 (.inr htl))).2 hr).symm
    have hkloud:qbf (ops.toList.map (qaK E q ops)) i=true→cnt ops.size (fun j=>qbf (ops.toList.map (qaK E q ops)) j && listed.getD j false)=cnt ops.size (fun j=>qbf (ops.toList.map (qaK E q ops)) j && decide (j<i)):=by
     intro hl
     refine qeu fun j hj=>?_
     cases hlj:qbf (ops.toList.map (qaK E q ops)) j with
     | false=>simp
     | true =>
       simp only[Bool.true_and]
       rcases Nat.lt_trichotomy j i with h3 | h3 | h3
       ·have:=hanc j (hd.loud i j (by rw[hLl];exact hilt) h3 hl hlj)
        rw[this]
        simp[h3]
       ·subst h3
        rw[hun]
        simp
       ·have hij:=hd.loud j i (by rw[hLl];exact hj) h3 hlj hl
        have:listed.getD j false=false:=by
         cases hq:listed.getD j false with
         | false=>rfl
         | true =>
           have hoj:ops[j]? = some ops[j]:=Array.getElem?_eq_getElem hj
           have:=qeX hd.lt (S:=fun j=>listed.getD j false) hcl j j (Nat.le_refl _) _ (qck ops hoj) (hcl j _ (qck ops hoj) hq) i hij
           rw[hun] at this
           cases this
        rw[this]
        simp
        omega
    have hsz':(listed.setIfInBounds i true).size=ops.size:=by simp[hsz]
    have hget:∀ j,(listed.setIfInBounds i true).getD j false=true↔listed.getD j false=true∨j=i:=by
     intro j
     by_cases hji:j=i
     ·subst hji
      simp[Array.getD_eq_getD_getElem?,hsz,hilt]
     ·simp[Array.getD_eq_getD_getElem?,Array.getElem?_setIfInBounds_ne (Ne.symm hji),hji]
    have hgetb:∀ j,j≠i→(listed.setIfInBounds i true).getD j false=listed.getD j false:=fun j hji=>by
     simp[Array.getD_eq_getD_getElem?,Array.getElem?_setIfInBounds_ne (Ne.symm hji)]
    have hcl':∀ (q:Nat) (ns:List Nat),(ops.toList.map qbv)[q]? = some ns→(listed.setIfInBounds i true).getD q false=true→∀ j∈ns,(listed.setIfInBounds i true).getD j false=true:=by
     intro q ns e hq j hj
     rw[hget]
     rcases (hget q).1 hq with h3 | rfl
     ·exact .inl (hcl q ns e h3 j hj)
     ·rw[hNi] at e
      injection e with e
      subst e
      exact .inl (hneed j hj)
    have hcnt':cnt ops.size (fun j => !(listed.setIfInBounds i true).getD j false)≤fuel:=by
     have:=qqw (n:=ops.size) (i:=i) (p:=fun j => !(listed.setIfInBounds i true).getD j false) (q:=fun j => !listed.getD j false) hilt (by simp[(hget i).2 (.inr rfl)]) (by simp[hun]) (fun j _ hne=>by rw[hgetb j hne])
     omega
    have hcl2:cnt ops.size (fun j=>qbf (ops.toList.map (qaK E q ops)) j && (listed.setIfInBounds i true).getD j false)=cnt ops.size (fun j=>qbf (ops.toList.map (qaK E q ops)) j && listed.getD j false)+(if qbf (ops.toList.map (qaK E q ops)) i=true then 1 else 0):=by
     split
     ·rename_i hl
      exact qqw hilt (by simp[hun]) (by simp[hl,(hget i).2 (.inr rfl)]) (fun j _ hne=>by rw[hgetb j hne])
     ·rename_i hl
      rw[Nat.add_zero]
      refine qeu fun j hj=>?_
      by_cases hji:j=i
      ·subst hji
       simp[hl]
      ·rw[hgetb j hji]
    have hsucc:=qgm (ops.toList.map (qaK E q ops)) (i:=i) (by rw[hLl];exact hilt)
    rw[hLl] at hsucc
    have hdlt:∀ k,o.dst=some k→k<a.tmps.size:=by
     intro k hk
     have h3:=List.all_eq_true.1 hok o (by
      have:=Array.mem_of_getElem? ho
      simpa using this)
     have h4:k<n:=by simpa[hk] using h3
     exact Nat.lt_of_lt_of_le h4 hn
    have hput:∀ (G2:Ghost) (va:AVal) (v:Value),G'.le G2→(∀ d,o.dst=some d→tmf d=va)→Rep E G2 va v →
     RelT E G2 (tmS (ops.toList.map (qaK E q ops)) tmf s.tm fun j=>(listed.setIfInBounds i true).getD j false) (a.put o.dst v):=by
     intro G2 va v hle hva hv
     have h3:=qcO (ht.mono hle) hdlt hv
     rw[qA3 (S:=fun j=>listed.getD j false) hget,hdsti]
     cases hdd:o.dst with
     | none=>rw[hdd] at h3;exact h3
     | some d=>rw[hdd] at h3;show RelT E G2 (upd _ (some d) (tmf d)) _;rw[hva d hdd];exact h3
    unfold wpOp
    rw[ho]
    dsimp only
    rcases hway with ⟨hw1,hw2,hw3⟩ | ⟨hw1,v,hw2,hw3⟩
    ·-- not wanted
     have hwant:=qcU ht ops o (b:=false) (by rw[hwc];exact hw1)
     rw[if_neg (by rw[hwant];simp)]
     refine ih _ _ w' G' hk hsz' hcl' hcnt' ?_ hp (hput G' (.tuple []) undef (.refl G') (fun d hdd=>hw3 d hdd (hnol d hdd)) qfl) (by rw[qcw];exact hn) (by rw[qbR];exact hdf)
     rw[hcl2]
     split
     ·rename_i hl
      rw[hkloud hl] at hH ⊢
      rw[hsucc,if_pos hl] at e1
      rw[e1,hw2]
      rw[e0] at hH
      exact hH
     ·exact hH
    ·-- wanted
     have hwant:=qcU ht ops o (b:=true) (by rw[hwc];exact hw1)
     rw[if_pos hwant]
     have hnow:∃ hk',aOp pure call (qrp E q o.op) (tmS (ops.toList.map (qaK E q ops)) tmf s.tm fun i=>listed.getD i false) hk=some (.val v,hk')∧H[cnt ops.size (fun j=>qbf (ops.toList.map (qaK E q ops)) j && (listed.setIfInBounds i true).getD j false)]? = some hk':=by
      rw[hcl2]
      by_cases hl:qbf (ops.toList.map (qaK E q ops)) i=true
      ·rw[if_pos hl]
       rw[hkloud hl] at hH ⊢
       rw[e0] at hH
       injection hH with hH
       subst hH
       rw[hsucc,if_pos hl] at e1
       exact⟨h1,by rw[hopc];exact hw2,e1⟩
      ·rw[if_neg hl,Nat.add_zero]
       have hq:qaz (qrp E q o.op)=false:=by rw[← hloudi];simpa using hl
       refine⟨hk,?_,hH⟩
       rw[hopc]
       have hkeep:=(qm2 pure call hq hw2).1
       by_cases hrd:reads (qrp E q o.op)=true
       ·-- it reads
        have hlo:cnt ops.size (fun j=>qbf (ops.toList.map (qaK E q ops)) j && ((qlX (ops.toList.map qbv)).getD i []).contains j)≤cnt ops.size (fun j=>qbf (ops.toList.map (qaK E q ops)) j && listed.getD j false):=qru fun j hj h3=>by
         simp only[Bool.and_eq_true,List.contains_iff_mem] at h3 ⊢
         exact⟨h3.1,hanc j h3.2⟩
        have hhi:cnt ops.size (fun j=>qbf (ops.toList.map (qaK E q ops)) j && listed.getD j false)≤cnt ops.size (fun j=>qbf (ops.toList.map (qaK E q ops)) j && !((qlX (ops.toList.map qbv)).getD j []).contains i):=qru fun j hj h3=>by
         simp only[Bool.and_eq_true] at h3 ⊢
         refine⟨h3.1,?_⟩
         cases hq2:((qlX (ops.toList.map qbv)).getD j []).contains i with
         | false=>rfl
         | true =>
           rw[List.contains_iff_mem] at hq2
           have hoj:ops[j]? = some ops[j]:=Array.getElem?_eq_getElem hj
           have:=qeX hd.lt (S:=fun j=>listed.getD j false) hcl j j (Nat.le_refl _) _ (qck ops hoj) (hcl j _ (qck ops hoj) h3.2) i hq2
           rw[hun] at this
           cases this
        have hplo:cnt ops.size (fun j=>qbf (ops.toList.map (qaK E q ops)) j && ((qlX (ops.toList.map qbv)).getD i []).contains j)≤cnt ops.size (fun j=>qbf (ops.toList.map (qaK E q ops)) j && decide (j<i)):=qru fun j hj h3=>by
         simp only[Bool.and_eq_true,List.contains_iff_mem,decide_eq_true_eq] at h3 ⊢
         exact⟨h3.1,hanclt j h3.2⟩
        have hphi:cnt ops.size (fun j=>qbf (ops.toList.map (qaK E q ops)) j && decide (j<i))≤cnt ops.size (fun j=>qbf (ops.toList.map (qaK E q ops)) j && !((qlX (ops.toList.map qbv)).getD j []).contains i):=qru fun j hj h3=>by
         simp only[Bool.and_eq_true,decide_eq_true_eq] at h3 ⊢
         refine⟨h3.1,?_⟩
         cases hq2:((qlX (ops.toList.map qbv)).getD j []).contains i with
         | false=>rfl
         | true =>
           rw[List.contains_iff_mem] at hq2
           have hoj:ops[j]? = some ops[j]:=Array.getElem?_eq_getElem hj
           have:=qtU hd (qck ops hoj) i hq2
           omega
        by_cases hlh:cnt ops.size (fun j=>qbf (ops.toList.map (qaK E q ops)) j && ((qlX (ops.toList.map qbv)).getD i []).contains j)=cnt ops.size (fun j=>qbf (ops.toList.map (qaK E q ops)) j && !((qlX (ops.toList.map qbv)).getD j []).contains i)
        ·have hsame:cnt ops.size (fun j=>qbf (ops.toList.map (qaK E q ops)) j && listed.getD j false)=cnt ops.size (fun j=>qbf (ops.toList.map (qaK E q ops)) j && decide (j<i)):=by omega
         rw[hsame,e0] at hH
         injection hH with hH
         subst hH
         have hw2':aOp pure call (qrp E q o.op) tmi h0=some (.val v,h1):=hw2
         rw[hw2',hkeep]
        ·have hmem:(i,cnt ops.size (fun j=>qbf (ops.toList.map (qaK E q ops)) j && ((qlX (ops.toList.map qbv)).getD i []).contains j),cnt ops.size (fun j=>qbf (ops.toList.map (qaK E q ops)) j && !((qlX (ops.toList.map qbv)).getD j []).contains i))∈qfv (ops.toList.map (qaK E q ops)) (ops.toList.map qbv):=by
          unfold qfv
          refine List.mem_filterMap.2 ⟨i,by simp[hilt],?_⟩
          rw[hLi]
          simp only[qaK,hrd,if_true,hLl]
          rw[if_neg hlh]
         cases hdd:o.dst with
         | none =>
           have:=hd.read i (by rw[hLl];exact hilt) (by simp[qhQ,hLi,qaK,hrd])
           rw[hdsti,hdd] at this
           cases this
         | some d =>
           have:=hck _ hmem (qaK E q ops o) d hLi (by simp[qaK,hdd]) (by simp only[qaK];rw[hwf hrd];exact hw1) _ hk hlo hhi hH
           rw[← qvG pure (fun _=>false) call qfd (op:=(qaK E q ops o).op) hrd] at this
           rw[← hopf hrd hk]
           simp only[qaK] at this
           rw[this,hw3 d hdd (hnol d hdd)]
       ·exact qtd pure call hq (by simpa using hrd) hw2 hk
     obtain⟨hk',hop1,hH'⟩:=hnow
     refine .inl (qvn hE hc hp.inv (hg.mono hp.le) ht pure q o hop1 _ Q (fun va hva G2 w2 x hp2 hx=>?_) (fun va hva=>by cases hva))
     injection hva with hva
     subst hva
     exact ih _ _ w2 G2 hk' hsz' hcl' hcnt' hH' (hp.trans hp2) (hput G2 v x hp2.le (fun d hdd=>hw3 d hdd (hnol d hdd)) hx) (by rw[qcw];exact hn) (by rw[qbR];exact hdf)
end Go.Abs
