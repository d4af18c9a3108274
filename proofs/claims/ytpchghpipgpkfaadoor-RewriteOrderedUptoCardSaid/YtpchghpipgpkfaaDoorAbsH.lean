/-
  The other operations: what the abstract machine answers, the model answers. Conditions: none.
-/
import Derived.Test.YtpchghpipgpkfaaDoorF
set_option linter.unusedVariables false
namespace Go.Abs
variable {E:Env} {G:Ghost} {h:Heap} {w:World}
theorem qqf (v:AVal):acells (wipe v)=(acells v).map wipeCell:=by
 cases v<;>simp[wipe,wipeCell,acells]
theorem RepL.wipe {cs:List AVal} {vs:List Value} (hr:RepL E G cs vs):RepL E G (cs.map wipeCell) vs:=by
 refine⟨by simpa using hr.len,fun i c v e e'=>?_⟩
 rw[List.getElem?_map] at e
 obtain⟨c0,h0,rfl⟩:=Option.map_eq_some_iff.1 e
 exact (hr.rep i c0 v h0 e').wipeCell
theorem qjz (xs:List AVal):(xs.map wipe).flatMap acells=(xs.flatMap acells).map wipeCell:=by
 induction xs with
 | nil=>rfl
 | cons x xs ih=>simp[List.flatMap_cons,qqf,ih]
theorem qjE (E:Env) (sz:Nat) (tm:Tmps):∀ (parts:List (Nat × Operand)) (k:Nat),parts.map (·.1)=List.range' k parts.length →
  (∀ p∈parts,(acells (opd tm (qcb E p.2))).length=sz∧qcK (opd tm (qcb E p.2))=true) →
  ∃ ps,qft E (fun i=>some (i*sz,sz)) parts=some ps∧∀ pre:List AVal,pre.length=k*sz →
   qcj (pre++List.replicate (parts.length*sz) .junk) (ps.map fun p=>(p.1,p.2.1,opd tm p.2.2))=some (pre++(parts.map fun p=>opd tm (qcb E p.2)).flatMap acells)
 | [],k,_,_=>⟨[],rfl,fun pre _=>by simp[qcj]⟩
 | (i,x) :: rest,k,hk,hs => by
   simp only[List.map_cons,List.length_cons,List.range'_succ,List.cons.injEq] at hk
   obtain⟨rfl,hk⟩:=hk
   obtain⟨ps,h1,h2⟩:=qjE E sz tm rest (i+1) hk (fun p hp=>hs p (by simp[hp]))
   obtain⟨hl0,hkn⟩:=hs (i,x) (by simp)
   have hl:(acells (opd tm (qcb E x))).length=sz:=hl0
   refine⟨(i*sz,sz,qcb E x)::ps,by simp[qft,h1],fun pre hpre=>?_⟩
   simp only[List.map_cons,qcj]
   rw[if_pos ⟨hkn,hl,by simp[hpre,Nat.succ_mul]⟩]
   have e:qat (pre++List.replicate ((rest.length+1)*sz) .junk) (i*sz) (acells (opd tm (qcb E x)))=(pre++acells (opd tm (qcb E x)))++List.replicate (rest.length*sz) .junk:=by
    unfold qat
    rw[← hpre,List.take_left,List.drop_append,show pre.length+(acells (opd tm (qcb E x))).length-pre.length=sz by rw[hl];omega]
    rw[List.drop_eq_nil_of_le (by omega),List.drop_replicate]
    simp only[List.nil_append]
    congr 2
    rw[Nat.succ_mul];omega
   simp only[List.length_cons]
   rw[e,h2 _ (by simp[hpre,hl,Nat.succ_mul])]
   simp[List.flatMap_cons]
theorem RepL.junks (vs:List Value):RepL E G (List.replicate vs.length .junk) vs:=by
 refine⟨by simp,fun i c v e _=>?_⟩
 rw[List.getElem?_replicate] at e
 split at e
 ·injection e with e
  subst e
  exact .junk v
 ·cases e
theorem ql3 (hi:Inv E G h w) (hg:GlobOk E G) {tm:Tmps} {a:Act} (ht:RelT E G tm a) {t:TypeId} {n:Nat} {parts:Array (Nat × Operand)} {sz:Nat} {ps:List Opd} (hc:qdt E t n parts=.buildSlice sz ps)
  (hl:((ps.map (opd tm)).all fun v=>(acells v).length=sz && (acells v).all leaf)=true) :
  ∃ v w' G',(Instr.buildSlice t n (parts.map fun (i,x)=>(i,a.eval x))).run E.P w=.ok v w'∧Post E G h w G' h w'∧Rep E G' (.list (ps.map fun p=>wipe (opd tm p)) (some none)) v:=by
 unfold qdt at hc
 split at hc
 ·rename_i e hd
  split at hc
  ·rename_i i hie
   split at hc
   ·rename_i z hz
    split at hc
    ·rename_i hcond
     obtain⟨c1,c2,c3,c4,c5⟩:=hcond
     injection hc with h1 h2
     subst h1 h2
     have hlen:parts.toList.length=n:=by have:=congrArg List.length c5;simpa using this
     have hall:∀ p∈parts.toList,(acells (opd tm (qcb E p.2))).length=i.size∧(acells (opd tm (qcb E p.2))).all leaf=true:=by
      intro p hp
      have:=List.all_eq_true.1 hl (opd tm (qcb E p.2)) (by simp;exact⟨p.1,p.2,by simpa using hp,rfl⟩)
      simpa using this
     have hkn:∀ p∈parts.toList,qcK (opd tm (qcb E p.2))=true:=by
      intro p hp
      have h2:=(hall p hp).2
      cases hx:opd tm (qcb E p.2)<;>first | rfl | (rw[hx] at h2;simp[acells,leaf] at h2)
     obtain⟨ps',hp1,hp2⟩:=qjE E i.size tm parts.toList 0 (by rw[hlen,← List.range_eq_range'];exact c5) (fun p hp=>⟨(hall p hp).1,hkn p hp⟩)
     have hf0:=hp2 [] (by simp)
     simp only[List.nil_append,hlen] at hf0
     let zc:Array Value:=(Array.range (n*i.size)).map (z.cells[· % z.cells.size]!)
     have hzc:zc.toList.length=n*i.size:=by simp[zc]
     have hr0:RepL E G (List.replicate (n*i.size) .junk) zc.toList:=by rw[← hzc];exact .junks _
     obtain⟨cells',hfill,hrep⟩:=qgR hg ht (fun k=>some (k*i.size,i.size)) parts.toList ps' _ zc _ hp1 hr0 hf0
     have hmapl:(parts.map fun (i,x)=>(i,a.eval x)).toList=parts.toList.map fun p=>(p.1,a.eval p.2):=by simp
     have hpos:0<n*i.size:=Nat.mul_pos c3 c2
     have hrun:=run_buildSlice (P:=E.P) w t e n (parts.map fun (i,x)=>(i,a.eval x)) cells' i z hd hie hz (by omega) (by omega) (by rw[hmapl];exact hfill)
     have hsz:∀ x∈parts.toList.map (fun p=>opd tm (qcb E p.2)),(acells x).length=i.size:=by
      intro x hx
      obtain⟨p,hp,rfl⟩:=List.mem_map.1 hx
      exact (hall p hp).1
     have hone:∀ v∈cells'.toList,v.oneCell'=true:=by
      intro v hv
      obtain⟨j,hj⟩:=List.getElem?_of_mem hv
      have hlt:j<((parts.toList.map fun p=>opd tm (qcb E p.2)).flatMap acells).length:=by rw[← hrep.len];exact (List.getElem?_eq_some_iff.1 hj).1
      have hcj:=List.getElem?_eq_getElem hlt
      refine (hrep.rep j _ v hcj hj).oneCell ?_
      obtain⟨x,hx,hcx⟩:=List.mem_flatMap.1 (List.getElem_mem hlt)
      obtain⟨p,hp,rfl⟩:=List.mem_map.1 hx
      exact List.all_eq_true.1 (hall p hp).2 _ hcx
     have hp:=qxZ hi cells'.toList cells' e (fun j v ej=>by simpa using ej) hone
     refine⟨_,_,_,hrun,hp,?_⟩
     have hmm:(parts.toList.map fun p=>qcb E p.2).map (fun p=>wipe (opd tm p))=(parts.toList.map fun p=>opd tm (qcb E p.2)).map wipe:=by simp
     rw[hmm]
     refine .list i.size cells'.toList (by simp[← hlen]) (Nat.le_refl _) (fun x hx=>?_) (fun _=>⟨w.heap.size,0,rfl,fun j v ej=>by simpa[Ghost.withRow] using ej⟩) ?_ ?_ rfl
     ·obtain⟨y,hy,rfl⟩:=List.mem_map.1 hx
      rw[qhV]
      exact hsz y hy
     ·rw[qjz]
      simpa using hrep.len
     ·rw[qjz]
      exact (hrep.wipe.mono hp.le).rep
    ·cases hc
   ·cases hc
  ·cases hc
 ·cases hc
theorem qh1 {P:Program} (w:World) {av:AVal} {x:Value} (hx:Rep E G av x) {n:Int} (hn:∃ k,av=.int k n) (y:Nat) (code:BoundsCode) (h0:0≤n) (h1:n≤y):(Instr.sliceBound x y code).run P w=.ok n.toNat w:=by
 obtain⟨k,rfl⟩:=hn
 cases hx with
 | int k n=>simp[Instr.sliceBound,asIntOf,h0,h1]
structure RepO (E:Env) (G:Ghost) (a:Option AVal) (x:Option Value):Prop where
 none:a=none→x=none
 some:∀ v,a=some v→∃ y,x=some y∧Rep E G v y
theorem qdm {P:Program} (w:World) {lo hi mx:Option AVal} {vlo vhi vmx:Option Value} (hlo:RepO E G lo vlo) (hhi:RepO E G hi vhi) (hmx:RepO E G mx vmx) (isS:Bool) {len cap:Nat} {l hh:Int} {m:Nat}
  (el:qdQ 0 lo=some l) (eh:qdQ len hi=some hh) (h0:0≤l) (h1:l≤hh) (h2:hh≤m) (hcap:m≤cap)
  (em:(mx=none∧m=cap)∨(∃ (k:IntKind) (q:Int),mx=some (.int k q)∧q=m∧hi≠none)) :
  (Instr.sliceBounds isS len cap vlo vhi vmx).run P w=.ok (l.toNat,hh.toNat,m) w:=by
 have hlow:(vlo=none∧l=0)∨(∃ y,vlo=some y∧∀ code:BoundsCode,(Instr.sliceBound y hh.toNat code).run P w=.ok l.toNat w):=by
  cases lo with
  | none =>
    simp only[qdQ,Option.some.injEq] at el
    exact .inl ⟨hlo.none rfl,el.symm⟩
  | some av =>
    obtain⟨y,rfl,hy⟩:=hlo.some av rfl
    cases av<;>simp[qdQ] at el
    subst el
    exact .inr ⟨y,rfl,fun code=>qh1 w hy ⟨_,rfl⟩ _ code h0 (by omega)⟩
 rcases em with ⟨rfl,rfl⟩ | ⟨k,q,rfl,hq,hne⟩
 ·have hv:vmx=none:=hmx.none rfl
  subst hv
  cases hi with
  | none =>
    have hv:vhi=none:=hhi.none rfl
    subst hv
    simp only[qdQ,Option.some.injEq] at eh
    have ehh:hh.toNat=len:=by omega
    rw[ehh] at hlow
    rcases hlow with ⟨rfl,rfl⟩ | ⟨y,rfl,hy⟩
    ·simp[Instr.sliceBounds,ehh]
    ·simp[Instr.sliceBounds,ehh,hy]
  | some av =>
    obtain⟨y,rfl,hy⟩:=hhi.some av rfl
    cases av<;>simp[qdQ] at eh
    subst eh
    have hb:=fun code:BoundsCode=>qh1 (P:=P) w hy ⟨_,rfl⟩ m code (by omega) h2
    rcases hlow with ⟨rfl,rfl⟩ | ⟨y,rfl,hy⟩
    ·simp[Instr.sliceBounds,hb]
    ·simp[Instr.sliceBounds,hb,hy]
 ·obtain⟨y,rfl,hy⟩:=hmx.some _ rfl
  cases hi with
  | none=>exact absurd rfl hne
  | some av =>
    obtain⟨y',rfl,hy'⟩:=hhi.some av rfl
    cases av<;>simp[qdQ] at eh
    subst eh
    have hqm:q.toNat=m:=by omega
    have hb:=fun code:BoundsCode=>qh1 (P:=P) w hy ⟨_,rfl⟩ cap code (by omega) (by omega)
    simp only[hqm] at hb
    have hb':=fun code:BoundsCode=>qh1 (P:=P) w hy' ⟨_,rfl⟩ m code (by omega) h2
    rcases hlow with ⟨rfl,rfl⟩ | ⟨y,rfl,hy⟩
    ·simp[Instr.sliceBounds,hb,hb']
    ·simp[Instr.sliceBounds,hb,hb',hy]
theorem qgo {α β:Type} {f:α→List β} {sz:Nat}:∀ (xs:List α) (k:Nat),(∀ x∈xs,(f x).length=sz)→(xs.drop k).flatMap f=(xs.flatMap f).drop (k*sz)
 | [],k,_=>by simp
 | x::xs,0,_=>by simp
 | x :: xs,k + 1,hs => by
   have h1:(f x).drop ((k+1)*sz)=[]:=List.drop_eq_nil_of_le (by rw[hs x (by simp),Nat.succ_mul];omega)
   rw[List.drop_succ_cons,qgo xs k (fun y hy=>hs y (by simp[hy])),List.flatMap_cons,List.drop_append,h1,hs x (by simp),List.nil_append]
   congr 1
   rw[Nat.succ_mul];omega
theorem qgp {α β:Type} {f:α→List β} {sz:Nat}:∀ (xs:List α) (k:Nat),(∀ x∈xs,(f x).length=sz)→(xs.take k).flatMap f=(xs.flatMap f).take (k*sz)
 | [],k,_=>by simp
 | x::xs,0,_=>by simp
 | x :: xs,k + 1,hs => by
   have h1:(f x).take ((k+1)*sz)=f x:=List.take_of_length_le (by rw[hs x (by simp),Nat.succ_mul];omega)
   rw[List.take_succ_cons,List.flatMap_cons,qgp xs k (fun y hy=>hs y (by simp[hy])),List.flatMap_cons,List.take_append,h1,hs x (by simp)]
   congr 2
   rw[Nat.succ_mul];omega
theorem qn8 (hi':Inv E G h w) {xs:List AVal} {own:Option (Option Nat)} {x:Value} (hx:Rep E G (.list xs own) x) {t e:TypeId} {j:TypeInfo} (hd:E.P.underlying t=some (.slice e)) (hn:E.P.info? e=some j) (hj:0<j.size)
  {lo hi mx:Option AVal} {vlo vhi vmx:Option Value} (hlo:RepO E G lo vlo) (hhi:RepO E G hi vhi) (hmx:RepO E G mx vmx) {r:AVal} (hr:qdo j.size (.list xs own) lo hi mx=some r) :
  ∃ v,(Instr.sliceAt t x vlo vhi vmx).run E.P w=.ok v w∧Rep E G r v:=by
 cases hx with
 | @list _ _ A n cap sx vs hnl hcap hsz ha hl hrr ho =>
 simp only[qdo] at hr
 split at hr
 ·rename_i l hh el eh
  split at hr
  ·rename_i hc
   obtain⟨h0,h1,h2,hall⟩:=hc
   have hsj:∀ v∈xs,(acells v).length=j.size:=fun v hv=>by simpa using List.all_eq_true.1 hall v hv
   have hcc:Cells E G xs A j.size vs:=⟨hsj,ha,⟨hl,hrr⟩⟩
   have cut:∀ (m:Nat),hh≤m→m≤cap→∀ own2,OwnOk G own2 (hh.toNat-l.toNat) (if m=l.toNat then A else A.map (·.add (l.toNat*j.size))) (m-l.toNat) j.size →
     Rep E G (.list ((xs.take hh.toNat).drop l.toNat) own2) (.slice (if m=l.toNat then A else A.map (·.add (l.toNat*j.size))) (hh.toNat-l.toNat) (m-l.toNat)):=by
    intro m hm hmc own2 hown2
    have hlen:((xs.take hh.toNat).drop l.toNat).length=hh.toNat-l.toNat:=by simp;omega
    refine .list j.size (((vs.take (hh.toNat*j.size)).drop (l.toNat*j.size))) hlen.symm (by omega) (fun y hy=>hsj y (List.mem_of_mem_take (List.mem_of_mem_drop hy))) (fun hne=>?_) ?_ ?_ hown2
    ·have hxs:xs≠[]:=fun hx=>by rw[hx] at hne;simp at hne
     obtain⟨b,o,rfl,hf⟩:=hcc.at_ hxs
     have hlm:¬ m=l.toNat:=fun hx=>by
      have:((xs.take hh.toNat).drop l.toNat).length=0:=by rw[hlen];omega
      exact hne (List.eq_nil_of_length_eq_zero this)
     refine⟨b,o+l.toNat*j.size,by simp[hlm,qcr],fun i v ev=>?_⟩
     rw[List.getElem?_drop,List.getElem?_take] at ev
     split at ev
     ·rw[Nat.add_assoc];exact hf _ v ev
     ·cases ev
    ·rw[qgo (sz:=j.size) _ _ (fun y hy=>hsj y (List.mem_of_mem_take hy)),qgp (sz:=j.size) _ _ hsj]
     simp[hl]
    ·rw[qgo (sz:=j.size) _ _ (fun y hy=>hsj y (List.mem_of_mem_take hy)),qgp (sz:=j.size) _ _ hsj]
     exact ((hcc.rep.take _).drop _).rep
   have eh':qdQ n hi=some hh:=by rw[hnl];exact eh
   split at hr
   ·rename_i hmx0
    injection hr with hr
    subst hr
    have hb:=qdm (P:=E.P) w hlo hhi hmx true (len:=n) (cap:=cap) (m:=cap) el eh' h0 h1 (by omega) (Nat.le_refl _) (.inl ⟨rfl,rfl⟩)
    refine⟨_,?_,cut cap (by omega) (Nat.le_refl _) none trivial⟩
    simp[Instr.sliceAt,Instr.slice,run_underlying hd,hb,qbu hn]
   ·rename_i kk m
    split at hr
    ·rename_i hm
     injection hr with hr
     subst hr
     have hb:=qdm (P:=E.P) w hlo hhi hmx true (len:=n) (cap:=cap) (m:=m.toNat) el eh' h0 h1 (by omega) (by omega) (.inr ⟨_,m,rfl,by omega,fun hx=>by rw[hx] at hm;simp at hm⟩)
     refine⟨_,?_,cut m.toNat (by omega) (by omega) _ ?_⟩
     ·simp[Instr.sliceAt,Instr.slice,run_underlying hd,hb,qbu hn]
     ·split
      ·rename_i hmh
       subst hmh
       rfl
      ·trivial
    ·cases hr
   ·cases hr
  ·cases hr
 ·cases hr
theorem qpK (hi':Inv E G h w) {id off len:Nat} {x:Value} (hx:Rep E G (.ref id off len) x) {t e:TypeId} {j:TypeInfo} (hd:E.P.underlying t=some (.slice e)) (hn:E.P.info? e=some j)
  {lo hi mx:Option AVal} {vlo vhi vmx:Option Value} (hlo:RepO E G lo vlo) (hhi:RepO E G hi vhi) (hmx:RepO E G mx vmx) {r:AVal} (hr:qdo j.size (.ref id off len) lo hi mx=some r) :
  ∃ v,(Instr.sliceAt t x vlo vhi vmx).run E.P w=.ok v w∧Rep E G r v:=by
 cases hx with
 | @ref _ _ _ cap b hb hcap =>
 simp only[qdo] at hr
 split at hr
 ·rename_i l hh el eh
  split at hr
  ·rename_i hc
   obtain⟨h0,h1,h2,h3⟩:=hc
   have hvm:vmx=none:=hmx.none rfl
   subst hvm
   have hb2:=qdm (P:=E.P) w hlo hhi hmx true (len:=len) (cap:=cap) (m:=cap) el eh h0 h1 (by omega) (Nat.le_refl _) (.inl ⟨rfl,rfl⟩)
   split at hr
   ·rename_i hlh
    injection hr with hr
    subst hr hlh
    have hrun:(Instr.sliceAt t (.slice (some ⟨b,off,none⟩) len cap) vlo vhi none).run E.P w=.ok (.slice (if cap=l.toNat then some ⟨b,off,none⟩ else some ((⟨b,off,none⟩:Addr).add (l.toNat*j.size))) 0 (cap-l.toNat)) w:=by
     simp[Instr.sliceAt,Instr.slice,run_underlying hd,hb2,qbu hn]
    exact⟨_,hrun,.list 0 [] rfl (Nat.zero_le _) (fun x hx=>by simp at hx) (fun hx=>absurd rfl hx) rfl (fun i c v e=>by simp at e) trivial⟩
   ·rename_i hlh
    injection hr with hr
    subst hr
    refine⟨.slice (some ⟨b,off+l.toNat,none⟩) (hh-l).toNat (cap-l.toNat),?_,.ref hb (by omega)⟩
    have hcl:¬ cap=l.toNat:=by omega
    have e2:hh.toNat-l.toNat=(hh-l).toNat:=by omega
    simp[Instr.sliceAt,Instr.slice,run_underlying hd,hb2,qbu hn,hcl,h3,qcr,e2]
  ·cases hr
 ·cases hr
theorem qpL {av:AVal} {x:Value} (hx:Rep E G av x) {t:TypeId} (hd:E.P.underlying t=some .string)
  {lo hi:Option AVal} {vlo vhi:Option Value} (hlo:RepO E G lo vlo) (hhi:RepO E G hi vhi) {r:AVal} (hr:qko av lo hi=some r) :
  ∃ v,(Instr.sliceAt t x vlo vhi none).run E.P w=.ok v w∧Rep E G r v:=by
 unfold qko at hr
 split at hr
 ·rename_i s
  split at hr
  ·rename_i l hh el eh
   split at hr
   ·rename_i hcond
    obtain⟨h0,h1,h2⟩:=hcond
    injection hr with hr
    subst hr
    cases hx with
    | str s =>
      have hb:=qdm (P:=E.P) w hlo hhi (⟨fun _=>rfl,fun v e=>by cases e⟩:RepO E G none none) false (len:=s.size) (cap:=s.size) (m:=s.size) el eh h0 h1 h2 (Nat.le_refl _) (.inl ⟨rfl,rfl⟩)
      exact⟨_,by simp[Instr.sliceAt,Instr.slice,run_underlying hd,hb],.str _⟩
   ·cases hr
  ·cases hr
 ·cases hr
end Go.Abs
