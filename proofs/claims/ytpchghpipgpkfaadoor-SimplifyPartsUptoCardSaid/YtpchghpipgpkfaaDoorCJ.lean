/-
  PARTS OF A PROOF, joined: an abstract machine for quiet code, its evaluation, and what the seat's functions answer on it. Conditions: none.
-/
import Derived.Test.YtpchghpipgpkfaaDoorG
set_option linter.unusedVariables false
set_option linter.unusedSimpArgs false
set_option maxRecDepth 100000
set_option maxHeartbeats 4000000
namespace Go.Abs
abbrev IM (β:Type):=List (Int × β)
section
variable {β:Type} (f:β→AVal)
def qkb (m:IM β):List (AVal × AVal):=m.map fun p=>(.int .i64 p.1,f p.2)
theorem qyp (hf:∀ b,qay (f b)=true) (ρ:Nat→Option Nat) (m:IM β):qeh ρ (.map (qkb f m))=.map (qkb f m):=by
 have h1:∀ v:AVal,qay v=true→ren ρ v=v:=fun v hv=>by unfold ren;rw[if_pos hv]
 unfold qeh qkb
 dsimp only
 rw[List.map_map]
 congr 1
 refine List.map_congr_left fun p _=>?_
 simp only[Function.comp,h1 _ (hf p.2),h1 (.int .i64 p.1) rfl]
theorem qyb (hf:∀ b,qay (f b)=true) (m:IM β):qnL (.map (qkb f m))=[]:=by
 have h1:∀ v:AVal,qay v=true→qa3 v=[]:=fun v hv=>by unfold qa3;rw[if_pos hv]
 unfold qnL qkb
 dsimp only
 induction m with
 | nil=>rfl
 | cons p m ih =>
   rw[List.map_cons,List.flatMap_cons,h1 _ (hf p.2),h1 (.int .i64 p.1) rfl]
   exact ih
def qbS (v:Int):IM β→Option β
 | []=>none
 | p::m=>if v=p.1 then some p.2 else qbS v m
def qnj (v:Int) (b:β) (m:IM β):IM β:=m.map fun p=>if v=p.1 then (v,b) else p
def qlz (v:Int) (b:β):IM β→IM β
 | []=>[(v,b)]
 | p::m=>if v<p.1 then (v,b)::p::m else p::qlz v b m
def qpB (v:Int) (b:β) (m:IM β):IM β:=if (qbS v m).isSome=true then qnj v b m else qlz v b m
theorem qho {v:Int} {b:β}:∀ {m:IM β} (i:Nat),qbS v m=some b→∃ j,qa0 (.int .i64 v) (qkb f m) i=some (some (j,f b))
 | [],i,h=>by cases h
 | p :: m,i,h => by
   unfold qbS at h
   by_cases hv:v=p.1
   ·rw[if_pos hv] at h
    injection h with h
    subst h
    exact⟨i,by simp[qkb,qa0,qcp,hv]⟩
   ·rw[if_neg hv] at h
    obtain⟨j,hj⟩:=qho (i+1) h
    have hb:(v==p.1)=false:=by simpa using hv
    exact⟨j,by rw[← hj];simp[qkb,qa0,qcp,hb]⟩
theorem qhn {v:Int}:∀ {m:IM β} (i:Nat),qbS v m=none→qa0 (.int .i64 v) (qkb f m) i=some none
 | [],i,h=>rfl
 | p :: m,i,h => by
   unfold qbS at h
   by_cases hv:v=p.1
   ·rw[if_pos hv] at h
    cases h
   ·rw[if_neg hv] at h
    have hb:(v==p.1)=false:=by simpa using hv
    rw[← qhn (i+1) h]
    simp[qkb,qa0,qcp,hb]
theorem qo7 (v:Int) (b:β):∀ m:IM β,qxQ (.int .i64 v) (f b) (qkb f m)=qkb f (qlz v b m)
 | []=>rfl
 | p :: m => by
   unfold qlz qkb
   rw[List.map_cons,qxQ]
   simp only[qyd,decide_eq_true_eq]
   by_cases h:v<p.1
   ·rw[if_pos h,if_pos h]
    rfl
   ·rw[if_neg h,if_neg h,List.map_cons]
    exact congrArg _ (qo7 v b m)
theorem qtP (v:Int) (b:β) (m:IM β):qxD (.int .i64 v) (f b) (qkb f m)=qkb f (qnj v b m):=by
 unfold qxD qkb qnj
 rw[List.map_map,List.map_map]
 refine List.map_congr_left fun p _=>?_
 simp only[Function.comp,qcp,if_true,Option.some.injEq,beq_iff_eq]
 by_cases h:v=p.1
 ·rw[if_pos h,if_pos h]
 ·rw[if_neg h,if_neg h]
theorem qsa (h:Heap) (r:Nat) (zero:AVal) (ok:Bool) (v:Int) (m:IM β) (hr:h[r]? = some (.map (qkb f m))) :
  qhg h .int zero ok (.map (some r)) (.int .i64 v)=some (match qbS v m with | some b=>(if ok=true then .tuple [f b,.bool true] else f b) | none=>(if ok=true then .tuple [zero,.bool false] else zero)):=by
 unfold qhg qmX
 rw[if_pos (show qcq .int (.int .i64 v)=true from rfl)]
 dsimp only
 rw[hr]
 dsimp only
 cases hq:qbS v m with
 | some b =>
   obtain⟨j,hj⟩:=qho f 0 hq
   rw[hj]
 | none=>rw[qhn f 0 hq]
theorem qyK (h:Heap) (r:Nat) (v:Int) (b:β) (m:IM β) (hw:wipe (f b)=f b) (hr:h[r]? = some (.map (qkb f m))) :
  qdq h .int (.map (some r)) (.int .i64 v) (f b)=some (h.set r (.map (qkb f (qpB v b m)))):=by
 unfold qdq qpB
 dsimp only
 rw[hr]
 dsimp only
 rw[if_pos (show qcq .int (.int .i64 v)=true from rfl),hw]
 cases hq:qbS v m with
 | some c =>
   obtain⟨j,hj⟩:=qho f 0 hq
   rw[hj]
   simp only[Option.isSome_some,if_true,qtP]
 | none =>
   rw[qhn f 0 hq]
   simp only[Option.isSome_none,Bool.false_eq_true,if_false,qo7]
theorem qmt (v w:Int) (b:β):∀ m:IM β,qbS w m=none→qbS v (qlz w b m)=if v=w then some b else qbS v m
 | [],_=>by simp[qlz,qbS]
 | p :: m,h => by
   unfold qbS at h
   have hw:¬ w=p.1:=by
    intro e
    rw[if_pos e] at h
    cases h
   rw[if_neg hw] at h
   have ih:=qmt v w b m h
   unfold qlz
   by_cases hlt:w<p.1
   ·rw[if_pos hlt]
    simp only[qbS]
   ·rw[if_neg hlt]
    simp only[qbS]
    rw[ih]
    by_cases h1:v=p.1
    ·have:¬ v=w:=by omega
     rw[if_pos h1,if_neg this,if_pos h1]
    ·rw[if_neg h1,if_neg h1]
theorem qje (v w:Int) (b:β):∀ m:IM β,(qbS w m).isSome=true→qbS v (qnj w b m)=if v=w then some b else qbS v m
 | [],h=>by cases h
 | p :: m,h => by
   unfold qnj
   rw[List.map_cons]
   by_cases hw:w=p.1
   ·rw[if_pos hw]
    simp only[qbS]
    by_cases hv:v=w
    ·rw[if_pos hv,if_pos hv]
    ·rw[if_neg hv,if_neg hv,if_neg (by omega)]
     by_cases hs:(qbS w m).isSome=true
     ·have:=qje v w b m hs
      unfold qnj at this
      rw[this,if_neg hv]
     ·have:m.map (fun p=>if w=p.1 then (w,b) else p)=m:=by
       have hn:∀ q∈m,¬ w=q.1:=by
        clear h
        induction m with
        | nil=>simp
        | cons q m ih =>
          intro x hx
          unfold qbS at hs
          by_cases hq:w=q.1
          ·rw[if_pos hq] at hs;exact absurd rfl hs
          ·rw[if_neg hq] at hs
           rcases List.mem_cons.1 hx with rfl | hx
           ·exact hq
           ·exact ih hs x hx
       have h2:m.map (fun p=>if w=p.1 then (w,b) else p)=m.map id:=List.map_congr_left fun q hq=>if_neg (hn q hq)
       rw[h2,List.map_id]
      rw[this]
   ·rw[if_neg hw]
    unfold qbS at h
    rw[if_neg hw] at h
    have:=qje v w b m h
    unfold qnj at this
    simp only[qbS]
    rw[this]
    by_cases h1:v=p.1
    ·rw[if_pos h1,if_neg (by omega),if_pos h1]
    ·rw[if_neg h1,if_neg h1]
theorem qjd (v w:Int) (b:β) (m:IM β):qbS v (qpB w b m)=if v=w then some b else qbS v m:=by
 unfold qpB
 by_cases h:(qbS w m).isSome=true
 ·rw[if_pos h,qje v w b m h]
 ·rw[if_neg h,qmt v w b m (by simpa using h)]
end
abbrev encU:IM Unit→List (AVal × AVal):=qkb fun _=>.agg []
def qcU (_:Nat) (s:IM Unit) (n:Int):Except Unit (IM Unit):=if (qbS n s).isSome=true then .error () else .ok (qpB n () s)
theorem quZ (ns:List Int):∀ (i:Nat) (s:IM Unit),(∃ u,qbr qcU ns i s=.error u)↔¬ (ns.Nodup∧∀ n∈ns,qbS n s=none):=by
 induction ns with
 | nil=>intro i s;simp[qbr]
 | cons n ns ih =>
   intro i s
   rw[qbr]
   unfold qcU
   by_cases h:(qbS n s).isSome=true
   ·rw[if_pos h]
    simp only[List.forall_mem_cons]
    constructor
    ·intro _ hx
     rw[hx.2.1] at h
     cases h
    ·intro _;simp
   ·rw[if_neg h]
    dsimp only
    have h':qbS n s=none:=by simpa using h
    have:=ih (i+1) (qpB n () s)
    unfold qcU at this
    rw[this]
    simp only[qjd,List.nodup_cons,List.forall_mem_cons]
    apply not_congr
    constructor
    ·rintro ⟨h1,h2⟩
     refine⟨⟨?_,h1⟩,h',?_⟩
     ·intro hm
      have:=h2 n hm
      rw[if_pos rfl] at this
      cases this
     ·intro m hm
      have:=h2 m hm
      by_cases e:m=n
      ·rw[if_pos e] at this;cases this
      ·rwa [if_neg e] at this
    ·rintro ⟨⟨h1,h2⟩,_,h4⟩
     refine⟨h2,fun m hm=>?_⟩
     rw[if_neg (fun e:m=n=>h1 (e ▸ hm))]
     exact h4 m hm
theorem qa8 (s:IM Unit):qnL (.map (encU s))=[]:=qyb _ (fun _=>rfl) s
theorem qa9 (ρ:Nat→Option Nat) (s:IM Unit):qeh ρ (.map (encU s))=.map (encU s):=qyp _ (fun _=>rfl) ρ s
section
variable {L:Lib} (hL:Plain L)
def qnF (E:AVal) (s:IM Unit) (ns:List Int) (j:Nat):St:=⟨kt [0,5,18,19,20] [E,.map (some 0),.list (ns.map qaw) none,.int .i64 ns.length,.int .i64 j],[.map (encU s)]⟩
def qnG (E:AVal) (v:AVal) (s:IM Unit):St:=⟨kt [0,4,5] [E,v,.map (some 0)],[.map (encU s)]⟩
theorem qu4 (E:AVal) (hE:qay E=true) (ns:List Int) (hl:ns.length<2 ^ 30) (s0:IM Unit) :
  (∀ s,qbr qcU ns 0 s0=.ok s→True∧qa5 L.pure (call L) 1 [0,5,18,19,20] [0,4,5] 0 qfD (qnF E s0 ns 0)=some (.normal,qnG E .junk s)) ∧
  (∀ u,qbr qcU ns 0 s0=.error u→∃ R,(∃ s,R=qnG E (.bool true) s)∧qa5 L.pure (call L) 1 [0,5,18,19,20] [0,4,5] 0 qfD (qnF E s0 ns 0)=some (.ret,R)):=by
 refine qcs ns qcU (fun s j=>qnF E s ns j) (qnG E .junk) (fun _ R=>∃ s,R=qnG E (.bool true) s) (fun _ _=>True) s0 trivial ?_ ?_ ?_
 ·intro i hi s s' _ hq
  obtain⟨h1,h2,h3⟩:=qaN qaw ns hl i hi
  refine⟨?_,trivial⟩
  unfold qcU at hq
  split at hq
  ·cases hq
  ·rename_i hn
   injection hq with hq
   subst hq
   generalize ns[i]=n at *
   have hf:qbS n s=none:=by simpa using hn
   have hlk:=fun (h:Heap) (hr:h[0]? = some (.map (encU s)))=>qsa (fun _:Unit=>AVal.agg []) h 0 (.agg []) true n s hr
   have hup:=fun (h:Heap) (hr:h[0]? = some (.map (encU s)))=>qyK (fun _:Unit=>AVal.agg []) h 0 n () s rfl hr
   rw[hf] at hlk
   unfold qfD qnF
   simp -implicitDefEqProofs only[ev_,aOp,opd,qaa,qaq,qau,qat,qad,qab,qag,qaK,qbO,qap,qav,ren,renC,qa3,qbd,↓reduceIte,reduceCtorEq,Nat.reduceEqDiff,Nat.reduceAdd,Nat.reduceLT,Nat.reduceLeDiff,qbg,qai,h1,h2,h3,hlk,hup,hE,qa8,qa9]
 ·intro i hi s u _ hq
  obtain⟨h1,h2,h3⟩:=qaN qaw ns hl i hi
  refine⟨_,⟨s,rfl⟩,?_⟩
  unfold qcU at hq
  split at hq
  ·rename_i hn
   generalize ns[i]=n at *
   obtain⟨x,hf⟩:=Option.isSome_iff_exists.1 hn
   have hlk:=fun (h:Heap) (hr:h[0]? = some (.map (encU s)))=>qsa (fun _:Unit=>AVal.agg []) h 0 (.agg []) true n s hr
   rw[hf] at hlk
   unfold qfD qnF qnG
   simp -implicitDefEqProofs only[ev_,aOp,opd,qaa,qaq,qau,qat,qad,qab,qag,qaK,qap,gcE,qav,ren,renC,qa3,qbd,↓reduceIte,reduceCtorEq,Nat.reduceEqDiff,Nat.reduceAdd,Nat.reduceLT,Nat.reduceLeDiff,qbg,h1,h2,h3,hlk,hE,qa8,qa9]
  ·cases hq
 ·intro s _
  have h0:=qaO ns.length
  unfold qfD qnF qnG
  simp -implicitDefEqProofs only[ev_,aOp,opd,qaa,qau,qat,qab,gcE,qav,ren,renC,qa3,qbd,↓reduceIte,reduceCtorEq,Nat.reduceEqDiff,Nat.reduceLT,Nat.reduceLeDiff,h0,hE,qa8,qa9]
def qbv (x:CExpr):List Int:=qc3 x.op x.binds x.alts
def qtp (x:CExpr):Prop:=(x.binds++x.alts.flatMap (·.binds)).length<2 ^ 30
def qnH (e:List CExpr) (x:CExpr) (i:Nat) (ns:List Int) (s:IM Unit) (j:Nat):St:=⟨kt [5,35,36,37,50,51,52] [.map (some 0),.list (e.map qal) none,.int .i64 e.length,.int .i64 i,.list (ns.map qaw) none,.int .i64 ns.length,.int .i64 j],
 [.map (encU s),.box [.int .i64 x.op,.int .i64 x.n,.list (x.binds.map qaw) none,.list (x.kids.map qaw) none,.list (x.alts.map qax) none],.gone]⟩
def qnI (e:List CExpr) (x:CExpr) (i:Nat) (v:AVal) (s:IM Unit):St:=⟨kt [4,5,35,36,37] [v,.map (some 0),.list (e.map qal) none,.int .i64 e.length,.int .i64 i],
 [.map (encU s),.box [.int .i64 x.op,.int .i64 x.n,.list (x.binds.map qaw) none,.list (x.kids.map qaw) none,.list (x.alts.map qax) none],.gone]⟩
theorem qpI (e:List CExpr) (x:CExpr) (i:Nat) (ns:List Int) (hl:ns.length<2 ^ 30) (s0:IM Unit) :
  (∀ s,qbr qcU ns 0 s0=.ok s→True∧qa5 L.pure (call L) 3 [5,35,36,37,50,51,52] [4,5,35,36,37] 4 qfE (qnH e x i ns s0 0)=some (.normal,qnI e x i .junk s)) ∧
  (∀ u,qbr qcU ns 0 s0=.error u→∃ R,(∃ s,R=qnI e x i (.bool true) s)∧qa5 L.pure (call L) 3 [5,35,36,37,50,51,52] [4,5,35,36,37] 4 qfE (qnH e x i ns s0 0)=some (.ret,R)):=by
 have hdE:=qaJ e
 refine qcs ns qcU (fun s j=>qnH e x i ns s j) (qnI e x i .junk) (fun _ R=>∃ s,R=qnI e x i (.bool true) s) (fun _ _=>True) s0 trivial ?_ ?_ ?_
 ·intro j hj s s' _ hq
  obtain⟨h1,h2,h3⟩:=qaN qaw ns hl j hj
  refine⟨?_,trivial⟩
  unfold qcU at hq
  split at hq
  ·cases hq
  ·rename_i hn
   injection hq with hq
   subst hq
   generalize ns[j]=n at *
   have hf:qbS n s=none:=by simpa using hn
   have hlk:=fun (h:Heap) (hr:h[0]? = some (.map (encU s)))=>qsa (fun _:Unit=>AVal.agg []) h 0 (.agg []) true n s hr
   have hup:=fun (h:Heap) (hr:h[0]? = some (.map (encU s)))=>qyK (fun _:Unit=>AVal.agg []) h 0 n () s rfl hr
   rw[hf] at hlk
   unfold qfE qnH
   simp -implicitDefEqProofs only[ev_,aOp,opd,qaa,qaq,qau,qat,qad,qab,qag,qaK,qbO,qap,qav,ren,renC,qa3,qbd,↓reduceIte,Nat.reduceEqDiff,Nat.reduceAdd,Nat.reduceLT,Nat.reduceLeDiff,qbg,qai,qao,h1,h2,h3,hlk,hup,hdE,qa8,qa9]
 ·intro j hj s u _ hq
  obtain⟨h1,h2,h3⟩:=qaN qaw ns hl j hj
  refine⟨_,⟨s,rfl⟩,?_⟩
  unfold qcU at hq
  split at hq
  ·rename_i hn
   generalize ns[j]=n at *
   obtain⟨y,hf⟩:=Option.isSome_iff_exists.1 hn
   have hlk:=fun (h:Heap) (hr:h[0]? = some (.map (encU s)))=>qsa (fun _:Unit=>AVal.agg []) h 0 (.agg []) true n s hr
   rw[hf] at hlk
   unfold qfE qnH qnI
   simp -implicitDefEqProofs only[ev_,aOp,opd,qaa,qaq,qau,qat,qad,qab,qag,qaK,qap,gcE,qav,ren,renC,qa3,qbd,↓reduceIte,Nat.reduceEqDiff,Nat.reduceAdd,Nat.reduceLT,Nat.reduceLeDiff,qbg,qai,qao,h1,h2,h3,hlk,hdE,qa8,qa9]
  ·cases hq
 ·intro s _
  have h0:=qaO ns.length
  unfold qfE qnH qnI
  simp -implicitDefEqProofs only[ev_,aOp,opd,qaa,qau,qat,qab,gcE,qav,ren,renC,qa3,qbd,↓reduceIte,Nat.reduceEqDiff,Nat.reduceAdd,Nat.reduceLT,Nat.reduceLeDiff,qai,qao,h0,hdE,qa8,qa9]
theorem qsj (op:Int) (binds:List Int) (as:List CAlt):(qc3 op binds as).length≤(binds++as.flatMap (·.binds)).length:=by
 unfold qc3
 rw[List.length_append,List.length_append]
 split<;>simp
theorem qzh:encU []=[]:=rfl
include hL
def qnJ (e:List CExpr) (s:IM Unit) (i:Nat):St:=⟨kt [5,35,36,37] [.map (some 0),.list (e.map qal) none,.int .i64 e.length,.int .i64 i],[.map (encU s)]⟩
def qh7 (_:Nat) (s:IM Unit) (x:CExpr):Except Unit (IM Unit):=qbr qcU (qbv x) 0 s
theorem qu5 (h232:L.fns 232=some fn232) (e:List CExpr) (hl:e.length<2 ^ 30) (hf:∀ x∈e,NodeFit x) (hb:∀ x∈e,qtp x) (s0:IM Unit) :
  (∀ s,qbr qh7 e 0 s0=.ok s→True∧qa5 L.pure (call L) 1 [5,35,36,37] [4] 2 qfF (qnJ e s0 0)=some (.normal,⟨kt [4] [.junk],[.map (encU s)]⟩)) ∧
  (∀ u,qbr qh7 e 0 s0=.error u→∃ R,(∃ s:IM Unit,R=⟨kt [4] [.bool true],[.map (encU s)]⟩)∧qa5 L.pure (call L) 1 [5,35,36,37] [4] 2 qfF (qnJ e s0 0)=some (.ret,R)):=by
 have hp:=hL.pure
 have hdE:=qaJ e
 refine qcs e qh7 (qnJ e) (fun s=>⟨kt [4] [.junk],[.map (encU s)]⟩) (fun _ R=>∃ s:IM Unit,R=⟨kt [4] [.bool true],[.map (encU s)]⟩) (fun _ _=>True) s0 trivial ?_ ?_ ?_
 ·intro i hi s s' _ hq
  obtain⟨h1,h2,h3⟩:=qaN qal e hl i hi
  refine⟨?_,trivial⟩
  have hx:=hf e[i] (List.getElem_mem hi)
  have hbx:=hb e[i] (List.getElem_mem hi)
  generalize e[i]=x at *
  unfold qtp at hbx
  have hbo:=qkt hL h232 x.op 0 x.binds (.list [] none) rfl x.alts hx.alts (by omega)
  have hle:=qsj x.op x.binds x.alts
  obtain⟨ha,_⟩:=qpI (L:=L) e x i (qbv x) (by unfold qbv;omega) s
  obtain⟨_,ha⟩:=ha s' hq
  unfold qnH qnI at ha
  unfold qbv at ha
  simp only[Int.natCast_zero] at ha
  unfold qfF qnJ
  simp -implicitDefEqProofs only[ev_,aOp,opd,qaa,qaq,qau,qbc,qat,qad,qab,qag,qaK,qaL,qah,qbO,qcd,leaf,qap,qav,ren,renC,qa3,qbd,↓reduceIte,reduceCtorEq,Nat.reduceEqDiff,Nat.reduceAdd,Nat.reduceLT,Nat.reduceLeDiff,frz,frzC,qj5,qaS,qai,qao,h1,h2,h3,hbo,ha,hdE,qa8,qa9,qam L hp,hp]
 ·intro i hi s u _ hq
  obtain⟨h1,h2,h3⟩:=qaN qal e hl i hi
  have hx:=hf e[i] (List.getElem_mem hi)
  have hbx:=hb e[i] (List.getElem_mem hi)
  generalize e[i]=x at *
  unfold qtp at hbx
  have hbo:=qkt hL h232 x.op 0 x.binds (.list [] none) rfl x.alts hx.alts (by omega)
  have hle:=qsj x.op x.binds x.alts
  obtain⟨_,ha⟩:=qpI (L:=L) e x i (qbv x) (by unfold qbv;omega) s
  obtain⟨R,⟨t,rfl⟩,ha⟩:=ha u hq
  refine⟨_,⟨t,rfl⟩,?_⟩
  unfold qnH qnI at ha
  unfold qbv at ha
  simp only[Int.natCast_zero] at ha
  unfold qfF qnJ
  simp -implicitDefEqProofs only[ev_,aOp,opd,qaa,qaq,qau,qbc,qat,qad,qab,qag,qaK,qaL,qah,qbO,qcd,leaf,qap,gcE,qav,ren,renC,qa3,qbd,↓reduceIte,reduceCtorEq,Nat.reduceEqDiff,Nat.reduceAdd,Nat.reduceLT,Nat.reduceLeDiff,frz,frzC,qj5,qaS,qai,qao,h1,h2,h3,hbo,ha,hdE,qa8,qa9,qam L hp,hp]
 ·intro s _
  have h0:=qaO e.length
  unfold qfF qnJ
  simp -implicitDefEqProofs only[ev_,aOp,opd,qaa,qau,qat,qab,gcE,qav,ren,renC,qa3,qbd,↓reduceIte,Nat.reduceEqDiff,h0,hdE,qa8,qa9]
def qhE (e:List CExpr) (ps:List Int):Bool :=
 match qbr qcU ps 0 [] with
 | .error _=>true
 | .ok s=>(match qbr qh7 e 0 s with | .error _=>true | .ok _=>false)
theorem qu6 (h232:L.fns 232=some fn232) (h195:L.fns 195=some fn195) (e:List CExpr) (hl:e.length<2 ^ 30) (hf:∀ x∈e,NodeFit x) (hb:∀ x∈e,qtp x) (ps:List Int) (hps:ps.length<2 ^ 30) (h:Heap) :
  pcall L 195 [.list (e.map qal) none,.list (ps.map qaw) none] h=some (.val (.bool (qhE e ps)),h):=by
 have hdE:=qaJ e
 refine qaX hL h195 rfl ?_ h
 obtain⟨ha,hb1⟩:=qu4 (L:=L) (.list (e.map qal) none) (by rw[qaY];exact hdE) ps hps []
 unfold qhE
 cases hq:qbr qcU ps 0 [] with
 | error u =>
   obtain⟨R,⟨s,rfl⟩,hl0⟩:=hb1 u hq
   unfold qnF qnG at hl0
   simp only[Int.natCast_zero,qzh] at hl0
   unfold fn195
   simp -implicitDefEqProofs only[ev_,aOp,opd,qaa,qbc,qan,qac,qae,qaj,qav,ren,renC,qa3,qbd,↓reduceIte,reduceCtorEq,Nat.reduceEqDiff,Nat.reduceLT,Nat.reduceLeDiff,qak,qai,hl0,hdE,qa8,qa9]
 | ok s =>
   obtain⟨_,hl0⟩:=ha s hq
   unfold qnF qnG at hl0
   simp only[Int.natCast_zero,qzh] at hl0
   obtain⟨hc,hd⟩:=qu5 hL h232 e hl hf hb s
   dsimp only
   cases hr:qbr qh7 e 0 s with
   | error u =>
     obtain⟨R,⟨t,rfl⟩,hl2⟩:=hd u hr
     unfold qnJ at hl2
     simp only[Int.natCast_zero] at hl2
     unfold fn195
     simp -implicitDefEqProofs only[ev_,aOp,opd,qaa,qbc,qan,qac,qae,qaj,qav,ren,renC,qa3,qbd,↓reduceIte,reduceCtorEq,Nat.reduceEqDiff,Nat.reduceLT,Nat.reduceLeDiff,qak,qai,hl0,hl2,hdE,qa8,qa9]
   | ok t =>
     obtain⟨_,hl2⟩:=hc t hr
     unfold qnJ at hl2
     simp only[Int.natCast_zero] at hl2
     unfold fn195
     simp -implicitDefEqProofs only[ev_,aOp,opd,qaa,qbc,qan,qac,qae,qaj,qav,ren,renC,qa3,qbd,↓reduceIte,reduceCtorEq,Nat.reduceEqDiff,Nat.reduceLT,Nat.reduceLeDiff,qak,qai,hl0,hl2,hdE,qa8,qa9]
end
section
theorem qqK:∀ (e:List CExpr) (i j:Nat) (s:IM Unit),qbr qh7 e i s=qbr qcU (e.flatMap qbv) j s:=by
 have hidx:∀ (ns:List Int) (i j:Nat) (s:IM Unit),qbr qcU ns i s=qbr qcU ns j s:=by
  intro ns
  induction ns with
  | nil=>intros;rfl
  | cons n ns ih =>
    intro i j s
    rw[qbr,qbr]
    have:qcU i s n=qcU j s n:=rfl
    rw[this]
    cases qcU j s n with
    | error u=>rfl
    | ok t=>exact ih _ _ t
 have happ:∀ (ns ms:List Int) (i:Nat) (s:IM Unit),qbr qcU (ns++ms) i s=(match qbr qcU ns i s with | .ok t=>qbr qcU ms 0 t | .error u=>.error u):=by
  intro ns
  induction ns with
  | nil=>intro ms i s;exact hidx ms i 0 s
  | cons n ns ih =>
    intro ms i s
    rw[List.cons_append,qbr,qbr]
    cases qcU i s n with
    | error u=>rfl
    | ok t=>exact ih ms (i+1) t
 intro e
 induction e with
 | nil=>intros;rfl
 | cons x e ih =>
   intro i j s
   rw[List.flatMap_cons,happ,qbr,hidx _ j 0]
   unfold qh7
   cases qbr qcU (qbv x) 0 s with
   | error u=>rfl
   | ok t=>exact ih _ 0 t
theorem qjZ (e:List CExpr):qhE e [] = !decide (e.flatMap qbv).Nodup:=by
 unfold qhE
 have hs:=quZ (e.flatMap qbv) 0 []
 rw[← qqK e 0 0 []] at hs
 dsimp only[qbr]
 cases hq:qbr qh7 e 0 [] with
 | error u =>
   have:¬ (e.flatMap qbv).Nodup:=fun h=>hs.1 ⟨u,hq⟩ ⟨h,fun _ _=>rfl⟩
   simp[this]
 | ok t =>
   have:(e.flatMap qbv).Nodup:=by
    refine Classical.byContradiction fun h=>?_
    obtain⟨u,hu⟩:=hs.2 fun hx=>h hx.1
    rw[hq] at hu
    cases hu
   simp[this]
end
structure CPrims (L:Lib) (sortI:List Int→List Int):Prop where
 clone:∀ (l:List Int) (h:Heap),l.length<2 ^ 30→pcall L 188 [.list (l.map qaw) none] h=some (.val (.list (l.map qaw) none),h)
 sort:∀ (l:List Int),l≠[]→l.length<2 ^ 30→call L 138 [.vec 0 l.length] [.vec (l.map qaw) 1]=some (.val (.tuple []),[.vec ((sortI l).map qaw) 1])
 sort0:∀ h:Heap,pcall L 138 [.list [] none] h=some (.val (.tuple []),h)
def CTree.none:CTree:=.mk 0 0 [] [] []
def qdl (ts:List CTree) (x:CExpr):List CTree:=ts++[.mk x.op x.n x.binds (x.kids.map fun k=>ts.getD k.toNat .none) x.alts]
def qdc (e:List CExpr):List CTree:=e.foldl qdl []
def qbn (e:List CExpr):CTree:=(qdc e).getD (e.length-1) .none
def qeO (e:List CExpr):Prop:=∀ (i:Nat) (hi:i<e.length),∀ k∈e[i].kids,0≤k∧k<i
theorem qfW (cs:List AVal) (n:Nat):wipeR (.vptr cs n)=.vptr cs n:=rfl
theorem qcc (t:CTree):∃ tc,qaB t=.vptr tc 0∧qas tc=true:=by
 have h:=qb8 t
 cases t
 rw[qbt] at h ⊢
 exact⟨_,rfl,h⟩
section
variable {L:Lib} (hL:Plain L)
def qig (x:CExpr):AObj:=.box [.int .i64 x.op,.int .i64 x.n,.list (x.binds.map qaw) none,.list (x.kids.map qaw) none,.list (x.alts.map qax) none]
end
section
theorem qhU (e:List CExpr) (i:Nat) (hi:i<e.length):qdc (e.take (i+1))=qdl (qdc (e.take i)) e[i]:=by
 unfold qdc
 rw[List.take_succ_eq_append_getElem hi,List.foldl_append]
 rfl
theorem qf5:∀ (e:List CExpr) (ts:List CTree),(e.foldl qdl ts).length=ts.length+e.length
 | [],ts=>rfl
 | x :: e,ts => by
   rw[List.foldl_cons,qf5 e]
   simp[qdl]
   omega
theorem qog (e:List CExpr):(qdc e).length=e.length:=by
 unfold qdc
 rw[qf5]
 simp
theorem qhW (e:List CExpr) (i:Nat) (hi:i≤e.length):(qdc (e.take i)).length=i:=by
 rw[qog]
 simp
 omega
end
end Go.Abs
