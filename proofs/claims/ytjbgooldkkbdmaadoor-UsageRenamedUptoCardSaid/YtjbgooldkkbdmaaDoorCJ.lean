/-
  PARTS OF A PROOF, joined: an abstract machine for quiet code, its evaluation, and what the seat's functions answer on it. Conditions: none.
-/
import Derived.Test.YtjbgooldkkbdmaaDoorG
set_option linter.unusedVariables false
set_option linter.unusedSimpArgs false
set_option maxRecDepth 100000
set_option maxHeartbeats 4000000
namespace Go.Abs
abbrev IM (β:Type):=List (Int × β)
section
variable {β:Type} (f:β→AVal)
def qj2 (m:IM β):List (AVal × AVal):=m.map fun p=>(.int .i64 p.1,f p.2)
theorem qxy (hf:∀ b,qar (f b)=true) (ρ:Nat→Option Nat) (m:IM β):qeb ρ (.map (qj2 f m))=.map (qj2 f m):=by
 have h1:∀ v:AVal,qar v=true→ren ρ v=v:=fun v hv=>by unfold ren;rw[if_pos hv]
 unfold qeb qj2
 dsimp only
 rw[List.map_map]
 congr 1
 refine List.map_congr_left fun p _=>?_
 simp only[Function.comp,h1 _ (hf p.2),h1 (.int .i64 p.1) rfl]
theorem qxl (hf:∀ b,qar (f b)=true) (m:IM β):qjW (.map (qj2 f m))=[]:=by
 have h1:∀ v:AVal,qar v=true→qa0 v=[]:=fun v hv=>by unfold qa0;rw[if_pos hv]
 unfold qjW qj2
 dsimp only
 induction m with
 | nil=>rfl
 | cons p m ih =>
   rw[List.map_cons,List.flatMap_cons,h1 _ (hf p.2),h1 (.int .i64 p.1) rfl]
   exact ih
def qaI (v:Int):IM β→Option β
 | []=>none
 | p::m=>if v=p.1 then some p.2 else qaI v m
def qm6 (v:Int) (b:β) (m:IM β):IM β:=m.map fun p=>if v=p.1 then (v,b) else p
def qlp (v:Int) (b:β):IM β→IM β
 | []=>[(v,b)]
 | p::m=>if v<p.1 then (v,b)::p::m else p::qlp v b m
def qgw (v:Int) (b:β) (m:IM β):IM β:=if (qaI v m).isSome=true then qm6 v b m else qlp v b m
theorem qho {v:Int} {b:β}:∀ {m:IM β} (i:Nat),qaI v m=some b→∃ j,qaV (.int .i64 v) (qj2 f m) i=some (some (j,f b))
 | [],i,h=>by cases h
 | p :: m,i,h => by
   unfold qaI at h
   by_cases hv:v=p.1
   ·rw[if_pos hv] at h
    injection h with h
    subst h
    exact⟨i,by simp[qj2,qaV,qcM,hv]⟩
   ·rw[if_neg hv] at h
    obtain⟨j,hj⟩:=qho (i+1) h
    have hb:(v==p.1)=false:=by simpa using hv
    exact⟨j,by rw[← hj];simp[qj2,qaV,qcM,hb]⟩
theorem qhn {v:Int}:∀ {m:IM β} (i:Nat),qaI v m=none→qaV (.int .i64 v) (qj2 f m) i=some none
 | [],i,h=>rfl
 | p :: m,i,h => by
   unfold qaI at h
   by_cases hv:v=p.1
   ·rw[if_pos hv] at h
    cases h
   ·rw[if_neg hv] at h
    have hb:(v==p.1)=false:=by simpa using hv
    rw[← qhn (i+1) h]
    simp[qj2,qaV,qcM,hb]
theorem qoN (v:Int) (b:β):∀ m:IM β,qwT (.int .i64 v) (f b) (qj2 f m)=qj2 f (qlp v b m)
 | []=>rfl
 | p :: m => by
   unfold qlp qj2
   rw[List.map_cons,qwT]
   simp only[qxn,decide_eq_true_eq]
   by_cases h:v<p.1
   ·rw[if_pos h,if_pos h]
    rfl
   ·rw[if_neg h,if_neg h,List.map_cons]
    exact congrArg _ (qoN v b m)
theorem qtv (v:Int) (b:β) (m:IM β):qwE (.int .i64 v) (f b) (qj2 f m)=qj2 f (qm6 v b m):=by
 unfold qwE qj2 qm6
 rw[List.map_map,List.map_map]
 refine List.map_congr_left fun p _=>?_
 simp only[Function.comp,qcM,if_true,Option.some.injEq,beq_iff_eq]
 by_cases h:v=p.1
 ·rw[if_pos h,if_pos h]
 ·rw[if_neg h,if_neg h]
theorem qp3 (h:Heap) (r:Nat) (zero:AVal) (ok:Bool) (v:Int) (m:IM β) (hr:h[r]? = some (.map (qj2 f m))) :
  qhe h .int zero ok (.map (some r)) (.int .i64 v)=some (match qaI v m with | some b=>(if ok=true then .tuple [f b,.bool true] else f b) | none=>(if ok=true then .tuple [zero,.bool false] else zero)):=by
 unfold qhe qmI
 rw[if_pos (show qcN .int (.int .i64 v)=true from rfl)]
 dsimp only
 rw[hr]
 dsimp only
 cases hq:qaI v m with
 | some b =>
   obtain⟨j,hj⟩:=qho f 0 hq
   rw[hj]
 | none=>rw[qhn f 0 hq]
theorem qxV (h:Heap) (r:Nat) (v:Int) (b:β) (m:IM β) (hw:wipe (f b)=f b) (hr:h[r]? = some (.map (qj2 f m))) :
  qdE h .int (.map (some r)) (.int .i64 v) (f b)=some (h.set r (.map (qj2 f (qgw v b m)))):=by
 unfold qdE qgw
 dsimp only
 rw[hr]
 dsimp only
 rw[if_pos (show qcN .int (.int .i64 v)=true from rfl),hw]
 cases hq:qaI v m with
 | some c =>
   obtain⟨j,hj⟩:=qho f 0 hq
   rw[hj]
   simp only[Option.isSome_some,if_true,qtv]
 | none =>
   rw[qhn f 0 hq]
   simp only[Option.isSome_none,Bool.false_eq_true,if_false,qoN]
theorem qmc (v w:Int) (b:β):∀ m:IM β,qaI w m=none→qaI v (qlp w b m)=if v=w then some b else qaI v m
 | [],_=>by simp[qlp,qaI]
 | p :: m,h => by
   unfold qaI at h
   have hw:¬ w=p.1:=by
    intro e
    rw[if_pos e] at h
    cases h
   rw[if_neg hw] at h
   have ih:=qmc v w b m h
   unfold qlp
   by_cases hlt:w<p.1
   ·rw[if_pos hlt]
    simp only[qaI]
   ·rw[if_neg hlt]
    simp only[qaI]
    rw[ih]
    by_cases h1:v=p.1
    ·have:¬ v=w:=by omega
     rw[if_pos h1,if_neg this,if_pos h1]
    ·rw[if_neg h1,if_neg h1]
theorem qi5 (v w:Int) (b:β):∀ m:IM β,(qaI w m).isSome=true→qaI v (qm6 w b m)=if v=w then some b else qaI v m
 | [],h=>by cases h
 | p :: m,h => by
   unfold qm6
   rw[List.map_cons]
   by_cases hw:w=p.1
   ·rw[if_pos hw]
    simp only[qaI]
    by_cases hv:v=w
    ·rw[if_pos hv,if_pos hv]
    ·rw[if_neg hv,if_neg hv,if_neg (by omega)]
     by_cases hs:(qaI w m).isSome=true
     ·have:=qi5 v w b m hs
      unfold qm6 at this
      rw[this,if_neg hv]
     ·have:m.map (fun p=>if w=p.1 then (w,b) else p)=m:=by
       have hn:∀ q∈m,¬ w=q.1:=by
        clear h
        induction m with
        | nil=>simp
        | cons q m ih =>
          intro x hx
          unfold qaI at hs
          by_cases hq:w=q.1
          ·rw[if_pos hq] at hs;exact absurd rfl hs
          ·rw[if_neg hq] at hs
           rcases List.mem_cons.1 hx with rfl | hx
           ·exact hq
           ·exact ih hs x hx
       have h2:m.map (fun p=>if w=p.1 then (w,b) else p)=m.map id:=List.map_congr_left fun q hq=>if_neg (hn q hq)
       rw[h2,List.map_id]
      rw[this]
   ·rw[if_neg hw]
    unfold qaI at h
    rw[if_neg hw] at h
    have:=qi5 v w b m h
    unfold qm6 at this
    simp only[qaI]
    rw[this]
    by_cases h1:v=p.1
    ·rw[if_pos h1,if_neg (by omega),if_pos h1]
    ·rw[if_neg h1,if_neg h1]
theorem qbU (v w:Int) (b:β) (m:IM β):qaI v (qgw w b m)=if v=w then some b else qaI v m:=by
 unfold qgw
 by_cases h:(qaI w m).isSome=true
 ·rw[if_pos h,qi5 v w b m h]
 ·rw[if_neg h,qmc v w b m (by simpa using h)]
end
abbrev encU:IM Unit→List (AVal × AVal):=qj2 fun _=>.agg []
def qdd (_:Nat) (s:IM Unit) (n:Int):Except Unit (IM Unit):=if (qaI n s).isSome=true then .error () else .ok (qgw n () s)
theorem quC (ns:List Int):∀ (i:Nat) (s:IM Unit),(∃ u,qbq qdd ns i s=.error u)↔¬ (ns.Nodup∧∀ n∈ns,qaI n s=none):=by
 induction ns with
 | nil=>intro i s;simp[qbq]
 | cons n ns ih =>
   intro i s
   rw[qbq]
   unfold qdd
   by_cases h:(qaI n s).isSome=true
   ·rw[if_pos h]
    simp only[List.forall_mem_cons]
    constructor
    ·intro _ hx
     rw[hx.2.1] at h
     cases h
    ·intro _;simp
   ·rw[if_neg h]
    dsimp only
    have h':qaI n s=none:=by simpa using h
    have:=ih (i+1) (qgw n () s)
    unfold qdd at this
    rw[this]
    simp only[qbU,List.nodup_cons,List.forall_mem_cons]
    apply not_congr
    constructor
    ·rintro ⟨h1,h2⟩
     refine⟨⟨?_,h1⟩,h',?_⟩
     ·intro hm
      have:=h2 n hm
      rw[if_pos rfl] at this
      cases this
     ·intro m hm
      have:=h2 m hm
      by_cases e:m=n
      ·rw[if_pos e] at this;cases this
      ·rwa [if_neg e] at this
    ·rintro ⟨⟨h1,h2⟩,_,h4⟩
     refine⟨h2,fun m hm=>?_⟩
     rw[if_neg (fun e:m=n=>h1 (e ▸ hm))]
     exact h4 m hm
theorem qa6 (s:IM Unit):qjW (.map (encU s))=[]:=qxl _ (fun _=>rfl) s
theorem qa7 (ρ:Nat→Option Nat) (s:IM Unit):qeb ρ (.map (encU s))=.map (encU s):=qxy _ (fun _=>rfl) ρ s
section
variable {L:Lib} (hL:Plain L)
def qnm (E:AVal) (s:IM Unit) (ns:List Int) (j:Nat):St:=⟨kt [0,5,18,19,20] [E,.map (some 0),.list (ns.map qau) none,.int .i64 ns.length,.int .i64 j],[.map (encU s)]⟩
def qnn (E:AVal) (v:AVal) (s:IM Unit):St:=⟨kt [0,4,5] [E,v,.map (some 0)],[.map (encU s)]⟩
theorem quH (E:AVal) (hE:qar E=true) (ns:List Int) (hl:ns.length<2 ^ 30) (s0:IM Unit) :
  (∀ s,qbq qdd ns 0 s0=.ok s→True∧qbl L.pure (call L) 1 [0,5,18,19,20] [0,4,5] 0 qfQ (qnm E s0 ns 0)=some (.normal,qnn E .junk s)) ∧
  (∀ u,qbq qdd ns 0 s0=.error u→∃ R,(∃ s,R=qnn E (.bool true) s)∧qbl L.pure (call L) 1 [0,5,18,19,20] [0,4,5] 0 qfQ (qnm E s0 ns 0)=some (.ret,R)):=by
 refine qcq ns qdd (fun s j=>qnm E s ns j) (qnn E .junk) (fun _ R=>∃ s,R=qnn E (.bool true) s) (fun _ _=>True) s0 trivial ?_ ?_ ?_
 ·intro i hi s s' _ hq
  obtain⟨h1,h2,h3⟩:=qaT qau ns hl i hi
  refine⟨?_,trivial⟩
  unfold qdd at hq
  split at hq
  ·cases hq
  ·rename_i hn
   injection hq with hq
   subst hq
   generalize ns[i]=n at *
   have hf:qaI n s=none:=by simpa using hn
   have hlk:=fun (h:Heap) (hr:h[0]? = some (.map (encU s)))=>qp3 (fun _:Unit=>AVal.agg []) h 0 (.agg []) true n s hr
   have hup:=fun (h:Heap) (hr:h[0]? = some (.map (encU s)))=>qxV (fun _:Unit=>AVal.agg []) h 0 n () s rfl hr
   rw[hf] at hlk
   unfold qfQ qnm
   simp -implicitDefEqProofs only[ev_,aOp,opd,qaa,qat,qaD,qaC,qae,qab,qag,qaP,qcZ,qaq,qas,ren,renC,qa0,qbh,↓reduceIte,reduceCtorEq,Nat.reduceEqDiff,Nat.reduceAdd,Nat.reduceLT,Nat.reduceLeDiff,qba,qac,h1,h2,h3,hlk,hup,hE,qa6,qa7]
 ·intro i hi s u _ hq
  obtain⟨h1,h2,h3⟩:=qaT qau ns hl i hi
  refine⟨_,⟨s,rfl⟩,?_⟩
  unfold qdd at hq
  split at hq
  ·rename_i hn
   generalize ns[i]=n at *
   obtain⟨x,hf⟩:=Option.isSome_iff_exists.1 hn
   have hlk:=fun (h:Heap) (hr:h[0]? = some (.map (encU s)))=>qp3 (fun _:Unit=>AVal.agg []) h 0 (.agg []) true n s hr
   rw[hf] at hlk
   unfold qfQ qnm qnn
   simp -implicitDefEqProofs only[ev_,aOp,opd,qaa,qat,qaD,qaC,qae,qab,qag,qaP,qaq,gcE,qas,ren,renC,qa0,qbh,↓reduceIte,reduceCtorEq,Nat.reduceEqDiff,Nat.reduceAdd,Nat.reduceLT,Nat.reduceLeDiff,qba,h1,h2,h3,hlk,hE,qa6,qa7]
  ·cases hq
 ·intro s _
  have h0:=qaU ns.length
  unfold qfQ qnm qnn
  simp -implicitDefEqProofs only[ev_,aOp,opd,qaa,qaD,qaC,qab,gcE,qas,ren,renC,qa0,qbh,↓reduceIte,reduceCtorEq,Nat.reduceEqDiff,Nat.reduceLT,Nat.reduceLeDiff,h0,hE,qa6,qa7]
def qaA (x:CExpr):List Int:=qaz x.op x.binds x.alts
def qs0 (x:CExpr):Prop:=(x.binds++x.alts.flatMap (·.binds)).length<2 ^ 30
def qno (e:List CExpr) (x:CExpr) (i:Nat) (ns:List Int) (s:IM Unit) (j:Nat):St:=⟨kt [5,35,36,37,50,51,52] [.map (some 0),.list (e.map qal) none,.int .i64 e.length,.int .i64 i,.list (ns.map qau) none,.int .i64 ns.length,.int .i64 j],
 [.map (encU s),.box [.int .i64 x.op,.int .i64 x.n,.list (x.binds.map qau) none,.list (x.kids.map qau) none,.list (x.alts.map qan) none],.gone]⟩
def qnp (e:List CExpr) (x:CExpr) (i:Nat) (v:AVal) (s:IM Unit):St:=⟨kt [4,5,35,36,37] [v,.map (some 0),.list (e.map qal) none,.int .i64 e.length,.int .i64 i],
 [.map (encU s),.box [.int .i64 x.op,.int .i64 x.n,.list (x.binds.map qau) none,.list (x.kids.map qau) none,.list (x.alts.map qan) none],.gone]⟩
theorem qpo (e:List CExpr) (x:CExpr) (i:Nat) (ns:List Int) (hl:ns.length<2 ^ 30) (s0:IM Unit) :
  (∀ s,qbq qdd ns 0 s0=.ok s→True∧qbl L.pure (call L) 3 [5,35,36,37,50,51,52] [4,5,35,36,37] 4 qfR (qno e x i ns s0 0)=some (.normal,qnp e x i .junk s)) ∧
  (∀ u,qbq qdd ns 0 s0=.error u→∃ R,(∃ s,R=qnp e x i (.bool true) s)∧qbl L.pure (call L) 3 [5,35,36,37,50,51,52] [4,5,35,36,37] 4 qfR (qno e x i ns s0 0)=some (.ret,R)):=by
 have hdE:=qaY e
 refine qcq ns qdd (fun s j=>qno e x i ns s j) (qnp e x i .junk) (fun _ R=>∃ s,R=qnp e x i (.bool true) s) (fun _ _=>True) s0 trivial ?_ ?_ ?_
 ·intro j hj s s' _ hq
  obtain⟨h1,h2,h3⟩:=qaT qau ns hl j hj
  refine⟨?_,trivial⟩
  unfold qdd at hq
  split at hq
  ·cases hq
  ·rename_i hn
   injection hq with hq
   subst hq
   generalize ns[j]=n at *
   have hf:qaI n s=none:=by simpa using hn
   have hlk:=fun (h:Heap) (hr:h[0]? = some (.map (encU s)))=>qp3 (fun _:Unit=>AVal.agg []) h 0 (.agg []) true n s hr
   have hup:=fun (h:Heap) (hr:h[0]? = some (.map (encU s)))=>qxV (fun _:Unit=>AVal.agg []) h 0 n () s rfl hr
   rw[hf] at hlk
   unfold qfR qno
   simp -implicitDefEqProofs only[ev_,aOp,opd,qaa,qat,qaD,qaC,qae,qab,qag,qaP,qcZ,qaq,qas,ren,renC,qa0,qbh,↓reduceIte,Nat.reduceEqDiff,Nat.reduceAdd,Nat.reduceLT,Nat.reduceLeDiff,qba,qac,qah,h1,h2,h3,hlk,hup,hdE,qa6,qa7]
 ·intro j hj s u _ hq
  obtain⟨h1,h2,h3⟩:=qaT qau ns hl j hj
  refine⟨_,⟨s,rfl⟩,?_⟩
  unfold qdd at hq
  split at hq
  ·rename_i hn
   generalize ns[j]=n at *
   obtain⟨y,hf⟩:=Option.isSome_iff_exists.1 hn
   have hlk:=fun (h:Heap) (hr:h[0]? = some (.map (encU s)))=>qp3 (fun _:Unit=>AVal.agg []) h 0 (.agg []) true n s hr
   rw[hf] at hlk
   unfold qfR qno qnp
   simp -implicitDefEqProofs only[ev_,aOp,opd,qaa,qat,qaD,qaC,qae,qab,qag,qaP,qaq,gcE,qas,ren,renC,qa0,qbh,↓reduceIte,Nat.reduceEqDiff,Nat.reduceAdd,Nat.reduceLT,Nat.reduceLeDiff,qba,qac,qah,h1,h2,h3,hlk,hdE,qa6,qa7]
  ·cases hq
 ·intro s _
  have h0:=qaU ns.length
  unfold qfR qno qnp
  simp -implicitDefEqProofs only[ev_,aOp,opd,qaa,qaD,qaC,qab,gcE,qas,ren,renC,qa0,qbh,↓reduceIte,Nat.reduceEqDiff,Nat.reduceAdd,Nat.reduceLT,Nat.reduceLeDiff,qac,qah,h0,hdE,qa6,qa7]
theorem qn9 (op:Int) (binds:List Int) (as:List CAlt):(qaz op binds as).length≤(binds++as.flatMap (·.binds)).length:=by
 unfold qaz
 rw[List.length_append,List.length_append]
 split<;>simp
theorem qyp:encU []=[]:=rfl
include hL
def qnq (e:List CExpr) (s:IM Unit) (i:Nat):St:=⟨kt [5,35,36,37] [.map (some 0),.list (e.map qal) none,.int .i64 e.length,.int .i64 i],[.map (encU s)]⟩
def qh7 (_:Nat) (s:IM Unit) (x:CExpr):Except Unit (IM Unit):=qbq qdd (qaA x) 0 s
theorem quI (h232:L.fns 232=some fn232) (e:List CExpr) (hl:e.length<2 ^ 30) (hf:∀ x∈e,NodeFit x) (hb:∀ x∈e,qs0 x) (s0:IM Unit) :
  (∀ s,qbq qh7 e 0 s0=.ok s→True∧qbl L.pure (call L) 1 [5,35,36,37] [4] 2 qfS (qnq e s0 0)=some (.normal,⟨kt [4] [.junk],[.map (encU s)]⟩)) ∧
  (∀ u,qbq qh7 e 0 s0=.error u→∃ R,(∃ s:IM Unit,R=⟨kt [4] [.bool true],[.map (encU s)]⟩)∧qbl L.pure (call L) 1 [5,35,36,37] [4] 2 qfS (qnq e s0 0)=some (.ret,R)):=by
 have hp:=hL.pure
 have hdE:=qaY e
 refine qcq e qh7 (qnq e) (fun s=>⟨kt [4] [.junk],[.map (encU s)]⟩) (fun _ R=>∃ s:IM Unit,R=⟨kt [4] [.bool true],[.map (encU s)]⟩) (fun _ _=>True) s0 trivial ?_ ?_ ?_
 ·intro i hi s s' _ hq
  obtain⟨h1,h2,h3⟩:=qaT qal e hl i hi
  refine⟨?_,trivial⟩
  have hx:=hf e[i] (List.getElem_mem hi)
  have hbx:=hb e[i] (List.getElem_mem hi)
  generalize e[i]=x at *
  unfold qs0 at hbx
  have hbo:=qkh hL h232 x.op 0 x.binds (.list [] none) rfl x.alts hx.alts (by omega)
  have hle:=qn9 x.op x.binds x.alts
  obtain⟨ha,_⟩:=qpo (L:=L) e x i (qaA x) (by unfold qaA;omega) s
  obtain⟨_,ha⟩:=ha s' hq
  unfold qno qnp at ha
  unfold qaA at ha
  simp only[Int.natCast_zero] at ha
  unfold qfS qnq
  simp -implicitDefEqProofs only[ev_,aOp,opd,qaa,qat,qaD,qbC,qaC,qae,qab,qag,qaP,qaN,qak,qcZ,qdm,leaf,qaq,qas,ren,renC,qa0,qbh,↓reduceIte,reduceCtorEq,Nat.reduceEqDiff,Nat.reduceAdd,Nat.reduceLT,Nat.reduceLeDiff,frz,frzC,qjV,qaZ,qac,qah,h1,h2,h3,hbo,ha,hdE,qa6,qa7,qap L hp,hp]
 ·intro i hi s u _ hq
  obtain⟨h1,h2,h3⟩:=qaT qal e hl i hi
  have hx:=hf e[i] (List.getElem_mem hi)
  have hbx:=hb e[i] (List.getElem_mem hi)
  generalize e[i]=x at *
  unfold qs0 at hbx
  have hbo:=qkh hL h232 x.op 0 x.binds (.list [] none) rfl x.alts hx.alts (by omega)
  have hle:=qn9 x.op x.binds x.alts
  obtain⟨_,ha⟩:=qpo (L:=L) e x i (qaA x) (by unfold qaA;omega) s
  obtain⟨R,⟨t,rfl⟩,ha⟩:=ha u hq
  refine⟨_,⟨t,rfl⟩,?_⟩
  unfold qno qnp at ha
  unfold qaA at ha
  simp only[Int.natCast_zero] at ha
  unfold qfS qnq
  simp -implicitDefEqProofs only[ev_,aOp,opd,qaa,qat,qaD,qbC,qaC,qae,qab,qag,qaP,qaN,qak,qcZ,qdm,leaf,qaq,gcE,qas,ren,renC,qa0,qbh,↓reduceIte,reduceCtorEq,Nat.reduceEqDiff,Nat.reduceAdd,Nat.reduceLT,Nat.reduceLeDiff,frz,frzC,qjV,qaZ,qac,qah,h1,h2,h3,hbo,ha,hdE,qa6,qa7,qap L hp,hp]
 ·intro s _
  have h0:=qaU e.length
  unfold qfS qnq
  simp -implicitDefEqProofs only[ev_,aOp,opd,qaa,qaD,qaC,qab,gcE,qas,ren,renC,qa0,qbh,↓reduceIte,Nat.reduceEqDiff,h0,hdE,qa6,qa7]
def qhF (e:List CExpr) (ps:List Int):Bool :=
 match qbq qdd ps 0 [] with
 | .error _=>true
 | .ok s=>(match qbq qh7 e 0 s with | .error _=>true | .ok _=>false)
theorem quJ (h232:L.fns 232=some fn232) (h195:L.fns 195=some fn195) (e:List CExpr) (hl:e.length<2 ^ 30) (hf:∀ x∈e,NodeFit x) (hb:∀ x∈e,qs0 x) (ps:List Int) (hps:ps.length<2 ^ 30) (h:Heap) :
  pcall L 195 [.list (e.map qal) none,.list (ps.map qau) none] h=some (.val (.bool (qhF e ps)),h):=by
 have hdE:=qaY e
 refine qbo hL h195 rfl ?_ h
 obtain⟨ha,hb1⟩:=quH (L:=L) (.list (e.map qal) none) (by rw[qbc];exact hdE) ps hps []
 unfold qhF
 cases hq:qbq qdd ps 0 [] with
 | error u =>
   obtain⟨R,⟨s,rfl⟩,hl0⟩:=hb1 u hq
   unfold qnm qnn at hl0
   simp only[Int.natCast_zero,qyp] at hl0
   unfold fn195
   simp -implicitDefEqProofs only[ev_,aOp,opd,qaa,qbC,qav,qad,qai,qam,qas,ren,renC,qa0,qbh,↓reduceIte,reduceCtorEq,Nat.reduceEqDiff,Nat.reduceLT,Nat.reduceLeDiff,qaj,qac,hl0,hdE,qa6,qa7]
 | ok s =>
   obtain⟨_,hl0⟩:=ha s hq
   unfold qnm qnn at hl0
   simp only[Int.natCast_zero,qyp] at hl0
   obtain⟨hc,hd⟩:=quI hL h232 e hl hf hb s
   dsimp only
   cases hr:qbq qh7 e 0 s with
   | error u =>
     obtain⟨R,⟨t,rfl⟩,hl2⟩:=hd u hr
     unfold qnq at hl2
     simp only[Int.natCast_zero] at hl2
     unfold fn195
     simp -implicitDefEqProofs only[ev_,aOp,opd,qaa,qbC,qav,qad,qai,qam,qas,ren,renC,qa0,qbh,↓reduceIte,reduceCtorEq,Nat.reduceEqDiff,Nat.reduceLT,Nat.reduceLeDiff,qaj,qac,hl0,hl2,hdE,qa6,qa7]
   | ok t =>
     obtain⟨_,hl2⟩:=hc t hr
     unfold qnq at hl2
     simp only[Int.natCast_zero] at hl2
     unfold fn195
     simp -implicitDefEqProofs only[ev_,aOp,opd,qaa,qbC,qav,qad,qai,qam,qas,ren,renC,qa0,qbh,↓reduceIte,reduceCtorEq,Nat.reduceEqDiff,Nat.reduceLT,Nat.reduceLeDiff,qaj,qac,hl0,hl2,hdE,qa6,qa7]
end
section
theorem qqr:∀ (e:List CExpr) (i j:Nat) (s:IM Unit),qbq qh7 e i s=qbq qdd (e.flatMap qaA) j s:=by
 have hidx:∀ (ns:List Int) (i j:Nat) (s:IM Unit),qbq qdd ns i s=qbq qdd ns j s:=by
  intro ns
  induction ns with
  | nil=>intros;rfl
  | cons n ns ih =>
    intro i j s
    rw[qbq,qbq]
    have:qdd i s n=qdd j s n:=rfl
    rw[this]
    cases qdd j s n with
    | error u=>rfl
    | ok t=>exact ih _ _ t
 have happ:∀ (ns ms:List Int) (i:Nat) (s:IM Unit),qbq qdd (ns++ms) i s=(match qbq qdd ns i s with | .ok t=>qbq qdd ms 0 t | .error u=>.error u):=by
  intro ns
  induction ns with
  | nil=>intro ms i s;exact hidx ms i 0 s
  | cons n ns ih =>
    intro ms i s
    rw[List.cons_append,qbq,qbq]
    cases qdd i s n with
    | error u=>rfl
    | ok t=>exact ih ms (i+1) t
 intro e
 induction e with
 | nil=>intros;rfl
 | cons x e ih =>
   intro i j s
   rw[List.flatMap_cons,happ,qbq,hidx _ j 0]
   unfold qh7
   cases qbq qdd (qaA x) 0 s with
   | error u=>rfl
   | ok t=>exact ih _ 0 t
theorem qjR (e:List CExpr):qhF e [] = !decide (e.flatMap qaA).Nodup:=by
 unfold qhF
 have hs:=quC (e.flatMap qaA) 0 []
 rw[← qqr e 0 0 []] at hs
 dsimp only[qbq]
 cases hq:qbq qh7 e 0 [] with
 | error u =>
   have:¬ (e.flatMap qaA).Nodup:=fun h=>hs.1 ⟨u,hq⟩ ⟨h,fun _ _=>rfl⟩
   simp[this]
 | ok t =>
   have:(e.flatMap qaA).Nodup:=by
    refine Classical.byContradiction fun h=>?_
    obtain⟨u,hu⟩:=hs.2 fun hx=>h hx.1
    rw[hq] at hu
    cases hu
   simp[this]
end
structure CPrims (L:Lib) (sortI:List Int→List Int):Prop where
 clone:∀ (l:List Int) (h:Heap),l.length<2 ^ 30→pcall L 188 [.list (l.map qau) none] h=some (.val (.list (l.map qau) none),h)
 sort:∀ (l:List Int),l≠[]→l.length<2 ^ 30→call L 138 [.vec 0 l.length] [.vec (l.map qau) 1]=some (.val (.tuple []),[.vec ((sortI l).map qau) 1])
 sort0:∀ h:Heap,pcall L 138 [.list [] none] h=some (.val (.tuple []),h)
def CTree.none:CTree:=.mk 0 0 [] [] []
def qdA (ts:List CTree) (x:CExpr):List CTree:=ts++[.mk x.op x.n x.binds (x.kids.map fun k=>ts.getD k.toNat .none) x.alts]
def qdp (e:List CExpr):List CTree:=e.foldl qdA []
def qbg (e:List CExpr):CTree:=(qdp e).getD (e.length-1) .none
def qh9 (e:List CExpr):Prop:=∀ (i:Nat) (hi:i<e.length),∀ k∈e[i].kids,0≤k∧k<i
theorem qk1 (cs:List AVal) (n:Nat):wipeR (.vptr cs n)=.vptr cs n:=rfl
theorem qdv (t:CTree):∃ tc,qaB t=.vptr tc 0∧qao tc=true:=by
 have h:=qei t
 cases t
 rw[qbG] at h ⊢
 exact⟨_,rfl,h⟩
section
variable {L:Lib} (hL:Plain L)
def qns (x:CExpr):AObj:=.box [.int .i64 x.op,.int .i64 x.n,.list (x.binds.map qau) none,.list (x.kids.map qau) none,.list (x.alts.map qan) none]
end
section
theorem qhS (e:List CExpr) (i:Nat) (hi:i<e.length):qdp (e.take (i+1))=qdA (qdp (e.take i)) e[i]:=by
 unfold qdp
 rw[List.take_succ_eq_append_getElem hi,List.foldl_append]
 rfl
theorem qgb:∀ (e:List CExpr) (ts:List CTree),(e.foldl qdA ts).length=ts.length+e.length
 | [],ts=>rfl
 | x :: e,ts => by
   rw[List.foldl_cons,qgb e]
   simp[qdA]
   omega
theorem qnV (e:List CExpr):(qdp e).length=e.length:=by
 unfold qdp
 rw[qgb]
 simp
theorem qhU (e:List CExpr) (i:Nat) (hi:i≤e.length):(qdp (e.take i)).length=i:=by
 rw[qnV]
 simp
 omega
end
end Go.Abs
