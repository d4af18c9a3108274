/-
  PARTS OF A PROOF, joined: an abstract machine for quiet code, its evaluation, and what the seat's functions answer on it. Conditions: none.
-/
import Derived.Test.YtpchghpipgpkfaaDoorG
set_option linter.unusedVariables false
set_option linter.unusedSimpArgs false
set_option maxRecDepth 100000
set_option maxHeartbeats 4000000
namespace Go.Abs
abbrev IM (β:Type):=List (Int × β)
section
variable {β:Type} (f:β→AVal)
def qkm (m:IM β):List (AVal × AVal):=m.map fun p=>(.int .i64 p.1,f p.2)
theorem qyK (hf:∀ b,qaA (f b)=true) (ρ:Nat→Option Nat) (m:IM β):qeo ρ (.map (qkm f m))=.map (qkm f m):=by
 have h1:∀ v:AVal,qaA v=true→ren ρ v=v:=fun v hv=>by unfold ren;rw[if_pos hv]
 unfold qeo qkm
 dsimp only
 rw[List.map_map]
 congr 1
 refine List.map_congr_left fun p _=>?_
 simp only[Function.comp,h1 _ (hf p.2),h1 (.int .i64 p.1) rfl]
theorem qyx (hf:∀ b,qaA (f b)=true) (m:IM β):qnZ (.map (qkm f m))=[]:=by
 have h1:∀ v:AVal,qaA v=true→qaZ v=[]:=fun v hv=>by unfold qaZ;rw[if_pos hv]
 unfold qnZ qkm
 dsimp only
 induction m with
 | nil=>rfl
 | cons p m ih =>
   rw[List.map_cons,List.flatMap_cons,h1 _ (hf p.2),h1 (.int .i64 p.1) rfl]
   exact ih
def qbQ (v:Int):IM β→Option β
 | []=>none
 | p::m=>if v=p.1 then some p.2 else qbQ v m
def qnx (v:Int) (b:β) (m:IM β):IM β:=m.map fun p=>if v=p.1 then (v,b) else p
def qlN (v:Int) (b:β):IM β→IM β
 | []=>[(v,b)]
 | p::m=>if v<p.1 then (v,b)::p::m else p::qlN v b m
def qoN (v:Int) (b:β) (m:IM β):IM β:=if (qbQ v m).isSome=true then qnx v b m else qlN v b m
theorem qhy {v:Int} {b:β}:∀ {m:IM β} (i:Nat),qbQ v m=some b→∃ j,qa1 (.int .i64 v) (qkm f m) i=some (some (j,f b))
 | [],i,h=>by cases h
 | p :: m,i,h => by
   unfold qbQ at h
   by_cases hv:v=p.1
   ·rw[if_pos hv] at h
    injection h with h
    subst h
    exact⟨i,by simp[qkm,qa1,qct,hv]⟩
   ·rw[if_neg hv] at h
    obtain⟨j,hj⟩:=qhy (i+1) h
    have hb:(v==p.1)=false:=by simpa using hv
    exact⟨j,by rw[← hj];simp[qkm,qa1,qct,hb]⟩
theorem qhx {v:Int}:∀ {m:IM β} (i:Nat),qbQ v m=none→qa1 (.int .i64 v) (qkm f m) i=some none
 | [],i,h=>rfl
 | p :: m,i,h => by
   unfold qbQ at h
   by_cases hv:v=p.1
   ·rw[if_pos hv] at h
    cases h
   ·rw[if_neg hv] at h
    have hb:(v==p.1)=false:=by simpa using hv
    rw[← qhx (i+1) h]
    simp[qkm,qa1,qct,hb]
theorem qps (v:Int) (b:β):∀ m:IM β,qyc (.int .i64 v) (f b) (qkm f m)=qkm f (qlN v b m)
 | []=>rfl
 | p :: m => by
   unfold qlN qkm
   rw[List.map_cons,qyc]
   simp only[qyz,decide_eq_true_eq]
   by_cases h:v<p.1
   ·rw[if_pos h,if_pos h]
    rfl
   ·rw[if_neg h,if_neg h,List.map_cons]
    exact congrArg _ (qps v b m)
theorem qub (v:Int) (b:β) (m:IM β):qxZ (.int .i64 v) (f b) (qkm f m)=qkm f (qnx v b m):=by
 unfold qxZ qkm qnx
 rw[List.map_map,List.map_map]
 refine List.map_congr_left fun p _=>?_
 simp only[Function.comp,qct,if_true,Option.some.injEq,beq_iff_eq]
 by_cases h:v=p.1
 ·rw[if_pos h,if_pos h]
 ·rw[if_neg h,if_neg h]
theorem qqM (h:Heap) (r:Nat) (zero:AVal) (ok:Bool) (v:Int) (m:IM β) (hr:h[r]? = some (.map (qkm f m))) :
  qhq h .int zero ok (.map (some r)) (.int .i64 v)=some (match qbQ v m with | some b=>(if ok=true then .tuple [f b,.bool true] else f b) | none=>(if ok=true then .tuple [zero,.bool false] else zero)):=by
 unfold qhq qna
 rw[if_pos (show qcu .int (.int .i64 v)=true from rfl)]
 dsimp only
 rw[hr]
 dsimp only
 cases hq:qbQ v m with
 | some b =>
   obtain⟨j,hj⟩:=qhy f 0 hq
   rw[hj]
 | none=>rw[qhx f 0 hq]
theorem qy6 (h:Heap) (r:Nat) (v:Int) (b:β) (m:IM β) (hw:wipe (f b)=f b) (hr:h[r]? = some (.map (qkm f m))) :
  qdt h .int (.map (some r)) (.int .i64 v) (f b)=some (h.set r (.map (qkm f (qoN v b m)))):=by
 unfold qdt qoN
 dsimp only
 rw[hr]
 dsimp only
 rw[if_pos (show qcu .int (.int .i64 v)=true from rfl),hw]
 cases hq:qbQ v m with
 | some c =>
   obtain⟨j,hj⟩:=qhy f 0 hq
   rw[hj]
   simp only[Option.isSome_some,if_true,qub]
 | none =>
   rw[qhx f 0 hq]
   simp only[Option.isSome_none,Bool.false_eq_true,if_false,qps]
theorem qmG (v w:Int) (b:β):∀ m:IM β,qbQ w m=none→qbQ v (qlN w b m)=if v=w then some b else qbQ v m
 | [],_=>by simp[qlN,qbQ]
 | p :: m,h => by
   unfold qbQ at h
   have hw:¬ w=p.1:=by
    intro e
    rw[if_pos e] at h
    cases h
   rw[if_neg hw] at h
   have ih:=qmG v w b m h
   unfold qlN
   by_cases hlt:w<p.1
   ·rw[if_pos hlt]
    simp only[qbQ]
   ·rw[if_neg hlt]
    simp only[qbQ]
    rw[ih]
    by_cases h1:v=p.1
    ·have:¬ v=w:=by omega
     rw[if_pos h1,if_neg this,if_pos h1]
    ·rw[if_neg h1,if_neg h1]
theorem qjm (v w:Int) (b:β):∀ m:IM β,(qbQ w m).isSome=true→qbQ v (qnx w b m)=if v=w then some b else qbQ v m
 | [],h=>by cases h
 | p :: m,h => by
   unfold qnx
   rw[List.map_cons]
   by_cases hw:w=p.1
   ·rw[if_pos hw]
    simp only[qbQ]
    by_cases hv:v=w
    ·rw[if_pos hv,if_pos hv]
    ·rw[if_neg hv,if_neg hv,if_neg (by omega)]
     by_cases hs:(qbQ w m).isSome=true
     ·have:=qjm v w b m hs
      unfold qnx at this
      rw[this,if_neg hv]
     ·have:m.map (fun p=>if w=p.1 then (w,b) else p)=m:=by
       have hn:∀ q∈m,¬ w=q.1:=by
        clear h
        induction m with
        | nil=>simp
        | cons q m ih =>
          intro x hx
          unfold qbQ at hs
          by_cases hq:w=q.1
          ·rw[if_pos hq] at hs;exact absurd rfl hs
          ·rw[if_neg hq] at hs
           rcases List.mem_cons.1 hx with rfl | hx
           ·exact hq
           ·exact ih hs x hx
       have h2:m.map (fun p=>if w=p.1 then (w,b) else p)=m.map id:=List.map_congr_left fun q hq=>if_neg (hn q hq)
       rw[h2,List.map_id]
      rw[this]
   ·rw[if_neg hw]
    unfold qbQ at h
    rw[if_neg hw] at h
    have:=qjm v w b m h
    unfold qnx at this
    simp only[qbQ]
    rw[this]
    by_cases h1:v=p.1
    ·rw[if_pos h1,if_neg (by omega),if_pos h1]
    ·rw[if_neg h1,if_neg h1]
theorem qjl (v w:Int) (b:β) (m:IM β):qbQ v (qoN w b m)=if v=w then some b else qbQ v m:=by
 unfold qoN
 by_cases h:(qbQ w m).isSome=true
 ·rw[if_pos h,qjm v w b m h]
 ·rw[if_neg h,qmG v w b m (by simpa using h)]
end
abbrev encU:IM Unit→List (AVal × AVal):=qkm fun _=>.agg []
def qcY (_:Nat) (s:IM Unit) (n:Int):Except Unit (IM Unit):=if (qbQ n s).isSome=true then .error () else .ok (qoN n () s)
theorem qvi (ns:List Int):∀ (i:Nat) (s:IM Unit),(∃ u,qbv qcY ns i s=.error u)↔¬ (ns.Nodup∧∀ n∈ns,qbQ n s=none):=by
 induction ns with
 | nil=>intro i s;simp[qbv]
 | cons n ns ih =>
   intro i s
   rw[qbv]
   unfold qcY
   by_cases h:(qbQ n s).isSome=true
   ·rw[if_pos h]
    simp only[List.forall_mem_cons]
    constructor
    ·intro _ hx
     rw[hx.2.1] at h
     cases h
    ·intro _;simp
   ·rw[if_neg h]
    dsimp only
    have h':qbQ n s=none:=by simpa using h
    have:=ih (i+1) (qoN n () s)
    unfold qcY at this
    rw[this]
    simp only[qjl,List.nodup_cons,List.forall_mem_cons]
    apply not_congr
    constructor
    ·rintro ⟨h1,h2⟩
     refine⟨⟨?_,h1⟩,h',?_⟩
     ·intro hm
      have:=h2 n hm
      rw[if_pos rfl] at this
      cases this
     ·intro m hm
      have:=h2 m hm
      by_cases e:m=n
      ·rw[if_pos e] at this;cases this
      ·rwa [if_neg e] at this
    ·rintro ⟨⟨h1,h2⟩,_,h4⟩
     refine⟨h2,fun m hm=>?_⟩
     rw[if_neg (fun e:m=n=>h1 (e ▸ hm))]
     exact h4 m hm
theorem qba (s:IM Unit):qnZ (.map (encU s))=[]:=qyx _ (fun _=>rfl) s
theorem qbb (ρ:Nat→Option Nat) (s:IM Unit):qeo ρ (.map (encU s))=.map (encU s):=qyK _ (fun _=>rfl) ρ s
section
variable {L:Lib} (hL:Plain L)
def qnT (E:AVal) (s:IM Unit) (ns:List Int) (j:Nat):St:=⟨kt [0,5,18,19,20] [E,.map (some 0),.list (ns.map qau) none,.int .i64 ns.length,.int .i64 j],[.map (encU s)]⟩
def qnU (E:AVal) (v:AVal) (s:IM Unit):St:=⟨kt [0,4,5] [E,v,.map (some 0)],[.map (encU s)]⟩
theorem qvm (E:AVal) (hE:qaA E=true) (ns:List Int) (hl:ns.length<2 ^ 30) (s0:IM Unit) :
  (∀ s,qbv qcY ns 0 s0=.ok s→True∧qa5 L.pure (call L) 1 [0,5,18,19,20] [0,4,5] 0 qfO (qnT E s0 ns 0)=some (.normal,qnU E .junk s)) ∧
  (∀ u,qbv qcY ns 0 s0=.error u→∃ R,(∃ s,R=qnU E (.bool true) s)∧qa5 L.pure (call L) 1 [0,5,18,19,20] [0,4,5] 0 qfO (qnT E s0 ns 0)=some (.ret,R)):=by
 refine qcc ns qcY (fun s j=>qnT E s ns j) (qnU E .junk) (fun _ R=>∃ s,R=qnU E (.bool true) s) (fun _ _=>True) s0 trivial ?_ ?_ ?_
 ·intro i hi s s' _ hq
  obtain⟨h1,h2,h3⟩:=qaN qau ns hl i hi
  refine⟨?_,trivial⟩
  unfold qcY at hq
  split at hq
  ·cases hq
  ·rename_i hn
   injection hq with hq
   subst hq
   generalize ns[i]=n at *
   have hf:qbQ n s=none:=by simpa using hn
   have hlk:=fun (h:Heap) (hr:h[0]? = some (.map (encU s)))=>qqM (fun _:Unit=>AVal.agg []) h 0 (.agg []) true n s hr
   have hup:=fun (h:Heap) (hr:h[0]? = some (.map (encU s)))=>qy6 (fun _:Unit=>AVal.agg []) h 0 n () s rfl hr
   rw[hf] at hlk
   unfold qfO qnT
   simp -implicitDefEqProofs only[ev_,aOp,opd,qaa,qas,qax,qaw,qad,qab,qag,qaL,qbR,qaq,qav,ren,renC,qaZ,qa8,↓reduceIte,reduceCtorEq,Nat.reduceEqDiff,Nat.reduceAdd,Nat.reduceLT,Nat.reduceLeDiff,qbe,qah,h1,h2,h3,hlk,hup,hE,qba,qbb]
 ·intro i hi s u _ hq
  obtain⟨h1,h2,h3⟩:=qaN qau ns hl i hi
  refine⟨_,⟨s,rfl⟩,?_⟩
  unfold qcY at hq
  split at hq
  ·rename_i hn
   generalize ns[i]=n at *
   obtain⟨x,hf⟩:=Option.isSome_iff_exists.1 hn
   have hlk:=fun (h:Heap) (hr:h[0]? = some (.map (encU s)))=>qqM (fun _:Unit=>AVal.agg []) h 0 (.agg []) true n s hr
   rw[hf] at hlk
   unfold qfO qnT qnU
   simp -implicitDefEqProofs only[ev_,aOp,opd,qaa,qas,qax,qaw,qad,qab,qag,qaL,qaq,gcE,qav,ren,renC,qaZ,qa8,↓reduceIte,reduceCtorEq,Nat.reduceEqDiff,Nat.reduceAdd,Nat.reduceLT,Nat.reduceLeDiff,qbe,h1,h2,h3,hlk,hE,qba,qbb]
  ·cases hq
 ·intro s _
  have h0:=qaO ns.length
  unfold qfO qnT qnU
  simp -implicitDefEqProofs only[ev_,aOp,opd,qaa,qax,qaw,qab,gcE,qav,ren,renC,qaZ,qa8,↓reduceIte,reduceCtorEq,Nat.reduceEqDiff,Nat.reduceLT,Nat.reduceLeDiff,h0,hE,qba,qbb]
def qbA (x:CExpr):List Int:=qbk x.op x.binds x.alts
def qtL (x:CExpr):Prop:=(x.binds++x.alts.flatMap (·.binds)).length<2 ^ 30
def qnV (e:List CExpr) (x:CExpr) (i:Nat) (ns:List Int) (s:IM Unit) (j:Nat):St:=⟨kt [5,35,36,37,50,51,52] [.map (some 0),.list (e.map qam) none,.int .i64 e.length,.int .i64 i,.list (ns.map qau) none,.int .i64 ns.length,.int .i64 j],
 [.map (encU s),.box [.int .i64 x.op,.int .i64 x.n,.list (x.binds.map qau) none,.list (x.kids.map qau) none,.list (x.alts.map qar) none],.gone]⟩
def qnW (e:List CExpr) (x:CExpr) (i:Nat) (v:AVal) (s:IM Unit):St:=⟨kt [4,5,35,36,37] [v,.map (some 0),.list (e.map qam) none,.int .i64 e.length,.int .i64 i],
 [.map (encU s),.box [.int .i64 x.op,.int .i64 x.n,.list (x.binds.map qau) none,.list (x.kids.map qau) none,.list (x.alts.map qar) none],.gone]⟩
theorem qp2 (e:List CExpr) (x:CExpr) (i:Nat) (ns:List Int) (hl:ns.length<2 ^ 30) (s0:IM Unit) :
  (∀ s,qbv qcY ns 0 s0=.ok s→True∧qa5 L.pure (call L) 3 [5,35,36,37,50,51,52] [4,5,35,36,37] 4 qfP (qnV e x i ns s0 0)=some (.normal,qnW e x i .junk s)) ∧
  (∀ u,qbv qcY ns 0 s0=.error u→∃ R,(∃ s,R=qnW e x i (.bool true) s)∧qa5 L.pure (call L) 3 [5,35,36,37,50,51,52] [4,5,35,36,37] 4 qfP (qnV e x i ns s0 0)=some (.ret,R)):=by
 have hdE:=qaE e
 refine qcc ns qcY (fun s j=>qnV e x i ns s j) (qnW e x i .junk) (fun _ R=>∃ s,R=qnW e x i (.bool true) s) (fun _ _=>True) s0 trivial ?_ ?_ ?_
 ·intro j hj s s' _ hq
  obtain⟨h1,h2,h3⟩:=qaN qau ns hl j hj
  refine⟨?_,trivial⟩
  unfold qcY at hq
  split at hq
  ·cases hq
  ·rename_i hn
   injection hq with hq
   subst hq
   generalize ns[j]=n at *
   have hf:qbQ n s=none:=by simpa using hn
   have hlk:=fun (h:Heap) (hr:h[0]? = some (.map (encU s)))=>qqM (fun _:Unit=>AVal.agg []) h 0 (.agg []) true n s hr
   have hup:=fun (h:Heap) (hr:h[0]? = some (.map (encU s)))=>qy6 (fun _:Unit=>AVal.agg []) h 0 n () s rfl hr
   rw[hf] at hlk
   unfold qfP qnV
   simp -implicitDefEqProofs only[ev_,aOp,opd,qaa,qas,qax,qaw,qad,qab,qag,qaL,qbR,qaq,qav,ren,renC,qaZ,qa8,↓reduceIte,Nat.reduceEqDiff,Nat.reduceAdd,Nat.reduceLT,Nat.reduceLeDiff,qbe,qah,qao,h1,h2,h3,hlk,hup,hdE,qba,qbb]
 ·intro j hj s u _ hq
  obtain⟨h1,h2,h3⟩:=qaN qau ns hl j hj
  refine⟨_,⟨s,rfl⟩,?_⟩
  unfold qcY at hq
  split at hq
  ·rename_i hn
   generalize ns[j]=n at *
   obtain⟨y,hf⟩:=Option.isSome_iff_exists.1 hn
   have hlk:=fun (h:Heap) (hr:h[0]? = some (.map (encU s)))=>qqM (fun _:Unit=>AVal.agg []) h 0 (.agg []) true n s hr
   rw[hf] at hlk
   unfold qfP qnV qnW
   simp -implicitDefEqProofs only[ev_,aOp,opd,qaa,qas,qax,qaw,qad,qab,qag,qaL,qaq,gcE,qav,ren,renC,qaZ,qa8,↓reduceIte,Nat.reduceEqDiff,Nat.reduceAdd,Nat.reduceLT,Nat.reduceLeDiff,qbe,qah,qao,h1,h2,h3,hlk,hdE,qba,qbb]
  ·cases hq
 ·intro s _
  have h0:=qaO ns.length
  unfold qfP qnV qnW
  simp -implicitDefEqProofs only[ev_,aOp,opd,qaa,qax,qaw,qab,gcE,qav,ren,renC,qaZ,qa8,↓reduceIte,Nat.reduceEqDiff,Nat.reduceAdd,Nat.reduceLT,Nat.reduceLeDiff,qah,qao,h0,hdE,qba,qbb]
theorem qoI (op:Int) (binds:List Int) (as:List CAlt):(qbk op binds as).length≤(binds++as.flatMap (·.binds)).length:=by
 unfold qbk
 rw[List.length_append,List.length_append]
 split<;>simp
theorem qzB:encU []=[]:=rfl
include hL
def qnX (e:List CExpr) (s:IM Unit) (i:Nat):St:=⟨kt [5,35,36,37] [.map (some 0),.list (e.map qam) none,.int .i64 e.length,.int .i64 i],[.map (encU s)]⟩
def qij (_:Nat) (s:IM Unit) (x:CExpr):Except Unit (IM Unit):=qbv qcY (qbA x) 0 s
theorem qvn (h232:L.fns 232=some fn232) (e:List CExpr) (hl:e.length<2 ^ 30) (hf:∀ x∈e,NodeFit x) (hb:∀ x∈e,qtL x) (s0:IM Unit) :
  (∀ s,qbv qij e 0 s0=.ok s→True∧qa5 L.pure (call L) 1 [5,35,36,37] [4] 2 qfQ (qnX e s0 0)=some (.normal,⟨kt [4] [.junk],[.map (encU s)]⟩)) ∧
  (∀ u,qbv qij e 0 s0=.error u→∃ R,(∃ s:IM Unit,R=⟨kt [4] [.bool true],[.map (encU s)]⟩)∧qa5 L.pure (call L) 1 [5,35,36,37] [4] 2 qfQ (qnX e s0 0)=some (.ret,R)):=by
 have hp:=hL.pure
 have hdE:=qaE e
 refine qcc e qij (qnX e) (fun s=>⟨kt [4] [.junk],[.map (encU s)]⟩) (fun _ R=>∃ s:IM Unit,R=⟨kt [4] [.bool true],[.map (encU s)]⟩) (fun _ _=>True) s0 trivial ?_ ?_ ?_
 ·intro i hi s s' _ hq
  obtain⟨h1,h2,h3⟩:=qaN qam e hl i hi
  refine⟨?_,trivial⟩
  have hx:=hf e[i] (List.getElem_mem hi)
  have hbx:=hb e[i] (List.getElem_mem hi)
  generalize e[i]=x at *
  unfold qtL at hbx
  have hbo:=qfz hL h232 x.op 0 x.binds (.list [] none) rfl x.alts hx.alts (by omega)
  have hle:=qoI x.op x.binds x.alts
  obtain⟨ha,_⟩:=qp2 (L:=L) e x i (qbA x) (by unfold qbA;omega) s
  obtain⟨_,ha⟩:=ha s' hq
  unfold qnV qnW at ha
  unfold qbA at ha
  simp only[Int.natCast_zero] at ha
  unfold qfQ qnX
  simp -implicitDefEqProofs only[ev_,aOp,opd,qaa,qas,qax,qa7,qaw,qad,qab,qag,qaL,qaM,qai,qbR,qcf,leaf,qaq,qav,ren,renC,qaZ,qa8,↓reduceIte,reduceCtorEq,Nat.reduceEqDiff,Nat.reduceAdd,Nat.reduceLT,Nat.reduceLeDiff,frz,frzC,qkg,qaV,qah,qao,h1,h2,h3,hbo,ha,hdE,qba,qbb,qal L hp,hp]
 ·intro i hi s u _ hq
  obtain⟨h1,h2,h3⟩:=qaN qam e hl i hi
  have hx:=hf e[i] (List.getElem_mem hi)
  have hbx:=hb e[i] (List.getElem_mem hi)
  generalize e[i]=x at *
  unfold qtL at hbx
  have hbo:=qfz hL h232 x.op 0 x.binds (.list [] none) rfl x.alts hx.alts (by omega)
  have hle:=qoI x.op x.binds x.alts
  obtain⟨_,ha⟩:=qp2 (L:=L) e x i (qbA x) (by unfold qbA;omega) s
  obtain⟨R,⟨t,rfl⟩,ha⟩:=ha u hq
  refine⟨_,⟨t,rfl⟩,?_⟩
  unfold qnV qnW at ha
  unfold qbA at ha
  simp only[Int.natCast_zero] at ha
  unfold qfQ qnX
  simp -implicitDefEqProofs only[ev_,aOp,opd,qaa,qas,qax,qa7,qaw,qad,qab,qag,qaL,qaM,qai,qbR,qcf,leaf,qaq,gcE,qav,ren,renC,qaZ,qa8,↓reduceIte,reduceCtorEq,Nat.reduceEqDiff,Nat.reduceAdd,Nat.reduceLT,Nat.reduceLeDiff,frz,frzC,qkg,qaV,qah,qao,h1,h2,h3,hbo,ha,hdE,qba,qbb,qal L hp,hp]
 ·intro s _
  have h0:=qaO e.length
  unfold qfQ qnX
  simp -implicitDefEqProofs only[ev_,aOp,opd,qaa,qax,qaw,qab,gcE,qav,ren,renC,qaZ,qa8,↓reduceIte,Nat.reduceEqDiff,h0,hdE,qba,qbb]
def qhP (e:List CExpr) (ps:List Int):Bool :=
 match qbv qcY ps 0 [] with
 | .error _=>true
 | .ok s=>(match qbv qij e 0 s with | .error _=>true | .ok _=>false)
theorem qvo (h232:L.fns 232=some fn232) (h195:L.fns 195=some fn195) (e:List CExpr) (hl:e.length<2 ^ 30) (hf:∀ x∈e,NodeFit x) (hb:∀ x∈e,qtL x) (ps:List Int) (hps:ps.length<2 ^ 30) (h:Heap) :
  pcall L 195 [.list (e.map qam) none,.list (ps.map qau) none] h=some (.val (.bool (qhP e ps)),h):=by
 have hdE:=qaE e
 refine qaW hL h195 rfl ?_ h
 obtain⟨ha,hb1⟩:=qvm (L:=L) (.list (e.map qam) none) (by rw[qaT];exact hdE) ps hps []
 unfold qhP
 cases hq:qbv qcY ps 0 [] with
 | error u =>
   obtain⟨R,⟨s,rfl⟩,hl0⟩:=hb1 u hq
   unfold qnT qnU at hl0
   simp only[Int.natCast_zero,qzB] at hl0
   unfold fn195
   simp -implicitDefEqProofs only[ev_,aOp,opd,qaa,qa7,qan,qac,qae,qaj,qav,ren,renC,qaZ,qa8,↓reduceIte,reduceCtorEq,Nat.reduceEqDiff,Nat.reduceLT,Nat.reduceLeDiff,qak,qah,hl0,hdE,qba,qbb]
 | ok s =>
   obtain⟨_,hl0⟩:=ha s hq
   unfold qnT qnU at hl0
   simp only[Int.natCast_zero,qzB] at hl0
   obtain⟨hc,hd⟩:=qvn hL h232 e hl hf hb s
   dsimp only
   cases hr:qbv qij e 0 s with
   | error u =>
     obtain⟨R,⟨t,rfl⟩,hl2⟩:=hd u hr
     unfold qnX at hl2
     simp only[Int.natCast_zero] at hl2
     unfold fn195
     simp -implicitDefEqProofs only[ev_,aOp,opd,qaa,qa7,qan,qac,qae,qaj,qav,ren,renC,qaZ,qa8,↓reduceIte,reduceCtorEq,Nat.reduceEqDiff,Nat.reduceLT,Nat.reduceLeDiff,qak,qah,hl0,hl2,hdE,qba,qbb]
   | ok t =>
     obtain⟨_,hl2⟩:=hc t hr
     unfold qnX at hl2
     simp only[Int.natCast_zero] at hl2
     unfold fn195
     simp -implicitDefEqProofs only[ev_,aOp,opd,qaa,qa7,qan,qac,qae,qaj,qav,ren,renC,qaZ,qa8,↓reduceIte,reduceCtorEq,Nat.reduceEqDiff,Nat.reduceLT,Nat.reduceLeDiff,qak,qah,hl0,hl2,hdE,qba,qbb]
end
section
theorem qq6:∀ (e:List CExpr) (i j:Nat) (s:IM Unit),qbv qij e i s=qbv qcY (e.flatMap qbA) j s:=by
 have hidx:∀ (ns:List Int) (i j:Nat) (s:IM Unit),qbv qcY ns i s=qbv qcY ns j s:=by
  intro ns
  induction ns with
  | nil=>intros;rfl
  | cons n ns ih =>
    intro i j s
    rw[qbv,qbv]
    have:qcY i s n=qcY j s n:=rfl
    rw[this]
    cases qcY j s n with
    | error u=>rfl
    | ok t=>exact ih _ _ t
 have happ:∀ (ns ms:List Int) (i:Nat) (s:IM Unit),qbv qcY (ns++ms) i s=(match qbv qcY ns i s with | .ok t=>qbv qcY ms 0 t | .error u=>.error u):=by
  intro ns
  induction ns with
  | nil=>intro ms i s;exact hidx ms i 0 s
  | cons n ns ih =>
    intro ms i s
    rw[List.cons_append,qbv,qbv]
    cases qcY i s n with
    | error u=>rfl
    | ok t=>exact ih ms (i+1) t
 intro e
 induction e with
 | nil=>intros;rfl
 | cons x e ih =>
   intro i j s
   rw[List.flatMap_cons,happ,qbv,hidx _ j 0]
   unfold qij
   cases qbv qcY (qbA x) 0 s with
   | error u=>rfl
   | ok t=>exact ih _ 0 t
theorem qka (e:List CExpr):qhP e [] = !decide (e.flatMap qbA).Nodup:=by
 unfold qhP
 have hs:=qvi (e.flatMap qbA) 0 []
 rw[← qq6 e 0 0 []] at hs
 dsimp only[qbv]
 cases hq:qbv qij e 0 [] with
 | error u =>
   have:¬ (e.flatMap qbA).Nodup:=fun h=>hs.1 ⟨u,hq⟩ ⟨h,fun _ _=>rfl⟩
   simp[this]
 | ok t =>
   have:(e.flatMap qbA).Nodup:=by
    refine Classical.byContradiction fun h=>?_
    obtain⟨u,hu⟩:=hs.2 fun hx=>h hx.1
    rw[hq] at hu
    cases hu
   simp[this]
end
structure CPrims (L:Lib) (sortI:List Int→List Int):Prop where
 clone:∀ (l:List Int) (h:Heap),l.length<2 ^ 30→pcall L 188 [.list (l.map qau) none] h=some (.val (.list (l.map qau) none),h)
 sort:∀ (l:List Int),l≠[]→l.length<2 ^ 30→call L 138 [.vec 0 l.length] [.vec (l.map qau) 1]=some (.val (.tuple []),[.vec ((sortI l).map qau) 1])
 sort0:∀ h:Heap,pcall L 138 [.list [] none] h=some (.val (.tuple []),h)
def CTree.none:CTree:=.mk 0 0 [] [] []
def qdp (ts:List CTree) (x:CExpr):List CTree:=ts++[.mk x.op x.n x.binds (x.kids.map fun k=>ts.getD k.toNat .none) x.alts]
def qdg (e:List CExpr):List CTree:=e.foldl qdp []
def qaY (e:List CExpr):CTree:=(qdg e).getD (e.length-1) .none
def qeW (e:List CExpr):Prop:=∀ (i:Nat) (hi:i<e.length),∀ k∈e[i].kids,0≤k∧k<i
theorem qdy (cs:List AVal) (n:Nat):wipeR (.vptr cs n)=.vptr cs n:=rfl
theorem qbt (t:CTree):∃ tc,qap t=.vptr tc 0∧qay tc=true:=by
 have h:=qca t
 cases t
 rw[qbr] at h ⊢
 exact⟨_,rfl,h⟩
section
variable {L:Lib} (hL:Plain L)
def qir (x:CExpr):AObj:=.box [.int .i64 x.op,.int .i64 x.n,.list (x.binds.map qau) none,.list (x.kids.map qau) none,.list (x.alts.map qar) none]
end
section
theorem qh5 (e:List CExpr) (i:Nat) (hi:i<e.length):qdg (e.take (i+1))=qdp (qdg (e.take i)) e[i]:=by
 unfold qdg
 rw[List.take_succ_eq_append_getElem hi,List.foldl_append]
 rfl
theorem qge:∀ (e:List CExpr) (ts:List CTree),(e.foldl qdp ts).length=ts.length+e.length
 | [],ts=>rfl
 | x :: e,ts => by
   rw[List.foldl_cons,qge e]
   simp[qdp]
   omega
theorem qow (e:List CExpr):(qdg e).length=e.length:=by
 unfold qdg
 rw[qge]
 simp
theorem qh7 (e:List CExpr) (i:Nat) (hi:i≤e.length):(qdg (e.take i)).length=i:=by
 rw[qow]
 simp
 omega
end
end Go.Abs
