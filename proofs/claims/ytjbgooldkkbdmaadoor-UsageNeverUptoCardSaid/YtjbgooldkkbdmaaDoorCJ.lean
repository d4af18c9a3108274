/-
  PARTS OF A PROOF, joined: an abstract machine for quiet code, its evaluation, and what the seat's functions answer on it. Conditions: none.
-/
import Derived.Test.YtjbgooldkkbdmaaDoorG
set_option linter.unusedVariables false
set_option linter.unusedSimpArgs false
set_option maxRecDepth 100000
set_option maxHeartbeats 4000000
namespace Go.Abs
abbrev IM (β:Type):=List (Int × β)
section
variable {β:Type} (f:β→AVal)
def qjd (m:IM β):List (AVal × AVal):=m.map fun p=>(.int .i64 p.1,f p.2)
theorem qvb (hf:∀ b,qap (f b)=true) (ρ:Nat→Option Nat) (m:IM β):qdF ρ (.map (qjd f m))=.map (qjd f m):=by
 have h1:∀ v:AVal,qap v=true→ren ρ v=v:=fun v hv=>by unfold ren;rw[if_pos hv]
 unfold qdF qjd
 dsimp only
 rw[List.map_map]
 congr 1
 refine List.map_congr_left fun p _=>?_
 simp only[Function.comp,h1 _ (hf p.2),h1 (.int .i64 p.1) rfl]
theorem quZ (hf:∀ b,qap (f b)=true) (m:IM β):qi9 (.map (qjd f m))=[]:=by
 have h1:∀ v:AVal,qap v=true→qaN v=[]:=fun v hv=>by unfold qaN;rw[if_pos hv]
 unfold qi9 qjd
 dsimp only
 induction m with
 | nil=>rfl
 | cons p m ih =>
   rw[List.map_cons,List.flatMap_cons,h1 _ (hf p.2),h1 (.int .i64 p.1) rfl]
   exact ih
def qbi (v:Int):IM β→Option β
 | []=>none
 | p::m=>if v=p.1 then some p.2 else qbi v m
def qms (v:Int) (b:β) (m:IM β):IM β:=m.map fun p=>if v=p.1 then (v,b) else p
def qkF (v:Int) (b:β):IM β→IM β
 | []=>[(v,b)]
 | p::m=>if v<p.1 then (v,b)::p::m else p::qkF v b m
def qhi (v:Int) (b:β) (m:IM β):IM β:=if (qbi v m).isSome=true then qms v b m else qkF v b m
theorem qgJ {v:Int} {b:β}:∀ {m:IM β} (i:Nat),qbi v m=some b→∃ j,qaM (.int .i64 v) (qjd f m) i=some (some (j,f b))
 | [],i,h=>by cases h
 | p :: m,i,h => by
   unfold qbi at h
   by_cases hv:v=p.1
   ·rw[if_pos hv] at h
    injection h with h
    subst h
    exact⟨i,by simp[qjd,qaM,qci,hv]⟩
   ·rw[if_neg hv] at h
    obtain⟨j,hj⟩:=qgJ (i+1) h
    have hb:(v==p.1)=false:=by simpa using hv
    exact⟨j,by rw[← hj];simp[qjd,qaM,qci,hb]⟩
theorem qgI {v:Int}:∀ {m:IM β} (i:Nat),qbi v m=none→qaM (.int .i64 v) (qjd f m) i=some none
 | [],i,h=>rfl
 | p :: m,i,h => by
   unfold qbi at h
   by_cases hv:v=p.1
   ·rw[if_pos hv] at h
    cases h
   ·rw[if_neg hv] at h
    have hb:(v==p.1)=false:=by simpa using hv
    rw[← qgI (i+1) h]
    simp[qjd,qaM,qci,hb]
theorem qnZ (v:Int) (b:β):∀ m:IM β,quD (.int .i64 v) (f b) (qjd f m)=qjd f (qkF v b m)
 | []=>rfl
 | p :: m => by
   unfold qkF qjd
   rw[List.map_cons,quD]
   simp only[qu2,decide_eq_true_eq]
   by_cases h:v<p.1
   ·rw[if_pos h,if_pos h]
    rfl
   ·rw[if_neg h,if_neg h,List.map_cons]
    exact congrArg _ (qnZ v b m)
theorem qrV (v:Int) (b:β) (m:IM β):qur (.int .i64 v) (f b) (qjd f m)=qjd f (qms v b m):=by
 unfold qur qjd qms
 rw[List.map_map,List.map_map]
 refine List.map_congr_left fun p _=>?_
 simp only[Function.comp,qci,if_true,Option.some.injEq,beq_iff_eq]
 by_cases h:v=p.1
 ·rw[if_pos h,if_pos h]
 ·rw[if_neg h,if_neg h]
theorem qqu (h:Heap) (r:Nat) (zero:AVal) (ok:Bool) (v:Int) (m:IM β) (hr:h[r]? = some (.map (qjd f m))) :
  qgA h .int zero ok (.map (some r)) (.int .i64 v)=some (match qbi v m with | some b=>(if ok=true then .tuple [f b,.bool true] else f b) | none=>(if ok=true then .tuple [zero,.bool false] else zero)):=by
 unfold qgA ql4
 rw[if_pos (show qcj .int (.int .i64 v)=true from rfl)]
 dsimp only
 rw[hr]
 dsimp only
 cases hq:qbi v m with
 | some b =>
   obtain⟨j,hj⟩:=qgJ f 0 hq
   rw[hj]
 | none=>rw[qgI f 0 hq]
theorem qvv (h:Heap) (r:Nat) (v:Int) (b:β) (m:IM β) (hw:wipe (f b)=f b) (hr:h[r]? = some (.map (qjd f m))) :
  qc3 h .int (.map (some r)) (.int .i64 v) (f b)=some (h.set r (.map (qjd f (qhi v b m)))):=by
 unfold qc3 qhi
 dsimp only
 rw[hr]
 dsimp only
 rw[if_pos (show qcj .int (.int .i64 v)=true from rfl),hw]
 cases hq:qbi v m with
 | some c =>
   obtain⟨j,hj⟩:=qgJ f 0 hq
   rw[hj]
   simp only[Option.isSome_some,if_true,qrV]
 | none =>
   rw[qgI f 0 hq]
   simp only[Option.isSome_none,Bool.false_eq_true,if_false,qnZ]
theorem qlB (v w:Int) (b:β):∀ m:IM β,qbi w m=none→qbi v (qkF w b m)=if v=w then some b else qbi v m
 | [],_=>by simp[qkF,qbi]
 | p :: m,h => by
   unfold qbi at h
   have hw:¬ w=p.1:=by
    intro e
    rw[if_pos e] at h
    cases h
   rw[if_neg hw] at h
   have ih:=qlB v w b m h
   unfold qkF
   by_cases hlt:w<p.1
   ·rw[if_pos hlt]
    simp only[qbi]
   ·rw[if_neg hlt]
    simp only[qbi]
    rw[ih]
    by_cases h1:v=p.1
    ·have:¬ v=w:=by omega
     rw[if_pos h1,if_neg this,if_pos h1]
    ·rw[if_neg h1,if_neg h1]
theorem qij (v w:Int) (b:β):∀ m:IM β,(qbi w m).isSome=true→qbi v (qms w b m)=if v=w then some b else qbi v m
 | [],h=>by cases h
 | p :: m,h => by
   unfold qms
   rw[List.map_cons]
   by_cases hw:w=p.1
   ·rw[if_pos hw]
    simp only[qbi]
    by_cases hv:v=w
    ·rw[if_pos hv,if_pos hv]
    ·rw[if_neg hv,if_neg hv,if_neg (by omega)]
     by_cases hs:(qbi w m).isSome=true
     ·have:=qij v w b m hs
      unfold qms at this
      rw[this,if_neg hv]
     ·have:m.map (fun p=>if w=p.1 then (w,b) else p)=m:=by
       have hn:∀ q∈m,¬ w=q.1:=by
        clear h
        induction m with
        | nil=>simp
        | cons q m ih =>
          intro x hx
          unfold qbi at hs
          by_cases hq:w=q.1
          ·rw[if_pos hq] at hs;exact absurd rfl hs
          ·rw[if_neg hq] at hs
           rcases List.mem_cons.1 hx with rfl | hx
           ·exact hq
           ·exact ih hs x hx
       have h2:m.map (fun p=>if w=p.1 then (w,b) else p)=m.map id:=List.map_congr_left fun q hq=>if_neg (hn q hq)
       rw[h2,List.map_id]
      rw[this]
   ·rw[if_neg hw]
    unfold qbi at h
    rw[if_neg hw] at h
    have:=qij v w b m h
    unfold qms at this
    simp only[qbi]
    rw[this]
    by_cases h1:v=p.1
    ·rw[if_pos h1,if_neg (by omega),if_pos h1]
    ·rw[if_neg h1,if_neg h1]
theorem qde (v w:Int) (b:β) (m:IM β):qbi v (qhi w b m)=if v=w then some b else qbi v m:=by
 unfold qhi
 by_cases h:(qbi w m).isSome=true
 ·rw[if_pos h,qij v w b m h]
 ·rw[if_neg h,qlB v w b m (by simpa using h)]
end
abbrev encU:IM Unit→List (AVal × AVal):=qjd fun _=>.agg []
def qcI (_:Nat) (s:IM Unit) (n:Int):Except Unit (IM Unit):=if (qbi n s).isSome=true then .error () else .ok (qhi n () s)
theorem qsC (ns:List Int):∀ (i:Nat) (s:IM Unit),(∃ u,qbb qcI ns i s=.error u)↔¬ (ns.Nodup∧∀ n∈ns,qbi n s=none):=by
 induction ns with
 | nil=>intro i s;simp[qbb]
 | cons n ns ih =>
   intro i s
   rw[qbb]
   unfold qcI
   by_cases h:(qbi n s).isSome=true
   ·rw[if_pos h]
    simp only[List.forall_mem_cons]
    constructor
    ·intro _ hx
     rw[hx.2.1] at h
     cases h
    ·intro _;simp
   ·rw[if_neg h]
    dsimp only
    have h':qbi n s=none:=by simpa using h
    have:=ih (i+1) (qhi n () s)
    unfold qcI at this
    rw[this]
    simp only[qde,List.nodup_cons,List.forall_mem_cons]
    apply not_congr
    constructor
    ·rintro ⟨h1,h2⟩
     refine⟨⟨?_,h1⟩,h',?_⟩
     ·intro hm
      have:=h2 n hm
      rw[if_pos rfl] at this
      cases this
     ·intro m hm
      have:=h2 m hm
      by_cases e:m=n
      ·rw[if_pos e] at this;cases this
      ·rwa [if_neg e] at this
    ·rintro ⟨⟨h1,h2⟩,_,h4⟩
     refine⟨h2,fun m hm=>?_⟩
     rw[if_neg (fun e:m=n=>h1 (e ▸ hm))]
     exact h4 m hm
theorem qaT (s:IM Unit):qi9 (.map (encU s))=[]:=quZ _ (fun _=>rfl) s
theorem qaU (ρ:Nat→Option Nat) (s:IM Unit):qdF ρ (.map (encU s))=.map (encU s):=qvb _ (fun _=>rfl) ρ s
section
variable {L:Lib} (hL:Plain L)
def qmH (E:AVal) (s:IM Unit) (ns:List Int) (j:Nat):St:=⟨kt [0,5,18,19,20] [E,.map (some 0),.list (ns.map qat) none,.int .i64 ns.length,.int .i64 j],[.map (encU s)]⟩
def qmI (E:AVal) (v:AVal) (s:IM Unit):St:=⟨kt [0,4,5] [E,v,.map (some 0)],[.map (encU s)]⟩
theorem qsF (E:AVal) (hE:qap E=true) (ns:List Int) (hl:ns.length<2 ^ 30) (s0:IM Unit) :
  (∀ s,qbb qcI ns 0 s0=.ok s→True∧qbd L.pure (call L) 1 [0,5,18,19,20] [0,4,5] 0 qfe (qmH E s0 ns 0)=some (.normal,qmI E .junk s)) ∧
  (∀ u,qbb qcI ns 0 s0=.error u→∃ R,(∃ s,R=qmI E (.bool true) s)∧qbd L.pure (call L) 1 [0,5,18,19,20] [0,4,5] 0 qfe (qmH E s0 ns 0)=some (.ret,R)):=by
 refine qb2 ns qcI (fun s j=>qmH E s ns j) (qmI E .junk) (fun _ R=>∃ s,R=qmI E (.bool true) s) (fun _ _=>True) s0 trivial ?_ ?_ ?_
 ·intro i hi s s' _ hq
  obtain⟨h1,h2,h3⟩:=qaV qat ns hl i hi
  refine⟨?_,trivial⟩
  unfold qcI at hq
  split at hq
  ·cases hq
  ·rename_i hn
   injection hq with hq
   subst hq
   generalize ns[i]=n at *
   have hf:qbi n s=none:=by simpa using hn
   have hlk:=fun (h:Heap) (hr:h[0]? = some (.map (encU s)))=>qqu (fun _:Unit=>AVal.agg []) h 0 (.agg []) true n s hr
   have hup:=fun (h:Heap) (hr:h[0]? = some (.map (encU s)))=>qvv (fun _:Unit=>AVal.agg []) h 0 n () s rfl hr
   rw[hf] at hlk
   unfold qfe qmH
   simp -implicitDefEqProofs only[ev_,aOp,opd,qaa,qau,qaC,qaB,qae,qab,qah,qaQ,qcD,qas,qan,ren,renC,qaN,qa3,↓reduceIte,reduceCtorEq,Nat.reduceEqDiff,Nat.reduceAdd,Nat.reduceLT,Nat.reduceLeDiff,qa7,qac,h1,h2,h3,hlk,hup,hE,qaT,qaU]
 ·intro i hi s u _ hq
  obtain⟨h1,h2,h3⟩:=qaV qat ns hl i hi
  refine⟨_,⟨s,rfl⟩,?_⟩
  unfold qcI at hq
  split at hq
  ·rename_i hn
   generalize ns[i]=n at *
   obtain⟨x,hf⟩:=Option.isSome_iff_exists.1 hn
   have hlk:=fun (h:Heap) (hr:h[0]? = some (.map (encU s)))=>qqu (fun _:Unit=>AVal.agg []) h 0 (.agg []) true n s hr
   rw[hf] at hlk
   unfold qfe qmH qmI
   simp -implicitDefEqProofs only[ev_,aOp,opd,qaa,qau,qaC,qaB,qae,qab,qah,qaQ,qas,gcE,qan,ren,renC,qaN,qa3,↓reduceIte,reduceCtorEq,Nat.reduceEqDiff,Nat.reduceAdd,Nat.reduceLT,Nat.reduceLeDiff,qa7,h1,h2,h3,hlk,hE,qaT,qaU]
  ·cases hq
 ·intro s _
  have h0:=qa0 ns.length
  unfold qfe qmH qmI
  simp -implicitDefEqProofs only[ev_,aOp,opd,qaa,qaC,qaB,qab,gcE,qan,ren,renC,qaN,qa3,↓reduceIte,reduceCtorEq,Nat.reduceEqDiff,Nat.reduceLT,Nat.reduceLeDiff,h0,hE,qaT,qaU]
def qaz (x:CExpr):List Int:=qbY x.op x.binds x.alts
def qrt (x:CExpr):Prop:=(x.binds++x.alts.flatMap (·.binds)).length<2 ^ 30
def qmJ (e:List CExpr) (x:CExpr) (i:Nat) (ns:List Int) (s:IM Unit) (j:Nat):St:=⟨kt [5,35,36,37,50,51,52] [.map (some 0),.list (e.map qal) none,.int .i64 e.length,.int .i64 i,.list (ns.map qat) none,.int .i64 ns.length,.int .i64 j],
 [.map (encU s),.box [.int .i64 x.op,.int .i64 x.n,.list (x.binds.map qat) none,.list (x.kids.map qat) none,.list (x.alts.map qao) none],.gone]⟩
def qmK (e:List CExpr) (x:CExpr) (i:Nat) (v:AVal) (s:IM Unit):St:=⟨kt [4,5,35,36,37] [v,.map (some 0),.list (e.map qal) none,.int .i64 e.length,.int .i64 i],
 [.map (encU s),.box [.int .i64 x.op,.int .i64 x.n,.list (x.binds.map qat) none,.list (x.kids.map qat) none,.list (x.alts.map qao) none],.gone]⟩
theorem qox (e:List CExpr) (x:CExpr) (i:Nat) (ns:List Int) (hl:ns.length<2 ^ 30) (s0:IM Unit) :
  (∀ s,qbb qcI ns 0 s0=.ok s→True∧qbd L.pure (call L) 3 [5,35,36,37,50,51,52] [4,5,35,36,37] 4 qff (qmJ e x i ns s0 0)=some (.normal,qmK e x i .junk s)) ∧
  (∀ u,qbb qcI ns 0 s0=.error u→∃ R,(∃ s,R=qmK e x i (.bool true) s)∧qbd L.pure (call L) 3 [5,35,36,37,50,51,52] [4,5,35,36,37] 4 qff (qmJ e x i ns s0 0)=some (.ret,R)):=by
 have hdE:=qaW e
 refine qb2 ns qcI (fun s j=>qmJ e x i ns s j) (qmK e x i .junk) (fun _ R=>∃ s,R=qmK e x i (.bool true) s) (fun _ _=>True) s0 trivial ?_ ?_ ?_
 ·intro j hj s s' _ hq
  obtain⟨h1,h2,h3⟩:=qaV qat ns hl j hj
  refine⟨?_,trivial⟩
  unfold qcI at hq
  split at hq
  ·cases hq
  ·rename_i hn
   injection hq with hq
   subst hq
   generalize ns[j]=n at *
   have hf:qbi n s=none:=by simpa using hn
   have hlk:=fun (h:Heap) (hr:h[0]? = some (.map (encU s)))=>qqu (fun _:Unit=>AVal.agg []) h 0 (.agg []) true n s hr
   have hup:=fun (h:Heap) (hr:h[0]? = some (.map (encU s)))=>qvv (fun _:Unit=>AVal.agg []) h 0 n () s rfl hr
   rw[hf] at hlk
   unfold qff qmJ
   simp -implicitDefEqProofs only[ev_,aOp,opd,qaa,qau,qaC,qaB,qae,qab,qah,qaQ,qcD,qas,qan,ren,renC,qaN,qa3,↓reduceIte,Nat.reduceEqDiff,Nat.reduceAdd,Nat.reduceLT,Nat.reduceLeDiff,qa7,qac,qaf,h1,h2,h3,hlk,hup,hdE,qaT,qaU]
 ·intro j hj s u _ hq
  obtain⟨h1,h2,h3⟩:=qaV qat ns hl j hj
  refine⟨_,⟨s,rfl⟩,?_⟩
  unfold qcI at hq
  split at hq
  ·rename_i hn
   generalize ns[j]=n at *
   obtain⟨y,hf⟩:=Option.isSome_iff_exists.1 hn
   have hlk:=fun (h:Heap) (hr:h[0]? = some (.map (encU s)))=>qqu (fun _:Unit=>AVal.agg []) h 0 (.agg []) true n s hr
   rw[hf] at hlk
   unfold qff qmJ qmK
   simp -implicitDefEqProofs only[ev_,aOp,opd,qaa,qau,qaC,qaB,qae,qab,qah,qaQ,qas,gcE,qan,ren,renC,qaN,qa3,↓reduceIte,Nat.reduceEqDiff,Nat.reduceAdd,Nat.reduceLT,Nat.reduceLeDiff,qa7,qac,qaf,h1,h2,h3,hlk,hdE,qaT,qaU]
  ·cases hq
 ·intro s _
  have h0:=qa0 ns.length
  unfold qff qmJ qmK
  simp -implicitDefEqProofs only[ev_,aOp,opd,qaa,qaC,qaB,qab,gcE,qan,ren,renC,qaN,qa3,↓reduceIte,Nat.reduceEqDiff,Nat.reduceAdd,Nat.reduceLT,Nat.reduceLeDiff,qac,qaf,h0,hdE,qaT,qaU]
theorem qnm (op:Int) (binds:List Int) (as:List CAlt):(qbY op binds as).length≤(binds++as.flatMap (·.binds)).length:=by
 unfold qbY
 rw[List.length_append,List.length_append]
 split<;>simp
theorem qvT:encU []=[]:=rfl
include hL
def qmL (e:List CExpr) (s:IM Unit) (i:Nat):St:=⟨kt [5,35,36,37] [.map (some 0),.list (e.map qal) none,.int .i64 e.length,.int .i64 i],[.map (encU s)]⟩
def qhp (_:Nat) (s:IM Unit) (x:CExpr):Except Unit (IM Unit):=qbb qcI (qaz x) 0 s
theorem qsG (h232:L.fns 232=some fn232) (e:List CExpr) (hl:e.length<2 ^ 30) (hf:∀ x∈e,NodeFit x) (hb:∀ x∈e,qrt x) (s0:IM Unit) :
  (∀ s,qbb qhp e 0 s0=.ok s→True∧qbd L.pure (call L) 1 [5,35,36,37] [4] 2 qfg (qmL e s0 0)=some (.normal,⟨kt [4] [.junk],[.map (encU s)]⟩)) ∧
  (∀ u,qbb qhp e 0 s0=.error u→∃ R,(∃ s:IM Unit,R=⟨kt [4] [.bool true],[.map (encU s)]⟩)∧qbd L.pure (call L) 1 [5,35,36,37] [4] 2 qfg (qmL e s0 0)=some (.ret,R)):=by
 have hp:=hL.pure
 have hdE:=qaW e
 refine qb2 e qhp (qmL e) (fun s=>⟨kt [4] [.junk],[.map (encU s)]⟩) (fun _ R=>∃ s:IM Unit,R=⟨kt [4] [.bool true],[.map (encU s)]⟩) (fun _ _=>True) s0 trivial ?_ ?_ ?_
 ·intro i hi s s' _ hq
  obtain⟨h1,h2,h3⟩:=qaV qal e hl i hi
  refine⟨?_,trivial⟩
  have hx:=hf e[i] (List.getElem_mem hi)
  have hbx:=hb e[i] (List.getElem_mem hi)
  generalize e[i]=x at *
  unfold qrt at hbx
  have hbo:=qjz hL h232 x.op 0 x.binds (.list [] none) rfl x.alts hx.alts (by omega)
  have hle:=qnm x.op x.binds x.alts
  obtain⟨ha,_⟩:=qox (L:=L) e x i (qaz x) (by unfold qaz;omega) s
  obtain⟨_,ha⟩:=ha s' hq
  unfold qmJ qmK at ha
  unfold qaz at ha
  simp only[Int.natCast_zero] at ha
  unfold qfg qmL
  simp -implicitDefEqProofs only[ev_,aOp,opd,qaa,qau,qaC,qbu,qaB,qae,qab,qah,qaQ,qaH,qak,qcD,qcU,leaf,qas,qan,ren,renC,qaN,qa3,↓reduceIte,reduceCtorEq,Nat.reduceEqDiff,Nat.reduceAdd,Nat.reduceLT,Nat.reduceLeDiff,frz,frzC,qhH,qaL,qac,qaf,h1,h2,h3,hbo,ha,hdE,qaT,qaU,qar L hp,hp]
 ·intro i hi s u _ hq
  obtain⟨h1,h2,h3⟩:=qaV qal e hl i hi
  have hx:=hf e[i] (List.getElem_mem hi)
  have hbx:=hb e[i] (List.getElem_mem hi)
  generalize e[i]=x at *
  unfold qrt at hbx
  have hbo:=qjz hL h232 x.op 0 x.binds (.list [] none) rfl x.alts hx.alts (by omega)
  have hle:=qnm x.op x.binds x.alts
  obtain⟨_,ha⟩:=qox (L:=L) e x i (qaz x) (by unfold qaz;omega) s
  obtain⟨R,⟨t,rfl⟩,ha⟩:=ha u hq
  refine⟨_,⟨t,rfl⟩,?_⟩
  unfold qmJ qmK at ha
  unfold qaz at ha
  simp only[Int.natCast_zero] at ha
  unfold qfg qmL
  simp -implicitDefEqProofs only[ev_,aOp,opd,qaa,qau,qaC,qbu,qaB,qae,qab,qah,qaQ,qaH,qak,qcD,qcU,leaf,qas,gcE,qan,ren,renC,qaN,qa3,↓reduceIte,reduceCtorEq,Nat.reduceEqDiff,Nat.reduceAdd,Nat.reduceLT,Nat.reduceLeDiff,frz,frzC,qhH,qaL,qac,qaf,h1,h2,h3,hbo,ha,hdE,qaT,qaU,qar L hp,hp]
 ·intro s _
  have h0:=qa0 e.length
  unfold qfg qmL
  simp -implicitDefEqProofs only[ev_,aOp,opd,qaa,qaC,qaB,qab,gcE,qan,ren,renC,qaN,qa3,↓reduceIte,Nat.reduceEqDiff,h0,hdE,qaT,qaU]
def qgZ (e:List CExpr) (ps:List Int):Bool :=
 match qbb qcI ps 0 [] with
 | .error _=>true
 | .ok s=>(match qbb qhp e 0 s with | .error _=>true | .ok _=>false)
theorem qsH (h232:L.fns 232=some fn232) (h195:L.fns 195=some fn195) (e:List CExpr) (hl:e.length<2 ^ 30) (hf:∀ x∈e,NodeFit x) (hb:∀ x∈e,qrt x) (ps:List Int) (hps:ps.length<2 ^ 30) (h:Heap) :
  pcall L 195 [.list (e.map qal) none,.list (ps.map qat) none] h=some (.val (.bool (qgZ e ps)),h):=by
 have hdE:=qaW e
 refine qa5 hL h195 rfl ?_ h
 obtain⟨ha,hb1⟩:=qsF (L:=L) (.list (e.map qal) none) (by rw[qa8];exact hdE) ps hps []
 unfold qgZ
 cases hq:qbb qcI ps 0 [] with
 | error u =>
   obtain⟨R,⟨s,rfl⟩,hl0⟩:=hb1 u hq
   unfold qmH qmI at hl0
   simp only[Int.natCast_zero,qvT] at hl0
   unfold fn195
   simp -implicitDefEqProofs only[ev_,aOp,opd,qaa,qbu,qaw,qad,qai,qam,qan,ren,renC,qaN,qa3,↓reduceIte,reduceCtorEq,Nat.reduceEqDiff,Nat.reduceLT,Nat.reduceLeDiff,qaj,qac,hl0,hdE,qaT,qaU]
 | ok s =>
   obtain⟨_,hl0⟩:=ha s hq
   unfold qmH qmI at hl0
   simp only[Int.natCast_zero,qvT] at hl0
   obtain⟨hc,hd⟩:=qsG hL h232 e hl hf hb s
   dsimp only
   cases hr:qbb qhp e 0 s with
   | error u =>
     obtain⟨R,⟨t,rfl⟩,hl2⟩:=hd u hr
     unfold qmL at hl2
     simp only[Int.natCast_zero] at hl2
     unfold fn195
     simp -implicitDefEqProofs only[ev_,aOp,opd,qaa,qbu,qaw,qad,qai,qam,qan,ren,renC,qaN,qa3,↓reduceIte,reduceCtorEq,Nat.reduceEqDiff,Nat.reduceLT,Nat.reduceLeDiff,qaj,qac,hl0,hl2,hdE,qaT,qaU]
   | ok t =>
     obtain⟨_,hl2⟩:=hc t hr
     unfold qmL at hl2
     simp only[Int.natCast_zero] at hl2
     unfold fn195
     simp -implicitDefEqProofs only[ev_,aOp,opd,qaa,qbu,qaw,qad,qai,qam,qan,ren,renC,qaN,qa3,↓reduceIte,reduceCtorEq,Nat.reduceEqDiff,Nat.reduceLT,Nat.reduceLeDiff,qaj,qac,hl0,hl2,hdE,qaT,qaU]
end
section
theorem qpq:∀ (e:List CExpr) (i j:Nat) (s:IM Unit),qbb qhp e i s=qbb qcI (e.flatMap qaz) j s:=by
 have hidx:∀ (ns:List Int) (i j:Nat) (s:IM Unit),qbb qcI ns i s=qbb qcI ns j s:=by
  intro ns
  induction ns with
  | nil=>intros;rfl
  | cons n ns ih =>
    intro i j s
    rw[qbb,qbb]
    have:qcI i s n=qcI j s n:=rfl
    rw[this]
    cases qcI j s n with
    | error u=>rfl
    | ok t=>exact ih _ _ t
 have happ:∀ (ns ms:List Int) (i:Nat) (s:IM Unit),qbb qcI (ns++ms) i s=(match qbb qcI ns i s with | .ok t=>qbb qcI ms 0 t | .error u=>.error u):=by
  intro ns
  induction ns with
  | nil=>intro ms i s;exact hidx ms i 0 s
  | cons n ns ih =>
    intro ms i s
    rw[List.cons_append,qbb,qbb]
    cases qcI i s n with
    | error u=>rfl
    | ok t=>exact ih ms (i+1) t
 intro e
 induction e with
 | nil=>intros;rfl
 | cons x e ih =>
   intro i j s
   rw[List.flatMap_cons,happ,qbb,hidx _ j 0]
   unfold qhp
   cases qbb qcI (qaz x) 0 s with
   | error u=>rfl
   | ok t=>exact ih _ 0 t
theorem qnz (e:List CExpr):qgZ e [] = !decide (e.flatMap qaz).Nodup:=by
 unfold qgZ
 have hs:=qsC (e.flatMap qaz) 0 []
 rw[← qpq e 0 0 []] at hs
 dsimp only[qbb]
 cases hq:qbb qhp e 0 [] with
 | error u =>
   have:¬ (e.flatMap qaz).Nodup:=fun h=>hs.1 ⟨u,hq⟩ ⟨h,fun _ _=>rfl⟩
   simp[this]
 | ok t =>
   have:(e.flatMap qaz).Nodup:=by
    refine Classical.byContradiction fun h=>?_
    obtain⟨u,hu⟩:=hs.2 fun hx=>h hx.1
    rw[hq] at hu
    cases hu
   simp[this]
end
structure CPrims (L:Lib) (sortI:List Int→List Int):Prop where
 clone:∀ (l:List Int) (h:Heap),l.length<2 ^ 30→pcall L 188 [.list (l.map qat) none] h=some (.val (.list (l.map qat) none),h)
 sort:∀ (l:List Int),l≠[]→l.length<2 ^ 30→call L 138 [.vec 0 l.length] [.vec (l.map qat) 1]=some (.val (.tuple []),[.vec ((sortI l).map qat) 1])
 sort0:∀ h:Heap,pcall L 138 [.list [] none] h=some (.val (.tuple []),h)
def CTree.none:CTree:=.mk 0 0 [] [] []
def qfk (ts:List CTree) (x:CExpr):List CTree:=ts++[.mk x.op x.n x.binds (x.kids.map fun k=>ts.getD k.toNat .none) x.alts]
def qdg (e:List CExpr):List CTree:=e.foldl qfk []
def qbO (e:List CExpr):CTree:=(qdg e).getD (e.length-1) .none
def qhr (e:List CExpr):Prop:=∀ (i:Nat) (hi:i<e.length),∀ k∈e[i].kids,0≤k∧k<i
theorem qkm (cs:List AVal) (n:Nat):wipeR (.vptr cs n)=.vptr cs n:=rfl
theorem qds (t:CTree):∃ tc,qay t=.vptr tc 0∧qaq tc=true:=by
 have h:=qdd t
 cases t
 rw[qba] at h ⊢
 exact⟨_,rfl,h⟩
section
variable {L:Lib} (hL:Plain L)
def qmS (x:CExpr):AObj:=.box [.int .i64 x.op,.int .i64 x.n,.list (x.binds.map qat) none,.list (x.kids.map qat) none,.list (x.alts.map qao) none]
end
section
theorem qhb (e:List CExpr) (i:Nat) (hi:i<e.length):qdg (e.take (i+1))=qfk (qdg (e.take i)) e[i]:=by
 unfold qdg
 rw[List.take_succ_eq_append_getElem hi,List.foldl_append]
 rfl
theorem qfz:∀ (e:List CExpr) (ts:List CTree),(e.foldl qfk ts).length=ts.length+e.length
 | [],ts=>rfl
 | x :: e,ts => by
   rw[List.foldl_cons,qfz e]
   simp[qfk]
   omega
theorem qnd (e:List CExpr):(qdg e).length=e.length:=by
 unfold qdg
 rw[qfz]
 simp
theorem qhd (e:List CExpr) (i:Nat) (hi:i≤e.length):(qdg (e.take i)).length=i:=by
 rw[qnd]
 simp
 omega
end
end Go.Abs
