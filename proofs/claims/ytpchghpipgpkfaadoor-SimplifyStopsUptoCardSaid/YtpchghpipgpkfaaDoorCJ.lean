/-
  PARTS OF A PROOF, joined: an abstract machine for quiet code, its evaluation, and what the seat's functions answer on it. Conditions: none.
-/
import Derived.Test.YtpchghpipgpkfaaDoorG
set_option linter.unusedVariables false
set_option linter.unusedSimpArgs false
set_option maxRecDepth 100000
set_option maxHeartbeats 4000000
namespace Go.Abs
abbrev IM (β:Type):=List (Int × β)
section
variable {β:Type} (f:β→AVal)
def qkh (m:IM β):List (AVal × AVal):=m.map fun p=>(.int .i64 p.1,f p.2)
theorem qyD (hf:∀ b,qay (f b)=true) (ρ:Nat→Option Nat) (m:IM β):qeo ρ (.map (qkh f m))=.map (qkh f m):=by
 have h1:∀ v:AVal,qay v=true→ren ρ v=v:=fun v hv=>by unfold ren;rw[if_pos hv]
 unfold qeo qkh
 dsimp only
 rw[List.map_map]
 congr 1
 refine List.map_congr_left fun p _=>?_
 simp only[Function.comp,h1 _ (hf p.2),h1 (.int .i64 p.1) rfl]
theorem qyq (hf:∀ b,qay (f b)=true) (m:IM β):qnR (.map (qkh f m))=[]:=by
 have h1:∀ v:AVal,qay v=true→qa8 v=[]:=fun v hv=>by unfold qa8;rw[if_pos hv]
 unfold qnR qkh
 dsimp only
 induction m with
 | nil=>rfl
 | cons p m ih =>
   rw[List.map_cons,List.flatMap_cons,h1 _ (hf p.2),h1 (.int .i64 p.1) rfl]
   exact ih
def qbK (v:Int):IM β→Option β
 | []=>none
 | p::m=>if v=p.1 then some p.2 else qbK v m
def qnq (v:Int) (b:β) (m:IM β):IM β:=m.map fun p=>if v=p.1 then (v,b) else p
def qlH (v:Int) (b:β):IM β→IM β
 | []=>[(v,b)]
 | p::m=>if v<p.1 then (v,b)::p::m else p::qlH v b m
def qoA (v:Int) (b:β) (m:IM β):IM β:=if (qbK v m).isSome=true then qnq v b m else qlH v b m
theorem qhv {v:Int} {b:β}:∀ {m:IM β} (i:Nat),qbK v m=some b→∃ j,qaW (.int .i64 v) (qkh f m) i=some (some (j,f b))
 | [],i,h=>by cases h
 | p :: m,i,h => by
   unfold qbK at h
   by_cases hv:v=p.1
   ·rw[if_pos hv] at h
    injection h with h
    subst h
    exact⟨i,by simp[qkh,qaW,qcs,hv]⟩
   ·rw[if_neg hv] at h
    obtain⟨j,hj⟩:=qhv (i+1) h
    have hb:(v==p.1)=false:=by simpa using hv
    exact⟨j,by rw[← hj];simp[qkh,qaW,qcs,hb]⟩
theorem qhu {v:Int}:∀ {m:IM β} (i:Nat),qbK v m=none→qaW (.int .i64 v) (qkh f m) i=some none
 | [],i,h=>rfl
 | p :: m,i,h => by
   unfold qbK at h
   by_cases hv:v=p.1
   ·rw[if_pos hv] at h
    cases h
   ·rw[if_neg hv] at h
    have hb:(v==p.1)=false:=by simpa using hv
    rw[← qhu (i+1) h]
    simp[qkh,qaW,qcs,hb]
theorem qpc (v:Int) (b:β):∀ m:IM β,qx6 (.int .i64 v) (f b) (qkh f m)=qkh f (qlH v b m)
 | []=>rfl
 | p :: m => by
   unfold qlH qkh
   rw[List.map_cons,qx6]
   simp only[qys,decide_eq_true_eq]
   by_cases h:v<p.1
   ·rw[if_pos h,if_pos h]
    rfl
   ·rw[if_neg h,if_neg h,List.map_cons]
    exact congrArg _ (qpc v b m)
theorem qtW (v:Int) (b:β) (m:IM β):qxS (.int .i64 v) (f b) (qkh f m)=qkh f (qnq v b m):=by
 unfold qxS qkh qnq
 rw[List.map_map,List.map_map]
 refine List.map_congr_left fun p _=>?_
 simp only[Function.comp,qcs,if_true,Option.some.injEq,beq_iff_eq]
 by_cases h:v=p.1
 ·rw[if_pos h,if_pos h]
 ·rw[if_neg h,if_neg h]
theorem qsh (h:Heap) (r:Nat) (zero:AVal) (ok:Bool) (v:Int) (m:IM β) (hr:h[r]? = some (.map (qkh f m))) :
  qhm h .int zero ok (.map (some r)) (.int .i64 v)=some (match qbK v m with | some b=>(if ok=true then .tuple [f b,.bool true] else f b) | none=>(if ok=true then .tuple [zero,.bool false] else zero)):=by
 unfold qhm qm2
 rw[if_pos (show qct .int (.int .i64 v)=true from rfl)]
 dsimp only
 rw[hr]
 dsimp only
 cases hq:qbK v m with
 | some b =>
   obtain⟨j,hj⟩:=qhv f 0 hq
   rw[hj]
 | none=>rw[qhu f 0 hq]
theorem qyW (h:Heap) (r:Nat) (v:Int) (b:β) (m:IM β) (hw:wipe (f b)=f b) (hr:h[r]? = some (.map (qkh f m))) :
  qdu h .int (.map (some r)) (.int .i64 v) (f b)=some (h.set r (.map (qkh f (qoA v b m)))):=by
 unfold qdu qoA
 dsimp only
 rw[hr]
 dsimp only
 rw[if_pos (show qct .int (.int .i64 v)=true from rfl),hw]
 cases hq:qbK v m with
 | some c =>
   obtain⟨j,hj⟩:=qhv f 0 hq
   rw[hj]
   simp only[Option.isSome_some,if_true,qtW]
 | none =>
   rw[qhu f 0 hq]
   simp only[Option.isSome_none,Bool.false_eq_true,if_false,qpc]
theorem qmx (v w:Int) (b:β):∀ m:IM β,qbK w m=none→qbK v (qlH w b m)=if v=w then some b else qbK v m
 | [],_=>by simp[qlH,qbK]
 | p :: m,h => by
   unfold qbK at h
   have hw:¬ w=p.1:=by
    intro e
    rw[if_pos e] at h
    cases h
   rw[if_neg hw] at h
   have ih:=qmx v w b m h
   unfold qlH
   by_cases hlt:w<p.1
   ·rw[if_pos hlt]
    simp only[qbK]
   ·rw[if_neg hlt]
    simp only[qbK]
    rw[ih]
    by_cases h1:v=p.1
    ·have:¬ v=w:=by omega
     rw[if_pos h1,if_neg this,if_pos h1]
    ·rw[if_neg h1,if_neg h1]
theorem qjl (v w:Int) (b:β):∀ m:IM β,(qbK w m).isSome=true→qbK v (qnq w b m)=if v=w then some b else qbK v m
 | [],h=>by cases h
 | p :: m,h => by
   unfold qnq
   rw[List.map_cons]
   by_cases hw:w=p.1
   ·rw[if_pos hw]
    simp only[qbK]
    by_cases hv:v=w
    ·rw[if_pos hv,if_pos hv]
    ·rw[if_neg hv,if_neg hv,if_neg (by omega)]
     by_cases hs:(qbK w m).isSome=true
     ·have:=qjl v w b m hs
      unfold qnq at this
      rw[this,if_neg hv]
     ·have:m.map (fun p=>if w=p.1 then (w,b) else p)=m:=by
       have hn:∀ q∈m,¬ w=q.1:=by
        clear h
        induction m with
        | nil=>simp
        | cons q m ih =>
          intro x hx
          unfold qbK at hs
          by_cases hq:w=q.1
          ·rw[if_pos hq] at hs;exact absurd rfl hs
          ·rw[if_neg hq] at hs
           rcases List.mem_cons.1 hx with rfl | hx
           ·exact hq
           ·exact ih hs x hx
       have h2:m.map (fun p=>if w=p.1 then (w,b) else p)=m.map id:=List.map_congr_left fun q hq=>if_neg (hn q hq)
       rw[h2,List.map_id]
      rw[this]
   ·rw[if_neg hw]
    unfold qbK at h
    rw[if_neg hw] at h
    have:=qjl v w b m h
    unfold qnq at this
    simp only[qbK]
    rw[this]
    by_cases h1:v=p.1
    ·rw[if_pos h1,if_neg (by omega),if_pos h1]
    ·rw[if_neg h1,if_neg h1]
theorem qgQ (v w:Int) (b:β) (m:IM β):qbK v (qoA w b m)=if v=w then some b else qbK v m:=by
 unfold qoA
 by_cases h:(qbK w m).isSome=true
 ·rw[if_pos h,qjl v w b m h]
 ·rw[if_neg h,qmx v w b m (by simpa using h)]
end
abbrev encU:IM Unit→List (AVal × AVal):=qkh fun _=>.agg []
def qcY (_:Nat) (s:IM Unit) (n:Int):Except Unit (IM Unit):=if (qbK n s).isSome=true then .error () else .ok (qoA n () s)
theorem qu8 (ns:List Int):∀ (i:Nat) (s:IM Unit),(∃ u,qbq qcY ns i s=.error u)↔¬ (ns.Nodup∧∀ n∈ns,qbK n s=none):=by
 induction ns with
 | nil=>intro i s;simp[qbq]
 | cons n ns ih =>
   intro i s
   rw[qbq]
   unfold qcY
   by_cases h:(qbK n s).isSome=true
   ·rw[if_pos h]
    simp only[List.forall_mem_cons]
    constructor
    ·intro _ hx
     rw[hx.2.1] at h
     cases h
    ·intro _;simp
   ·rw[if_neg h]
    dsimp only
    have h':qbK n s=none:=by simpa using h
    have:=ih (i+1) (qoA n () s)
    unfold qcY at this
    rw[this]
    simp only[qgQ,List.nodup_cons,List.forall_mem_cons]
    apply not_congr
    constructor
    ·rintro ⟨h1,h2⟩
     refine⟨⟨?_,h1⟩,h',?_⟩
     ·intro hm
      have:=h2 n hm
      rw[if_pos rfl] at this
      cases this
     ·intro m hm
      have:=h2 m hm
      by_cases e:m=n
      ·rw[if_pos e] at this;cases this
      ·rwa [if_neg e] at this
    ·rintro ⟨⟨h1,h2⟩,_,h4⟩
     refine⟨h2,fun m hm=>?_⟩
     rw[if_neg (fun e:m=n=>h1 (e ▸ hm))]
     exact h4 m hm
theorem qa6 (s:IM Unit):qnR (.map (encU s))=[]:=qyq _ (fun _=>rfl) s
theorem qa7 (ρ:Nat→Option Nat) (s:IM Unit):qeo ρ (.map (encU s))=.map (encU s):=qyD _ (fun _=>rfl) ρ s
section
variable {L:Lib} (hL:Plain L)
def qnL (E:AVal) (s:IM Unit) (ns:List Int) (j:Nat):St:=⟨kt [0,5,18,19,20] [E,.map (some 0),.list (ns.map qav) none,.int .i64 ns.length,.int .i64 j],[.map (encU s)]⟩
def qnM (E:AVal) (v:AVal) (s:IM Unit):St:=⟨kt [0,4,5] [E,v,.map (some 0)],[.map (encU s)]⟩
theorem qvd (E:AVal) (hE:qay E=true) (ns:List Int) (hl:ns.length<2 ^ 30) (s0:IM Unit) :
  (∀ s,qbq qcY ns 0 s0=.ok s→True∧qa4 L.pure (call L) 1 [0,5,18,19,20] [0,4,5] 0 qfK (qnL E s0 ns 0)=some (.normal,qnM E .junk s)) ∧
  (∀ u,qbq qcY ns 0 s0=.error u→∃ R,(∃ s,R=qnM E (.bool true) s)∧qa4 L.pure (call L) 1 [0,5,18,19,20] [0,4,5] 0 qfK (qnL E s0 ns 0)=some (.ret,R)):=by
 refine qcv ns qcY (fun s j=>qnL E s ns j) (qnM E .junk) (fun _ R=>∃ s,R=qnM E (.bool true) s) (fun _ _=>True) s0 trivial ?_ ?_ ?_
 ·intro i hi s s' _ hq
  obtain⟨h1,h2,h3⟩:=qaO qav ns hl i hi
  refine⟨?_,trivial⟩
  unfold qcY at hq
  split at hq
  ·cases hq
  ·rename_i hn
   injection hq with hq
   subst hq
   generalize ns[i]=n at *
   have hf:qbK n s=none:=by simpa using hn
   have hlk:=fun (h:Heap) (hr:h[0]? = some (.map (encU s)))=>qsh (fun _:Unit=>AVal.agg []) h 0 (.agg []) true n s hr
   have hup:=fun (h:Heap) (hr:h[0]? = some (.map (encU s)))=>qyW (fun _:Unit=>AVal.agg []) h 0 n () s rfl hr
   rw[hf] at hlk
   unfold qfK qnL
   simp -implicitDefEqProofs only[ev_,aOp,opd,qaa,qaq,qaw,qat,qad,qab,qag,qaI,qbP,qap,qax,ren,renC,qa8,qbj,↓reduceIte,reduceCtorEq,Nat.reduceEqDiff,Nat.reduceAdd,Nat.reduceLT,Nat.reduceLeDiff,qbh,qaj,h1,h2,h3,hlk,hup,hE,qa6,qa7]
 ·intro i hi s u _ hq
  obtain⟨h1,h2,h3⟩:=qaO qav ns hl i hi
  refine⟨_,⟨s,rfl⟩,?_⟩
  unfold qcY at hq
  split at hq
  ·rename_i hn
   generalize ns[i]=n at *
   obtain⟨x,hf⟩:=Option.isSome_iff_exists.1 hn
   have hlk:=fun (h:Heap) (hr:h[0]? = some (.map (encU s)))=>qsh (fun _:Unit=>AVal.agg []) h 0 (.agg []) true n s hr
   rw[hf] at hlk
   unfold qfK qnL qnM
   simp -implicitDefEqProofs only[ev_,aOp,opd,qaa,qaq,qaw,qat,qad,qab,qag,qaI,qap,gcE,qax,ren,renC,qa8,qbj,↓reduceIte,reduceCtorEq,Nat.reduceEqDiff,Nat.reduceAdd,Nat.reduceLT,Nat.reduceLeDiff,qbh,h1,h2,h3,hlk,hE,qa6,qa7]
  ·cases hq
 ·intro s _
  have h0:=qaQ ns.length
  unfold qfK qnL qnM
  simp -implicitDefEqProofs only[ev_,aOp,opd,qaa,qaw,qat,qab,gcE,qax,ren,renC,qa8,qbj,↓reduceIte,reduceCtorEq,Nat.reduceEqDiff,Nat.reduceLT,Nat.reduceLeDiff,h0,hE,qa6,qa7]
def qbw (x:CExpr):List Int:=qbS x.op x.binds x.alts
def qty (x:CExpr):Prop:=(x.binds++x.alts.flatMap (·.binds)).length<2 ^ 30
def qnN (e:List CExpr) (x:CExpr) (i:Nat) (ns:List Int) (s:IM Unit) (j:Nat):St:=⟨kt [5,35,36,37,50,51,52] [.map (some 0),.list (e.map qam) none,.int .i64 e.length,.int .i64 i,.list (ns.map qav) none,.int .i64 ns.length,.int .i64 j],
 [.map (encU s),.box [.int .i64 x.op,.int .i64 x.n,.list (x.binds.map qav) none,.list (x.kids.map qav) none,.list (x.alts.map qau) none],.gone]⟩
def qnO (e:List CExpr) (x:CExpr) (i:Nat) (v:AVal) (s:IM Unit):St:=⟨kt [4,5,35,36,37] [v,.map (some 0),.list (e.map qam) none,.int .i64 e.length,.int .i64 i],
 [.map (encU s),.box [.int .i64 x.op,.int .i64 x.n,.list (x.binds.map qav) none,.list (x.kids.map qav) none,.list (x.alts.map qau) none],.gone]⟩
theorem qpL (e:List CExpr) (x:CExpr) (i:Nat) (ns:List Int) (hl:ns.length<2 ^ 30) (s0:IM Unit) :
  (∀ s,qbq qcY ns 0 s0=.ok s→True∧qa4 L.pure (call L) 3 [5,35,36,37,50,51,52] [4,5,35,36,37] 4 qfL (qnN e x i ns s0 0)=some (.normal,qnO e x i .junk s)) ∧
  (∀ u,qbq qcY ns 0 s0=.error u→∃ R,(∃ s,R=qnO e x i (.bool true) s)∧qa4 L.pure (call L) 3 [5,35,36,37,50,51,52] [4,5,35,36,37] 4 qfL (qnN e x i ns s0 0)=some (.ret,R)):=by
 have hdE:=qaL e
 refine qcv ns qcY (fun s j=>qnN e x i ns s j) (qnO e x i .junk) (fun _ R=>∃ s,R=qnO e x i (.bool true) s) (fun _ _=>True) s0 trivial ?_ ?_ ?_
 ·intro j hj s s' _ hq
  obtain⟨h1,h2,h3⟩:=qaO qav ns hl j hj
  refine⟨?_,trivial⟩
  unfold qcY at hq
  split at hq
  ·cases hq
  ·rename_i hn
   injection hq with hq
   subst hq
   generalize ns[j]=n at *
   have hf:qbK n s=none:=by simpa using hn
   have hlk:=fun (h:Heap) (hr:h[0]? = some (.map (encU s)))=>qsh (fun _:Unit=>AVal.agg []) h 0 (.agg []) true n s hr
   have hup:=fun (h:Heap) (hr:h[0]? = some (.map (encU s)))=>qyW (fun _:Unit=>AVal.agg []) h 0 n () s rfl hr
   rw[hf] at hlk
   unfold qfL qnN
   simp -implicitDefEqProofs only[ev_,aOp,opd,qaa,qaq,qaw,qat,qad,qab,qag,qaI,qbP,qap,qax,ren,renC,qa8,qbj,↓reduceIte,Nat.reduceEqDiff,Nat.reduceAdd,Nat.reduceLT,Nat.reduceLeDiff,qbh,qaj,qao,h1,h2,h3,hlk,hup,hdE,qa6,qa7]
 ·intro j hj s u _ hq
  obtain⟨h1,h2,h3⟩:=qaO qav ns hl j hj
  refine⟨_,⟨s,rfl⟩,?_⟩
  unfold qcY at hq
  split at hq
  ·rename_i hn
   generalize ns[j]=n at *
   obtain⟨y,hf⟩:=Option.isSome_iff_exists.1 hn
   have hlk:=fun (h:Heap) (hr:h[0]? = some (.map (encU s)))=>qsh (fun _:Unit=>AVal.agg []) h 0 (.agg []) true n s hr
   rw[hf] at hlk
   unfold qfL qnN qnO
   simp -implicitDefEqProofs only[ev_,aOp,opd,qaa,qaq,qaw,qat,qad,qab,qag,qaI,qap,gcE,qax,ren,renC,qa8,qbj,↓reduceIte,Nat.reduceEqDiff,Nat.reduceAdd,Nat.reduceLT,Nat.reduceLeDiff,qbh,qaj,qao,h1,h2,h3,hlk,hdE,qa6,qa7]
  ·cases hq
 ·intro s _
  have h0:=qaQ ns.length
  unfold qfL qnN qnO
  simp -implicitDefEqProofs only[ev_,aOp,opd,qaa,qaw,qat,qab,gcE,qax,ren,renC,qa8,qbj,↓reduceIte,Nat.reduceEqDiff,Nat.reduceAdd,Nat.reduceLT,Nat.reduceLeDiff,qaj,qao,h0,hdE,qa6,qa7]
theorem qsr (op:Int) (binds:List Int) (as:List CAlt):(qbS op binds as).length≤(binds++as.flatMap (·.binds)).length:=by
 unfold qbS
 rw[List.length_append,List.length_append]
 split<;>simp
theorem qzs:encU []=[]:=rfl
include hL
def qnP (e:List CExpr) (s:IM Unit) (i:Nat):St:=⟨kt [5,35,36,37] [.map (some 0),.list (e.map qam) none,.int .i64 e.length,.int .i64 i],[.map (encU s)]⟩
def qii (_:Nat) (s:IM Unit) (x:CExpr):Except Unit (IM Unit):=qbq qcY (qbw x) 0 s
theorem qve (h232:L.fns 232=some fn232) (e:List CExpr) (hl:e.length<2 ^ 30) (hf:∀ x∈e,NodeFit x) (hb:∀ x∈e,qty x) (s0:IM Unit) :
  (∀ s,qbq qii e 0 s0=.ok s→True∧qa4 L.pure (call L) 1 [5,35,36,37] [4] 2 qfM (qnP e s0 0)=some (.normal,⟨kt [4] [.junk],[.map (encU s)]⟩)) ∧
  (∀ u,qbq qii e 0 s0=.error u→∃ R,(∃ s:IM Unit,R=⟨kt [4] [.bool true],[.map (encU s)]⟩)∧qa4 L.pure (call L) 1 [5,35,36,37] [4] 2 qfM (qnP e s0 0)=some (.ret,R)):=by
 have hp:=hL.pure
 have hdE:=qaL e
 refine qcv e qii (qnP e) (fun s=>⟨kt [4] [.junk],[.map (encU s)]⟩) (fun _ R=>∃ s:IM Unit,R=⟨kt [4] [.bool true],[.map (encU s)]⟩) (fun _ _=>True) s0 trivial ?_ ?_ ?_
 ·intro i hi s s' _ hq
  obtain⟨h1,h2,h3⟩:=qaO qam e hl i hi
  refine⟨?_,trivial⟩
  have hx:=hf e[i] (List.getElem_mem hi)
  have hbx:=hb e[i] (List.getElem_mem hi)
  generalize e[i]=x at *
  unfold qty at hbx
  have hbo:=qkB hL h232 x.op 0 x.binds (.list [] none) rfl x.alts hx.alts (by omega)
  have hle:=qsr x.op x.binds x.alts
  obtain⟨ha,_⟩:=qpL (L:=L) e x i (qbw x) (by unfold qbw;omega) s
  obtain⟨_,ha⟩:=ha s' hq
  unfold qnN qnO at ha
  unfold qbw at ha
  simp only[Int.natCast_zero] at ha
  unfold qfM qnP
  simp -implicitDefEqProofs only[ev_,aOp,opd,qaa,qaq,qaw,qbe,qat,qad,qab,qag,qaI,qaK,qah,qbP,qcf,leaf,qap,qax,ren,renC,qa8,qbj,↓reduceIte,reduceCtorEq,Nat.reduceEqDiff,Nat.reduceAdd,Nat.reduceLT,Nat.reduceLeDiff,frz,frzC,qkb,qaS,qaj,qao,h1,h2,h3,hbo,ha,hdE,qa6,qa7,qal L hp,hp]
 ·intro i hi s u _ hq
  obtain⟨h1,h2,h3⟩:=qaO qam e hl i hi
  have hx:=hf e[i] (List.getElem_mem hi)
  have hbx:=hb e[i] (List.getElem_mem hi)
  generalize e[i]=x at *
  unfold qty at hbx
  have hbo:=qkB hL h232 x.op 0 x.binds (.list [] none) rfl x.alts hx.alts (by omega)
  have hle:=qsr x.op x.binds x.alts
  obtain⟨_,ha⟩:=qpL (L:=L) e x i (qbw x) (by unfold qbw;omega) s
  obtain⟨R,⟨t,rfl⟩,ha⟩:=ha u hq
  refine⟨_,⟨t,rfl⟩,?_⟩
  unfold qnN qnO at ha
  unfold qbw at ha
  simp only[Int.natCast_zero] at ha
  unfold qfM qnP
  simp -implicitDefEqProofs only[ev_,aOp,opd,qaa,qaq,qaw,qbe,qat,qad,qab,qag,qaI,qaK,qah,qbP,qcf,leaf,qap,gcE,qax,ren,renC,qa8,qbj,↓reduceIte,reduceCtorEq,Nat.reduceEqDiff,Nat.reduceAdd,Nat.reduceLT,Nat.reduceLeDiff,frz,frzC,qkb,qaS,qaj,qao,h1,h2,h3,hbo,ha,hdE,qa6,qa7,qal L hp,hp]
 ·intro s _
  have h0:=qaQ e.length
  unfold qfM qnP
  simp -implicitDefEqProofs only[ev_,aOp,opd,qaa,qaw,qat,qab,gcE,qax,ren,renC,qa8,qbj,↓reduceIte,Nat.reduceEqDiff,h0,hdE,qa6,qa7]
def qhP (e:List CExpr) (ps:List Int):Bool :=
 match qbq qcY ps 0 [] with
 | .error _=>true
 | .ok s=>(match qbq qii e 0 s with | .error _=>true | .ok _=>false)
theorem qvf (h232:L.fns 232=some fn232) (h195:L.fns 195=some fn195) (e:List CExpr) (hl:e.length<2 ^ 30) (hf:∀ x∈e,NodeFit x) (hb:∀ x∈e,qty x) (ps:List Int) (hps:ps.length<2 ^ 30) (h:Heap) :
  pcall L 195 [.list (e.map qam) none,.list (ps.map qav) none] h=some (.val (.bool (qhP e ps)),h):=by
 have hdE:=qaL e
 refine qa5 hL h195 rfl ?_ h
 obtain⟨ha,hb1⟩:=qvd (L:=L) (.list (e.map qam) none) (by rw[qa0];exact hdE) ps hps []
 unfold qhP
 cases hq:qbq qcY ps 0 [] with
 | error u =>
   obtain⟨R,⟨s,rfl⟩,hl0⟩:=hb1 u hq
   unfold qnL qnM at hl0
   simp only[Int.natCast_zero,qzs] at hl0
   unfold fn195
   simp -implicitDefEqProofs only[ev_,aOp,opd,qaa,qbe,qan,qac,qae,qai,qax,ren,renC,qa8,qbj,↓reduceIte,reduceCtorEq,Nat.reduceEqDiff,Nat.reduceLT,Nat.reduceLeDiff,qak,qaj,hl0,hdE,qa6,qa7]
 | ok s =>
   obtain⟨_,hl0⟩:=ha s hq
   unfold qnL qnM at hl0
   simp only[Int.natCast_zero,qzs] at hl0
   obtain⟨hc,hd⟩:=qve hL h232 e hl hf hb s
   dsimp only
   cases hr:qbq qii e 0 s with
   | error u =>
     obtain⟨R,⟨t,rfl⟩,hl2⟩:=hd u hr
     unfold qnP at hl2
     simp only[Int.natCast_zero] at hl2
     unfold fn195
     simp -implicitDefEqProofs only[ev_,aOp,opd,qaa,qbe,qan,qac,qae,qai,qax,ren,renC,qa8,qbj,↓reduceIte,reduceCtorEq,Nat.reduceEqDiff,Nat.reduceLT,Nat.reduceLeDiff,qak,qaj,hl0,hl2,hdE,qa6,qa7]
   | ok t =>
     obtain⟨_,hl2⟩:=hc t hr
     unfold qnP at hl2
     simp only[Int.natCast_zero] at hl2
     unfold fn195
     simp -implicitDefEqProofs only[ev_,aOp,opd,qaa,qbe,qan,qac,qae,qai,qax,ren,renC,qa8,qbj,↓reduceIte,reduceCtorEq,Nat.reduceEqDiff,Nat.reduceLT,Nat.reduceLeDiff,qak,qaj,hl0,hl2,hdE,qa6,qa7]
end
section
theorem qqO:∀ (e:List CExpr) (i j:Nat) (s:IM Unit),qbq qii e i s=qbq qcY (e.flatMap qbw) j s:=by
 have hidx:∀ (ns:List Int) (i j:Nat) (s:IM Unit),qbq qcY ns i s=qbq qcY ns j s:=by
  intro ns
  induction ns with
  | nil=>intros;rfl
  | cons n ns ih =>
    intro i j s
    rw[qbq,qbq]
    have:qcY i s n=qcY j s n:=rfl
    rw[this]
    cases qcY j s n with
    | error u=>rfl
    | ok t=>exact ih _ _ t
 have happ:∀ (ns ms:List Int) (i:Nat) (s:IM Unit),qbq qcY (ns++ms) i s=(match qbq qcY ns i s with | .ok t=>qbq qcY ms 0 t | .error u=>.error u):=by
  intro ns
  induction ns with
  | nil=>intro ms i s;exact hidx ms i 0 s
  | cons n ns ih =>
    intro ms i s
    rw[List.cons_append,qbq,qbq]
    cases qcY i s n with
    | error u=>rfl
    | ok t=>exact ih ms (i+1) t
 intro e
 induction e with
 | nil=>intros;rfl
 | cons x e ih =>
   intro i j s
   rw[List.flatMap_cons,happ,qbq,hidx _ j 0]
   unfold qii
   cases qbq qcY (qbw x) 0 s with
   | error u=>rfl
   | ok t=>exact ih _ 0 t
theorem qj5 (e:List CExpr):qhP e [] = !decide (e.flatMap qbw).Nodup:=by
 unfold qhP
 have hs:=qu8 (e.flatMap qbw) 0 []
 rw[← qqO e 0 0 []] at hs
 dsimp only[qbq]
 cases hq:qbq qii e 0 [] with
 | error u =>
   have:¬ (e.flatMap qbw).Nodup:=fun h=>hs.1 ⟨u,hq⟩ ⟨h,fun _ _=>rfl⟩
   simp[this]
 | ok t =>
   have:(e.flatMap qbw).Nodup:=by
    refine Classical.byContradiction fun h=>?_
    obtain⟨u,hu⟩:=hs.2 fun hx=>h hx.1
    rw[hq] at hu
    cases hu
   simp[this]
end
structure CPrims (L:Lib) (sortI:List Int→List Int):Prop where
 clone:∀ (l:List Int) (h:Heap),l.length<2 ^ 30→pcall L 188 [.list (l.map qav) none] h=some (.val (.list (l.map qav) none),h)
 sort:∀ (l:List Int),l≠[]→l.length<2 ^ 30→call L 138 [.vec 0 l.length] [.vec (l.map qav) 1]=some (.val (.tuple []),[.vec ((sortI l).map qav) 1])
 sort0:∀ h:Heap,pcall L 138 [.list [] none] h=some (.val (.tuple []),h)
def CTree.none:CTree:=.mk 0 0 [] [] []
def qdo (ts:List CTree) (x:CExpr):List CTree:=ts++[.mk x.op x.n x.binds (x.kids.map fun k=>ts.getD k.toNat .none) x.alts]
def qdd (e:List CExpr):List CTree:=e.foldl qdo []
def qbl (e:List CExpr):CTree:=(qdd e).getD (e.length-1) .none
def qeV (e:List CExpr):Prop:=∀ (i:Nat) (hi:i<e.length),∀ k∈e[i].kids,0≤k∧k<i
theorem qf2 (cs:List AVal) (n:Nat):wipeR (.vptr cs n)=.vptr cs n:=rfl
theorem qce (t:CTree):∃ tc,qaC t=.vptr tc 0∧qas tc=true:=by
 have h:=qb9 t
 cases t
 rw[qbs] at h ⊢
 exact⟨_,rfl,h⟩
section
variable {L:Lib} (hL:Plain L)
def qiq (x:CExpr):AObj:=.box [.int .i64 x.op,.int .i64 x.n,.list (x.binds.map qav) none,.list (x.kids.map qav) none,.list (x.alts.map qau) none]
end
section
theorem qh4 (e:List CExpr) (i:Nat) (hi:i<e.length):qdd (e.take (i+1))=qdo (qdd (e.take i)) e[i]:=by
 unfold qdd
 rw[List.take_succ_eq_append_getElem hi,List.foldl_append]
 rfl
theorem qga:∀ (e:List CExpr) (ts:List CTree),(e.foldl qdo ts).length=ts.length+e.length
 | [],ts=>rfl
 | x :: e,ts => by
   rw[List.foldl_cons,qga e]
   simp[qdo]
   omega
theorem qoj (e:List CExpr):(qdd e).length=e.length:=by
 unfold qdd
 rw[qga]
 simp
theorem qh6 (e:List CExpr) (i:Nat) (hi:i≤e.length):(qdd (e.take i)).length=i:=by
 rw[qoj]
 simp
 omega
end
end Go.Abs
