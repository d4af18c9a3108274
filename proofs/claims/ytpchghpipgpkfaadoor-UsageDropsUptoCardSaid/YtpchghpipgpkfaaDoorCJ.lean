/-
  PARTS OF A PROOF, joined: an abstract machine for quiet code, its evaluation, and what the seat's functions answer on it. Conditions: none.
-/
import Derived.Test.YtpchghpipgpkfaaDoorG
set_option linter.unusedVariables false
set_option linter.unusedSimpArgs false
set_option maxRecDepth 100000
set_option maxHeartbeats 4000000
namespace Go.Abs
abbrev IM (β:Type):=List (Int × β)
section
variable {β:Type} (f:β→AVal)
def qkP (m:IM β):List (AVal × AVal):=m.map fun p=>(.int .i64 p.1,f p.2)
theorem qzp (hf:∀ b,qax (f b)=true) (ρ:Nat→Option Nat) (m:IM β):qej ρ (.map (qkP f m))=.map (qkP f m):=by
 have h1:∀ v:AVal,qax v=true→ren ρ v=v:=fun v hv=>by unfold ren;rw[if_pos hv]
 unfold qej qkP
 dsimp only
 rw[List.map_map]
 congr 1
 refine List.map_congr_left fun p _=>?_
 simp only[Function.comp,h1 _ (hf p.2),h1 (.int .i64 p.1) rfl]
theorem qzc (hf:∀ b,qax (f b)=true) (m:IM β):qkK (.map (qkP f m))=[]:=by
 have h1:∀ v:AVal,qax v=true→qaW v=[]:=fun v hv=>by unfold qaW;rw[if_pos hv]
 unfold qkK qkP
 dsimp only
 induction m with
 | nil=>rfl
 | cons p m ih =>
   rw[List.map_cons,List.flatMap_cons,h1 _ (hf p.2),h1 (.int .i64 p.1) rfl]
   exact ih
def qbt (v:Int):IM β→Option β
 | []=>none
 | p::m=>if v=p.1 then some p.2 else qbt v m
def qoL (v:Int) (b:β) (m:IM β):IM β:=m.map fun p=>if v=p.1 then (v,b) else p
def qmz (v:Int) (b:β):IM β→IM β
 | []=>[(v,b)]
 | p::m=>if v<p.1 then (v,b)::p::m else p::qmz v b m
def qh1 (v:Int) (b:β) (m:IM β):IM β:=if (qbt v m).isSome=true then qoL v b m else qmz v b m
theorem qhP {v:Int} {b:β}:∀ {m:IM β} (i:Nat),qbt v m=some b→∃ j,qaZ (.int .i64 v) (qkP f m) i=some (some (j,f b))
 | [],i,h=>by cases h
 | p :: m,i,h => by
   unfold qbt at h
   by_cases hv:v=p.1
   ·rw[if_pos hv] at h
    injection h with h
    subst h
    exact⟨i,by simp[qkP,qaZ,qcH,hv]⟩
   ·rw[if_neg hv] at h
    obtain⟨j,hj⟩:=qhP (i+1) h
    have hb:(v==p.1)=false:=by simpa using hv
    exact⟨j,by rw[← hj];simp[qkP,qaZ,qcH,hb]⟩
theorem qhO {v:Int}:∀ {m:IM β} (i:Nat),qbt v m=none→qaZ (.int .i64 v) (qkP f m) i=some none
 | [],i,h=>rfl
 | p :: m,i,h => by
   unfold qbt at h
   by_cases hv:v=p.1
   ·rw[if_pos hv] at h
    cases h
   ·rw[if_neg hv] at h
    have hb:(v==p.1)=false:=by simpa using hv
    rw[← qhO (i+1) h]
    simp[qkP,qaZ,qcH,hb]
theorem qqA (v:Int) (b:β):∀ m:IM β,qyP (.int .i64 v) (f b) (qkP f m)=qkP f (qmz v b m)
 | []=>rfl
 | p :: m => by
   unfold qmz qkP
   rw[List.map_cons,qyP]
   simp only[qzf,decide_eq_true_eq]
   by_cases h:v<p.1
   ·rw[if_pos h,if_pos h]
    rfl
   ·rw[if_neg h,if_neg h,List.map_cons]
    exact congrArg _ (qqA v b m)
theorem qu1 (v:Int) (b:β) (m:IM β):qyC (.int .i64 v) (f b) (qkP f m)=qkP f (qoL v b m):=by
 unfold qyC qkP qoL
 rw[List.map_map,List.map_map]
 refine List.map_congr_left fun p _=>?_
 simp only[Function.comp,qcH,if_true,Option.some.injEq,beq_iff_eq]
 by_cases h:v=p.1
 ·rw[if_pos h,if_pos h]
 ·rw[if_neg h,if_neg h]
theorem qtn (h:Heap) (r:Nat) (zero:AVal) (ok:Bool) (v:Int) (m:IM β) (hr:h[r]? = some (.map (qkP f m))) :
  qhF h .int zero ok (.map (some r)) (.int .i64 v)=some (match qbt v m with | some b=>(if ok=true then .tuple [f b,.bool true] else f b) | none=>(if ok=true then .tuple [zero,.bool false] else zero)):=by
 unfold qhF qok
 rw[if_pos (show qcI .int (.int .i64 v)=true from rfl)]
 dsimp only
 rw[hr]
 dsimp only
 cases hq:qbt v m with
 | some b =>
   obtain⟨j,hj⟩:=qhP f 0 hq
   rw[hj]
 | none=>rw[qhO f 0 hq]
theorem qzO (h:Heap) (r:Nat) (v:Int) (b:β) (m:IM β) (hw:wipe (f b)=f b) (hr:h[r]? = some (.map (qkP f m))) :
  qdK h .int (.map (some r)) (.int .i64 v) (f b)=some (h.set r (.map (qkP f (qh1 v b m)))):=by
 unfold qdK qh1
 dsimp only
 rw[hr]
 dsimp only
 rw[if_pos (show qcI .int (.int .i64 v)=true from rfl),hw]
 cases hq:qbt v m with
 | some c =>
   obtain⟨j,hj⟩:=qhP f 0 hq
   rw[hj]
   simp only[Option.isSome_some,if_true,qu1]
 | none =>
   rw[qhO f 0 hq]
   simp only[Option.isSome_none,Bool.false_eq_true,if_false,qqA]
theorem qnK (v w:Int) (b:β):∀ m:IM β,qbt w m=none→qbt v (qmz w b m)=if v=w then some b else qbt v m
 | [],_=>by simp[qmz,qbt]
 | p :: m,h => by
   unfold qbt at h
   have hw:¬ w=p.1:=by
    intro e
    rw[if_pos e] at h
    cases h
   rw[if_neg hw] at h
   have ih:=qnK v w b m h
   unfold qmz
   by_cases hlt:w<p.1
   ·rw[if_pos hlt]
    simp only[qbt]
   ·rw[if_neg hlt]
    simp only[qbt]
    rw[ih]
    by_cases h1:v=p.1
    ·have:¬ v=w:=by omega
     rw[if_pos h1,if_neg this,if_pos h1]
    ·rw[if_neg h1,if_neg h1]
theorem qjI (v w:Int) (b:β):∀ m:IM β,(qbt w m).isSome=true→qbt v (qoL w b m)=if v=w then some b else qbt v m
 | [],h=>by cases h
 | p :: m,h => by
   unfold qoL
   rw[List.map_cons]
   by_cases hw:w=p.1
   ·rw[if_pos hw]
    simp only[qbt]
    by_cases hv:v=w
    ·rw[if_pos hv,if_pos hv]
    ·rw[if_neg hv,if_neg hv,if_neg (by omega)]
     by_cases hs:(qbt w m).isSome=true
     ·have:=qjI v w b m hs
      unfold qoL at this
      rw[this,if_neg hv]
     ·have:m.map (fun p=>if w=p.1 then (w,b) else p)=m:=by
       have hn:∀ q∈m,¬ w=q.1:=by
        clear h
        induction m with
        | nil=>simp
        | cons q m ih =>
          intro x hx
          unfold qbt at hs
          by_cases hq:w=q.1
          ·rw[if_pos hq] at hs;exact absurd rfl hs
          ·rw[if_neg hq] at hs
           rcases List.mem_cons.1 hx with rfl | hx
           ·exact hq
           ·exact ih hs x hx
       have h2:m.map (fun p=>if w=p.1 then (w,b) else p)=m.map id:=List.map_congr_left fun q hq=>if_neg (hn q hq)
       rw[h2,List.map_id]
      rw[this]
   ·rw[if_neg hw]
    unfold qbt at h
    rw[if_neg hw] at h
    have:=qjI v w b m h
    unfold qoL at this
    simp only[qbt]
    rw[this]
    by_cases h1:v=p.1
    ·rw[if_pos h1,if_neg (by omega),if_pos h1]
    ·rw[if_neg h1,if_neg h1]
theorem qdp (v w:Int) (b:β) (m:IM β):qbt v (qh1 w b m)=if v=w then some b else qbt v m:=by
 unfold qh1
 by_cases h:(qbt w m).isSome=true
 ·rw[if_pos h,qjI v w b m h]
 ·rw[if_neg h,qnK v w b m (by simpa using h)]
end
abbrev encU:IM Unit→List (AVal × AVal):=qkP fun _=>.agg []
def qdd (_:Nat) (s:IM Unit) (n:Int):Except Unit (IM Unit):=if (qbt n s).isSome=true then .error () else .ok (qh1 n () s)
theorem qv4 (ns:List Int):∀ (i:Nat) (s:IM Unit),(∃ u,qbs qdd ns i s=.error u)↔¬ (ns.Nodup∧∀ n∈ns,qbt n s=none):=by
 induction ns with
 | nil=>intro i s;simp[qbs]
 | cons n ns ih =>
   intro i s
   rw[qbs]
   unfold qdd
   by_cases h:(qbt n s).isSome=true
   ·rw[if_pos h]
    simp only[List.forall_mem_cons]
    constructor
    ·intro _ hx
     rw[hx.2.1] at h
     cases h
    ·intro _;simp
   ·rw[if_neg h]
    dsimp only
    have h':qbt n s=none:=by simpa using h
    have:=ih (i+1) (qh1 n () s)
    unfold qdd at this
    rw[this]
    simp only[qdp,List.nodup_cons,List.forall_mem_cons]
    apply not_congr
    constructor
    ·rintro ⟨h1,h2⟩
     refine⟨⟨?_,h1⟩,h',?_⟩
     ·intro hm
      have:=h2 n hm
      rw[if_pos rfl] at this
      cases this
     ·intro m hm
      have:=h2 m hm
      by_cases e:m=n
      ·rw[if_pos e] at this;cases this
      ·rwa [if_neg e] at this
    ·rintro ⟨⟨h1,h2⟩,_,h4⟩
     refine⟨h2,fun m hm=>?_⟩
     rw[if_neg (fun e:m=n=>h1 (e ▸ hm))]
     exact h4 m hm
theorem qba (s:IM Unit):qkK (.map (encU s))=[]:=qzc _ (fun _=>rfl) s
theorem qbb (ρ:Nat→Option Nat) (s:IM Unit):qej ρ (.map (encU s))=.map (encU s):=qzp _ (fun _=>rfl) ρ s
section
variable {L:Lib} (hL:Plain L)
def qo8 (E:AVal) (s:IM Unit) (ns:List Int) (j:Nat):St:=⟨kt [0,5,18,19,20] [E,.map (some 0),.list (ns.map qau) none,.int .i64 ns.length,.int .i64 j],[.map (encU s)]⟩
def qo9 (E:AVal) (v:AVal) (s:IM Unit):St:=⟨kt [0,4,5] [E,v,.map (some 0)],[.map (encU s)]⟩
theorem qv9 (E:AVal) (hE:qax E=true) (ns:List Int) (hl:ns.length<2 ^ 30) (s0:IM Unit) :
  (∀ s,qbs qdd ns 0 s0=.ok s→True∧qbd L.pure (call L) 1 [0,5,18,19,20] [0,4,5] 0 qf7 (qo8 E s0 ns 0)=some (.normal,qo9 E .junk s)) ∧
  (∀ u,qbs qdd ns 0 s0=.error u→∃ R,(∃ s,R=qo9 E (.bool true) s)∧qbd L.pure (call L) 1 [0,5,18,19,20] [0,4,5] 0 qf7 (qo8 E s0 ns 0)=some (.ret,R)):=by
 refine qcr ns qdd (fun s j=>qo8 E s ns j) (qo9 E .junk) (fun _ R=>∃ s,R=qo9 E (.bool true) s) (fun _ _=>True) s0 trivial ?_ ?_ ?_
 ·intro i hi s s' _ hq
  obtain⟨h1,h2,h3⟩:=qaN qau ns hl i hi
  refine⟨?_,trivial⟩
  unfold qdd at hq
  split at hq
  ·cases hq
  ·rename_i hn
   injection hq with hq
   subst hq
   generalize ns[i]=n at *
   have hf:qbt n s=none:=by simpa using hn
   have hlk:=fun (h:Heap) (hr:h[0]? = some (.map (encU s)))=>qtn (fun _:Unit=>AVal.agg []) h 0 (.agg []) true n s hr
   have hup:=fun (h:Heap) (hr:h[0]? = some (.map (encU s)))=>qzO (fun _:Unit=>AVal.agg []) h 0 n () s rfl hr
   rw[hf] at hlk
   unfold qf7 qo8
   simp -implicitDefEqProofs only[ev_,aOp,opd,qaa,qaq,qaA,qaz,qad,qab,qag,qaL,qbK,qao,qav,ren,renC,qaW,qbc,↓reduceIte,reduceCtorEq,Nat.reduceEqDiff,Nat.reduceAdd,Nat.reduceLT,Nat.reduceLeDiff,qa9,qah,h1,h2,h3,hlk,hup,hE,qba,qbb]
 ·intro i hi s u _ hq
  obtain⟨h1,h2,h3⟩:=qaN qau ns hl i hi
  refine⟨_,⟨s,rfl⟩,?_⟩
  unfold qdd at hq
  split at hq
  ·rename_i hn
   generalize ns[i]=n at *
   obtain⟨x,hf⟩:=Option.isSome_iff_exists.1 hn
   have hlk:=fun (h:Heap) (hr:h[0]? = some (.map (encU s)))=>qtn (fun _:Unit=>AVal.agg []) h 0 (.agg []) true n s hr
   rw[hf] at hlk
   unfold qf7 qo8 qo9
   simp -implicitDefEqProofs only[ev_,aOp,opd,qaa,qaq,qaA,qaz,qad,qab,qag,qaL,qao,gcE,qav,ren,renC,qaW,qbc,↓reduceIte,reduceCtorEq,Nat.reduceEqDiff,Nat.reduceAdd,Nat.reduceLT,Nat.reduceLeDiff,qa9,h1,h2,h3,hlk,hE,qba,qbb]
  ·cases hq
 ·intro s _
  have h0:=qaO ns.length
  unfold qf7 qo8 qo9
  simp -implicitDefEqProofs only[ev_,aOp,opd,qaa,qaA,qaz,qab,gcE,qav,ren,renC,qaW,qbc,↓reduceIte,reduceCtorEq,Nat.reduceEqDiff,Nat.reduceLT,Nat.reduceLeDiff,h0,hE,qba,qbb]
def qaH (x:CExpr):List Int:=qbz x.op x.binds x.alts
def quv (x:CExpr):Prop:=(x.binds++x.alts.flatMap (·.binds)).length<2 ^ 30
def qpa (e:List CExpr) (x:CExpr) (i:Nat) (ns:List Int) (s:IM Unit) (j:Nat):St:=⟨kt [5,35,36,37,50,51,52] [.map (some 0),.list (e.map qam) none,.int .i64 e.length,.int .i64 i,.list (ns.map qau) none,.int .i64 ns.length,.int .i64 j],
 [.map (encU s),.box [.int .i64 x.op,.int .i64 x.n,.list (x.binds.map qau) none,.list (x.kids.map qau) none,.list (x.alts.map qar) none],.gone]⟩
def qpb (e:List CExpr) (x:CExpr) (i:Nat) (v:AVal) (s:IM Unit):St:=⟨kt [4,5,35,36,37] [v,.map (some 0),.list (e.map qam) none,.int .i64 e.length,.int .i64 i],
 [.map (encU s),.box [.int .i64 x.op,.int .i64 x.n,.list (x.binds.map qau) none,.list (x.kids.map qau) none,.list (x.alts.map qar) none],.gone]⟩
theorem qre (e:List CExpr) (x:CExpr) (i:Nat) (ns:List Int) (hl:ns.length<2 ^ 30) (s0:IM Unit) :
  (∀ s,qbs qdd ns 0 s0=.ok s→True∧qbd L.pure (call L) 3 [5,35,36,37,50,51,52] [4,5,35,36,37] 4 qf8 (qpa e x i ns s0 0)=some (.normal,qpb e x i .junk s)) ∧
  (∀ u,qbs qdd ns 0 s0=.error u→∃ R,(∃ s,R=qpb e x i (.bool true) s)∧qbd L.pure (call L) 3 [5,35,36,37,50,51,52] [4,5,35,36,37] 4 qf8 (qpa e x i ns s0 0)=some (.ret,R)):=by
 have hdE:=qaY e
 refine qcr ns qdd (fun s j=>qpa e x i ns s j) (qpb e x i .junk) (fun _ R=>∃ s,R=qpb e x i (.bool true) s) (fun _ _=>True) s0 trivial ?_ ?_ ?_
 ·intro j hj s s' _ hq
  obtain⟨h1,h2,h3⟩:=qaN qau ns hl j hj
  refine⟨?_,trivial⟩
  unfold qdd at hq
  split at hq
  ·cases hq
  ·rename_i hn
   injection hq with hq
   subst hq
   generalize ns[j]=n at *
   have hf:qbt n s=none:=by simpa using hn
   have hlk:=fun (h:Heap) (hr:h[0]? = some (.map (encU s)))=>qtn (fun _:Unit=>AVal.agg []) h 0 (.agg []) true n s hr
   have hup:=fun (h:Heap) (hr:h[0]? = some (.map (encU s)))=>qzO (fun _:Unit=>AVal.agg []) h 0 n () s rfl hr
   rw[hf] at hlk
   unfold qf8 qpa
   simp -implicitDefEqProofs only[ev_,aOp,opd,qaa,qaq,qaA,qaz,qad,qab,qag,qaL,qbK,qao,qav,ren,renC,qaW,qbc,↓reduceIte,Nat.reduceEqDiff,Nat.reduceAdd,Nat.reduceLT,Nat.reduceLeDiff,qa9,qah,qak,h1,h2,h3,hlk,hup,hdE,qba,qbb]
 ·intro j hj s u _ hq
  obtain⟨h1,h2,h3⟩:=qaN qau ns hl j hj
  refine⟨_,⟨s,rfl⟩,?_⟩
  unfold qdd at hq
  split at hq
  ·rename_i hn
   generalize ns[j]=n at *
   obtain⟨y,hf⟩:=Option.isSome_iff_exists.1 hn
   have hlk:=fun (h:Heap) (hr:h[0]? = some (.map (encU s)))=>qtn (fun _:Unit=>AVal.agg []) h 0 (.agg []) true n s hr
   rw[hf] at hlk
   unfold qf8 qpa qpb
   simp -implicitDefEqProofs only[ev_,aOp,opd,qaa,qaq,qaA,qaz,qad,qab,qag,qaL,qao,gcE,qav,ren,renC,qaW,qbc,↓reduceIte,Nat.reduceEqDiff,Nat.reduceAdd,Nat.reduceLT,Nat.reduceLeDiff,qa9,qah,qak,h1,h2,h3,hlk,hdE,qba,qbb]
  ·cases hq
 ·intro s _
  have h0:=qaO ns.length
  unfold qf8 qpa qpb
  simp -implicitDefEqProofs only[ev_,aOp,opd,qaa,qaA,qaz,qab,gcE,qav,ren,renC,qaW,qbc,↓reduceIte,Nat.reduceEqDiff,Nat.reduceAdd,Nat.reduceLT,Nat.reduceLeDiff,qah,qak,h0,hdE,qba,qbb]
theorem qpT (op:Int) (binds:List Int) (as:List CAlt):(qbz op binds as).length≤(binds++as.flatMap (·.binds)).length:=by
 unfold qbz
 rw[List.length_append,List.length_append]
 split<;>simp
theorem qAi:encU []=[]:=rfl
include hL
def qpc (e:List CExpr) (s:IM Unit) (i:Nat):St:=⟨kt [5,35,36,37] [.map (some 0),.list (e.map qam) none,.int .i64 e.length,.int .i64 i],[.map (encU s)]⟩
def qiA (_:Nat) (s:IM Unit) (x:CExpr):Except Unit (IM Unit):=qbs qdd (qaH x) 0 s
theorem qwa (h232:L.fns 232=some fn232) (e:List CExpr) (hl:e.length<2 ^ 30) (hf:∀ x∈e,NodeFit x) (hb:∀ x∈e,quv x) (s0:IM Unit) :
  (∀ s,qbs qiA e 0 s0=.ok s→True∧qbd L.pure (call L) 1 [5,35,36,37] [4] 2 qf9 (qpc e s0 0)=some (.normal,⟨kt [4] [.junk],[.map (encU s)]⟩)) ∧
  (∀ u,qbs qiA e 0 s0=.error u→∃ R,(∃ s:IM Unit,R=⟨kt [4] [.bool true],[.map (encU s)]⟩)∧qbd L.pure (call L) 1 [5,35,36,37] [4] 2 qf9 (qpc e s0 0)=some (.ret,R)):=by
 have hp:=hL.pure
 have hdE:=qaY e
 refine qcr e qiA (qpc e) (fun s=>⟨kt [4] [.junk],[.map (encU s)]⟩) (fun _ R=>∃ s:IM Unit,R=⟨kt [4] [.bool true],[.map (encU s)]⟩) (fun _ _=>True) s0 trivial ?_ ?_ ?_
 ·intro i hi s s' _ hq
  obtain⟨h1,h2,h3⟩:=qaN qam e hl i hi
  refine⟨?_,trivial⟩
  have hx:=hf e[i] (List.getElem_mem hi)
  have hbx:=hb e[i] (List.getElem_mem hi)
  generalize e[i]=x at *
  unfold quv at hbx
  have hbo:=qlc hL h232 x.op 0 x.binds (.list [] none) rfl x.alts hx.alts (by omega)
  have hle:=qpT x.op x.binds x.alts
  obtain⟨ha,_⟩:=qre (L:=L) e x i (qaH x) (by unfold qaH;omega) s
  obtain⟨_,ha⟩:=ha s' hq
  unfold qpa qpb at ha
  unfold qaH at ha
  simp only[Int.natCast_zero] at ha
  unfold qf9 qpc
  simp -implicitDefEqProofs only[ev_,aOp,opd,qaa,qaq,qaA,qbq,qaz,qad,qab,qag,qaL,qaK,qai,qbK,qbY,leaf,qao,qav,ren,renC,qaW,qbc,↓reduceIte,reduceCtorEq,Nat.reduceEqDiff,Nat.reduceAdd,Nat.reduceLT,Nat.reduceLeDiff,frz,frzC,qiF,qaR,qah,qak,h1,h2,h3,hbo,ha,hdE,qba,qbb,qan L hp,hp]
 ·intro i hi s u _ hq
  obtain⟨h1,h2,h3⟩:=qaN qam e hl i hi
  have hx:=hf e[i] (List.getElem_mem hi)
  have hbx:=hb e[i] (List.getElem_mem hi)
  generalize e[i]=x at *
  unfold quv at hbx
  have hbo:=qlc hL h232 x.op 0 x.binds (.list [] none) rfl x.alts hx.alts (by omega)
  have hle:=qpT x.op x.binds x.alts
  obtain⟨_,ha⟩:=qre (L:=L) e x i (qaH x) (by unfold qaH;omega) s
  obtain⟨R,⟨t,rfl⟩,ha⟩:=ha u hq
  refine⟨_,⟨t,rfl⟩,?_⟩
  unfold qpa qpb at ha
  unfold qaH at ha
  simp only[Int.natCast_zero] at ha
  unfold qf9 qpc
  simp -implicitDefEqProofs only[ev_,aOp,opd,qaa,qaq,qaA,qbq,qaz,qad,qab,qag,qaL,qaK,qai,qbK,qbY,leaf,qao,gcE,qav,ren,renC,qaW,qbc,↓reduceIte,reduceCtorEq,Nat.reduceEqDiff,Nat.reduceAdd,Nat.reduceLT,Nat.reduceLeDiff,frz,frzC,qiF,qaR,qah,qak,h1,h2,h3,hbo,ha,hdE,qba,qbb,qan L hp,hp]
 ·intro s _
  have h0:=qaO e.length
  unfold qf9 qpc
  simp -implicitDefEqProofs only[ev_,aOp,opd,qaa,qaA,qaz,qab,gcE,qav,ren,renC,qaW,qbc,↓reduceIte,Nat.reduceEqDiff,h0,hdE,qba,qbb]
def qib (e:List CExpr) (ps:List Int):Bool :=
 match qbs qdd ps 0 [] with
 | .error _=>true
 | .ok s=>(match qbs qiA e 0 s with | .error _=>true | .ok _=>false)
theorem qwb (h232:L.fns 232=some fn232) (h195:L.fns 195=some fn195) (e:List CExpr) (hl:e.length<2 ^ 30) (hf:∀ x∈e,NodeFit x) (hb:∀ x∈e,quv x) (ps:List Int) (hps:ps.length<2 ^ 30) (h:Heap) :
  pcall L 195 [.list (e.map qam) none,.list (ps.map qau) none] h=some (.val (.bool (qib e ps)),h):=by
 have hdE:=qaY e
 refine qa5 hL h195 rfl ?_ h
 obtain⟨ha,hb1⟩:=qv9 (L:=L) (.list (e.map qam) none) (by rw[qaT];exact hdE) ps hps []
 unfold qib
 cases hq:qbs qdd ps 0 [] with
 | error u =>
   obtain⟨R,⟨s,rfl⟩,hl0⟩:=hb1 u hq
   unfold qo8 qo9 at hl0
   simp only[Int.natCast_zero,qAi] at hl0
   unfold fn195
   simp -implicitDefEqProofs only[ev_,aOp,opd,qaa,qbq,qap,qac,qaf,qaj,qav,ren,renC,qaW,qbc,↓reduceIte,reduceCtorEq,Nat.reduceEqDiff,Nat.reduceLT,Nat.reduceLeDiff,qal,qah,hl0,hdE,qba,qbb]
 | ok s =>
   obtain⟨_,hl0⟩:=ha s hq
   unfold qo8 qo9 at hl0
   simp only[Int.natCast_zero,qAi] at hl0
   obtain⟨hc,hd⟩:=qwa hL h232 e hl hf hb s
   dsimp only
   cases hr:qbs qiA e 0 s with
   | error u =>
     obtain⟨R,⟨t,rfl⟩,hl2⟩:=hd u hr
     unfold qpc at hl2
     simp only[Int.natCast_zero] at hl2
     unfold fn195
     simp -implicitDefEqProofs only[ev_,aOp,opd,qaa,qbq,qap,qac,qaf,qaj,qav,ren,renC,qaW,qbc,↓reduceIte,reduceCtorEq,Nat.reduceEqDiff,Nat.reduceLT,Nat.reduceLeDiff,qal,qah,hl0,hl2,hdE,qba,qbb]
   | ok t =>
     obtain⟨_,hl2⟩:=hc t hr
     unfold qpc at hl2
     simp only[Int.natCast_zero] at hl2
     unfold fn195
     simp -implicitDefEqProofs only[ev_,aOp,opd,qaa,qbq,qap,qac,qaf,qaj,qav,ren,renC,qaW,qbc,↓reduceIte,reduceCtorEq,Nat.reduceEqDiff,Nat.reduceLT,Nat.reduceLeDiff,qal,qah,hl0,hl2,hdE,qba,qbb]
end
section
theorem qr9:∀ (e:List CExpr) (i j:Nat) (s:IM Unit),qbs qiA e i s=qbs qdd (e.flatMap qaH) j s:=by
 have hidx:∀ (ns:List Int) (i j:Nat) (s:IM Unit),qbs qdd ns i s=qbs qdd ns j s:=by
  intro ns
  induction ns with
  | nil=>intros;rfl
  | cons n ns ih =>
    intro i j s
    rw[qbs,qbs]
    have:qdd i s n=qdd j s n:=rfl
    rw[this]
    cases qdd j s n with
    | error u=>rfl
    | ok t=>exact ih _ _ t
 have happ:∀ (ns ms:List Int) (i:Nat) (s:IM Unit),qbs qdd (ns++ms) i s=(match qbs qdd ns i s with | .ok t=>qbs qdd ms 0 t | .error u=>.error u):=by
  intro ns
  induction ns with
  | nil=>intro ms i s;exact hidx ms i 0 s
  | cons n ns ih =>
    intro ms i s
    rw[List.cons_append,qbs,qbs]
    cases qdd i s n with
    | error u=>rfl
    | ok t=>exact ih ms (i+1) t
 intro e
 induction e with
 | nil=>intros;rfl
 | cons x e ih =>
   intro i j s
   rw[List.flatMap_cons,happ,qbs,hidx _ j 0]
   unfold qiA
   cases qbs qdd (qaH x) 0 s with
   | error u=>rfl
   | ok t=>exact ih _ 0 t
theorem qkB (e:List CExpr):qib e [] = !decide (e.flatMap qaH).Nodup:=by
 unfold qib
 have hs:=qv4 (e.flatMap qaH) 0 []
 rw[← qr9 e 0 0 []] at hs
 dsimp only[qbs]
 cases hq:qbs qiA e 0 [] with
 | error u =>
   have:¬ (e.flatMap qaH).Nodup:=fun h=>hs.1 ⟨u,hq⟩ ⟨h,fun _ _=>rfl⟩
   simp[this]
 | ok t =>
   have:(e.flatMap qaH).Nodup:=by
    refine Classical.byContradiction fun h=>?_
    obtain⟨u,hu⟩:=hs.2 fun hx=>h hx.1
    rw[hq] at hu
    cases hu
   simp[this]
end
structure CPrims (L:Lib) (sortI:List Int→List Int):Prop where
 clone:∀ (l:List Int) (h:Heap),l.length<2 ^ 30→pcall L 188 [.list (l.map qau) none] h=some (.val (.list (l.map qau) none),h)
 sort:∀ (l:List Int),l≠[]→l.length<2 ^ 30→call L 138 [.vec 0 l.length] [.vec (l.map qau) 1]=some (.val (.tuple []),[.vec ((sortI l).map qau) 1])
 sort0:∀ h:Heap,pcall L 138 [.list [] none] h=some (.val (.tuple []),h)
def CTree.none:CTree:=.mk 0 0 [] [] []
def qdG (ts:List CTree) (x:CExpr):List CTree:=ts++[.mk x.op x.n x.binds (x.kids.map fun k=>ts.getD k.toNat .none) x.alts]
def qdt (e:List CExpr):List CTree:=e.foldl qdG []
def qbw (e:List CExpr):CTree:=(qdt e).getD (e.length-1) .none
def qeH (e:List CExpr):Prop:=∀ (i:Nat) (hi:i<e.length),∀ k∈e[i].kids,0≤k∧k<i
theorem qmd (cs:List AVal) (n:Nat):wipeR (.vptr cs n)=.vptr cs n:=rfl
theorem qcf (t:CTree):∃ tc,qaw t=.vptr tc 0∧qas tc=true:=by
 have h:=qco t
 cases t
 rw[qa6] at h ⊢
 exact⟨_,rfl,h⟩
section
variable {L:Lib} (hL:Plain L)
def qkZ (x:CExpr):AObj:=.box [.int .i64 x.op,.int .i64 x.n,.list (x.binds.map qau) none,.list (x.kids.map qau) none,.list (x.alts.map qar) none]
end
section
theorem qin (e:List CExpr) (i:Nat) (hi:i<e.length):qdt (e.take (i+1))=qdG (qdt (e.take i)) e[i]:=by
 unfold qdt
 rw[List.take_succ_eq_append_getElem hi,List.foldl_append]
 rfl
theorem qgv:∀ (e:List CExpr) (ts:List CTree),(e.foldl qdG ts).length=ts.length+e.length
 | [],ts=>rfl
 | x :: e,ts => by
   rw[List.foldl_cons,qgv e]
   simp[qdG]
   omega
theorem qpK (e:List CExpr):(qdt e).length=e.length:=by
 unfold qdt
 rw[qgv]
 simp
theorem qip (e:List CExpr) (i:Nat) (hi:i≤e.length):(qdt (e.take i)).length=i:=by
 rw[qpK]
 simp
 omega
end
end Go.Abs
