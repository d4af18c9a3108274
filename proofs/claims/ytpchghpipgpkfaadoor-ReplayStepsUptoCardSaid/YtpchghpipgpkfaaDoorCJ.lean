/-
  PARTS OF A PROOF, joined: an abstract machine for quiet code, its evaluation, and what the seat's functions answer on it. Conditions: none.
-/
import Derived.Test.YtpchghpipgpkfaaDoorG
set_option linter.unusedVariables false
set_option linter.unusedSimpArgs false
set_option maxRecDepth 100000
set_option maxHeartbeats 4000000
namespace Go.Abs
abbrev IM (β:Type):=List (Int × β)
section
variable {β:Type} (f:β→AVal)
def qkz (m:IM β):List (AVal × AVal):=m.map fun p=>(.int .i64 p.1,f p.2)
theorem qyW (hf:∀ b,qaC (f b)=true) (ρ:Nat→Option Nat) (m:IM β):qex ρ (.map (qkz f m))=.map (qkz f m):=by
 have h1:∀ v:AVal,qaC v=true→ren ρ v=v:=fun v hv=>by unfold ren;rw[if_pos hv]
 unfold qex qkz
 dsimp only
 rw[List.map_map]
 congr 1
 refine List.map_congr_left fun p _=>?_
 simp only[Function.comp,h1 _ (hf p.2),h1 (.int .i64 p.1) rfl]
theorem qyK (hf:∀ b,qaC (f b)=true) (m:IM β):qn8 (.map (qkz f m))=[]:=by
 have h1:∀ v:AVal,qaC v=true→qa1 v=[]:=fun v hv=>by unfold qa1;rw[if_pos hv]
 unfold qn8 qkz
 dsimp only
 induction m with
 | nil=>rfl
 | cons p m ih =>
   rw[List.map_cons,List.flatMap_cons,h1 _ (hf p.2),h1 (.int .i64 p.1) rfl]
   exact ih
def qbR (v:Int):IM β→Option β
 | []=>none
 | p::m=>if v=p.1 then some p.2 else qbR v m
def qnG (v:Int) (b:β) (m:IM β):IM β:=m.map fun p=>if v=p.1 then (v,b) else p
def qlW (v:Int) (b:β):IM β→IM β
 | []=>[(v,b)]
 | p::m=>if v<p.1 then (v,b)::p::m else p::qlW v b m
def qoV (v:Int) (b:β) (m:IM β):IM β:=if (qbR v m).isSome=true then qnG v b m else qlW v b m
theorem qhM {v:Int} {b:β}:∀ {m:IM β} (i:Nat),qbR v m=some b→∃ j,qa4 (.int .i64 v) (qkz f m) i=some (some (j,f b))
 | [],i,h=>by cases h
 | p :: m,i,h => by
   unfold qbR at h
   by_cases hv:v=p.1
   ·rw[if_pos hv] at h
    injection h with h
    subst h
    exact⟨i,by simp[qkz,qa4,qcx,hv]⟩
   ·rw[if_neg hv] at h
    obtain⟨j,hj⟩:=qhM (i+1) h
    have hb:(v==p.1)=false:=by simpa using hv
    exact⟨j,by rw[← hj];simp[qkz,qa4,qcx,hb]⟩
theorem qhL {v:Int}:∀ {m:IM β} (i:Nat),qbR v m=none→qa4 (.int .i64 v) (qkz f m) i=some none
 | [],i,h=>rfl
 | p :: m,i,h => by
   unfold qbR at h
   by_cases hv:v=p.1
   ·rw[if_pos hv] at h
    cases h
   ·rw[if_neg hv] at h
    have hb:(v==p.1)=false:=by simpa using hv
    rw[← qhL (i+1) h]
    simp[qkz,qa4,qcx,hb]
theorem qpz (v:Int) (b:β):∀ m:IM β,qyp (.int .i64 v) (f b) (qkz f m)=qkz f (qlW v b m)
 | []=>rfl
 | p :: m => by
   unfold qlW qkz
   rw[List.map_cons,qyp]
   simp only[qyM,decide_eq_true_eq]
   by_cases h:v<p.1
   ·rw[if_pos h,if_pos h]
    rfl
   ·rw[if_neg h,if_neg h,List.map_cons]
    exact congrArg _ (qpz v b m)
theorem qum (v:Int) (b:β) (m:IM β):qyc (.int .i64 v) (f b) (qkz f m)=qkz f (qnG v b m):=by
 unfold qyc qkz qnG
 rw[List.map_map,List.map_map]
 refine List.map_congr_left fun p _=>?_
 simp only[Function.comp,qcx,if_true,Option.some.injEq,beq_iff_eq]
 by_cases h:v=p.1
 ·rw[if_pos h,if_pos h]
 ·rw[if_neg h,if_neg h]
theorem qqS (h:Heap) (r:Nat) (zero:AVal) (ok:Bool) (v:Int) (m:IM β) (hr:h[r]? = some (.map (qkz f m))) :
  qhE h .int zero ok (.map (some r)) (.int .i64 v)=some (match qbR v m with | some b=>(if ok=true then .tuple [f b,.bool true] else f b) | none=>(if ok=true then .tuple [zero,.bool false] else zero)):=by
 unfold qhE qnk
 rw[if_pos (show qcy .int (.int .i64 v)=true from rfl)]
 dsimp only
 rw[hr]
 dsimp only
 cases hq:qbR v m with
 | some b =>
   obtain⟨j,hj⟩:=qhM f 0 hq
   rw[hj]
 | none=>rw[qhL f 0 hq]
theorem qzi (h:Heap) (r:Nat) (v:Int) (b:β) (m:IM β) (hw:wipe (f b)=f b) (hr:h[r]? = some (.map (qkz f m))) :
  qdH h .int (.map (some r)) (.int .i64 v) (f b)=some (h.set r (.map (qkz f (qoV v b m)))):=by
 unfold qdH qoV
 dsimp only
 rw[hr]
 dsimp only
 rw[if_pos (show qcy .int (.int .i64 v)=true from rfl),hw]
 cases hq:qbR v m with
 | some c =>
   obtain⟨j,hj⟩:=qhM f 0 hq
   rw[hj]
   simp only[Option.isSome_some,if_true,qum]
 | none =>
   rw[qhL f 0 hq]
   simp only[Option.isSome_none,Bool.false_eq_true,if_false,qpz]
theorem qmQ (v w:Int) (b:β):∀ m:IM β,qbR w m=none→qbR v (qlW w b m)=if v=w then some b else qbR v m
 | [],_=>by simp[qlW,qbR]
 | p :: m,h => by
   unfold qbR at h
   have hw:¬ w=p.1:=by
    intro e
    rw[if_pos e] at h
    cases h
   rw[if_neg hw] at h
   have ih:=qmQ v w b m h
   unfold qlW
   by_cases hlt:w<p.1
   ·rw[if_pos hlt]
    simp only[qbR]
   ·rw[if_neg hlt]
    simp only[qbR]
    rw[ih]
    by_cases h1:v=p.1
    ·have:¬ v=w:=by omega
     rw[if_pos h1,if_neg this,if_pos h1]
    ·rw[if_neg h1,if_neg h1]
theorem qjA (v w:Int) (b:β):∀ m:IM β,(qbR w m).isSome=true→qbR v (qnG w b m)=if v=w then some b else qbR v m
 | [],h=>by cases h
 | p :: m,h => by
   unfold qnG
   rw[List.map_cons]
   by_cases hw:w=p.1
   ·rw[if_pos hw]
    simp only[qbR]
    by_cases hv:v=w
    ·rw[if_pos hv,if_pos hv]
    ·rw[if_neg hv,if_neg hv,if_neg (by omega)]
     by_cases hs:(qbR w m).isSome=true
     ·have:=qjA v w b m hs
      unfold qnG at this
      rw[this,if_neg hv]
     ·have:m.map (fun p=>if w=p.1 then (w,b) else p)=m:=by
       have hn:∀ q∈m,¬ w=q.1:=by
        clear h
        induction m with
        | nil=>simp
        | cons q m ih =>
          intro x hx
          unfold qbR at hs
          by_cases hq:w=q.1
          ·rw[if_pos hq] at hs;exact absurd rfl hs
          ·rw[if_neg hq] at hs
           rcases List.mem_cons.1 hx with rfl | hx
           ·exact hq
           ·exact ih hs x hx
       have h2:m.map (fun p=>if w=p.1 then (w,b) else p)=m.map id:=List.map_congr_left fun q hq=>if_neg (hn q hq)
       rw[h2,List.map_id]
      rw[this]
   ·rw[if_neg hw]
    unfold qbR at h
    rw[if_neg hw] at h
    have:=qjA v w b m h
    unfold qnG at this
    simp only[qbR]
    rw[this]
    by_cases h1:v=p.1
    ·rw[if_pos h1,if_neg (by omega),if_pos h1]
    ·rw[if_neg h1,if_neg h1]
theorem qjz (v w:Int) (b:β) (m:IM β):qbR v (qoV w b m)=if v=w then some b else qbR v m:=by
 unfold qoV
 by_cases h:(qbR w m).isSome=true
 ·rw[if_pos h,qjA v w b m h]
 ·rw[if_neg h,qmQ v w b m (by simpa using h)]
end
abbrev encU:IM Unit→List (AVal × AVal):=qkz fun _=>.agg []
def qc6 (_:Nat) (s:IM Unit) (n:Int):Except Unit (IM Unit):=if (qbR n s).isSome=true then .error () else .ok (qoV n () s)
theorem qvw (ns:List Int):∀ (i:Nat) (s:IM Unit),(∃ u,qbw qc6 ns i s=.error u)↔¬ (ns.Nodup∧∀ n∈ns,qbR n s=none):=by
 induction ns with
 | nil=>intro i s;simp[qbw]
 | cons n ns ih =>
   intro i s
   rw[qbw]
   unfold qc6
   by_cases h:(qbR n s).isSome=true
   ·rw[if_pos h]
    simp only[List.forall_mem_cons]
    constructor
    ·intro _ hx
     rw[hx.2.1] at h
     cases h
    ·intro _;simp
   ·rw[if_neg h]
    dsimp only
    have h':qbR n s=none:=by simpa using h
    have:=ih (i+1) (qoV n () s)
    unfold qc6 at this
    rw[this]
    simp only[qjz,List.nodup_cons,List.forall_mem_cons]
    apply not_congr
    constructor
    ·rintro ⟨h1,h2⟩
     refine⟨⟨?_,h1⟩,h',?_⟩
     ·intro hm
      have:=h2 n hm
      rw[if_pos rfl] at this
      cases this
     ·intro m hm
      have:=h2 m hm
      by_cases e:m=n
      ·rw[if_pos e] at this;cases this
      ·rwa [if_neg e] at this
    ·rintro ⟨⟨h1,h2⟩,_,h4⟩
     refine⟨h2,fun m hm=>?_⟩
     rw[if_neg (fun e:m=n=>h1 (e ▸ hm))]
     exact h4 m hm
theorem qbe (s:IM Unit):qn8 (.map (encU s))=[]:=qyK _ (fun _=>rfl) s
theorem qbf (ρ:Nat→Option Nat) (s:IM Unit):qex ρ (.map (encU s))=.map (encU s):=qyW _ (fun _=>rfl) ρ s
section
variable {L:Lib} (hL:Plain L)
def qn2 (E:AVal) (s:IM Unit) (ns:List Int) (j:Nat):St:=⟨kt [0,5,18,19,20] [E,.map (some 0),.list (ns.map qau) none,.int .i64 ns.length,.int .i64 j],[.map (encU s)]⟩
def qn3 (E:AVal) (v:AVal) (s:IM Unit):St:=⟨kt [0,4,5] [E,v,.map (some 0)],[.map (encU s)]⟩
theorem qvA (E:AVal) (hE:qaC E=true) (ns:List Int) (hl:ns.length<2 ^ 30) (s0:IM Unit) :
  (∀ s,qbw qc6 ns 0 s0=.ok s→True∧qa6 L.pure (call L) 1 [0,5,18,19,20] [0,4,5] 0 qf0 (qn2 E s0 ns 0)=some (.normal,qn3 E .junk s)) ∧
  (∀ u,qbw qc6 ns 0 s0=.error u→∃ R,(∃ s,R=qn3 E (.bool true) s)∧qa6 L.pure (call L) 1 [0,5,18,19,20] [0,4,5] 0 qf0 (qn2 E s0 ns 0)=some (.ret,R)):=by
 refine qce ns qc6 (fun s j=>qn2 E s ns j) (qn3 E .junk) (fun _ R=>∃ s,R=qn3 E (.bool true) s) (fun _ _=>True) s0 trivial ?_ ?_ ?_
 ·intro i hi s s' _ hq
  obtain⟨h1,h2,h3⟩:=qaR qau ns hl i hi
  refine⟨?_,trivial⟩
  unfold qc6 at hq
  split at hq
  ·cases hq
  ·rename_i hn
   injection hq with hq
   subst hq
   generalize ns[i]=n at *
   have hf:qbR n s=none:=by simpa using hn
   have hlk:=fun (h:Heap) (hr:h[0]? = some (.map (encU s)))=>qqS (fun _:Unit=>AVal.agg []) h 0 (.agg []) true n s hr
   have hup:=fun (h:Heap) (hr:h[0]? = some (.map (encU s)))=>qzi (fun _:Unit=>AVal.agg []) h 0 n () s rfl hr
   rw[hf] at hlk
   unfold qf0 qn2
   simp -implicitDefEqProofs only[ev_,aOp,opd,qaa,qas,qay,qax,qad,qab,qag,qaN,qbS,qap,qav,ren,renC,qa1,qba,↓reduceIte,reduceCtorEq,Nat.reduceEqDiff,Nat.reduceAdd,Nat.reduceLT,Nat.reduceLeDiff,qa9,qah,h1,h2,h3,hlk,hup,hE,qbe,qbf]
 ·intro i hi s u _ hq
  obtain⟨h1,h2,h3⟩:=qaR qau ns hl i hi
  refine⟨_,⟨s,rfl⟩,?_⟩
  unfold qc6 at hq
  split at hq
  ·rename_i hn
   generalize ns[i]=n at *
   obtain⟨x,hf⟩:=Option.isSome_iff_exists.1 hn
   have hlk:=fun (h:Heap) (hr:h[0]? = some (.map (encU s)))=>qqS (fun _:Unit=>AVal.agg []) h 0 (.agg []) true n s hr
   rw[hf] at hlk
   unfold qf0 qn2 qn3
   simp -implicitDefEqProofs only[ev_,aOp,opd,qaa,qas,qay,qax,qad,qab,qag,qaN,qap,gcE,qav,ren,renC,qa1,qba,↓reduceIte,reduceCtorEq,Nat.reduceEqDiff,Nat.reduceAdd,Nat.reduceLT,Nat.reduceLeDiff,qa9,h1,h2,h3,hlk,hE,qbe,qbf]
  ·cases hq
 ·intro s _
  have h0:=qaS ns.length
  unfold qf0 qn2 qn3
  simp -implicitDefEqProofs only[ev_,aOp,opd,qaa,qay,qax,qab,gcE,qav,ren,renC,qa1,qba,↓reduceIte,reduceCtorEq,Nat.reduceEqDiff,Nat.reduceLT,Nat.reduceLeDiff,h0,hE,qbe,qbf]
def qbC (x:CExpr):List Int:=qbn x.op x.binds x.alts
def qtW (x:CExpr):Prop:=(x.binds++x.alts.flatMap (·.binds)).length<2 ^ 30
def qn4 (e:List CExpr) (x:CExpr) (i:Nat) (ns:List Int) (s:IM Unit) (j:Nat):St:=⟨kt [5,35,36,37,50,51,52] [.map (some 0),.list (e.map qam) none,.int .i64 e.length,.int .i64 i,.list (ns.map qau) none,.int .i64 ns.length,.int .i64 j],
 [.map (encU s),.box [.int .i64 x.op,.int .i64 x.n,.list (x.binds.map qau) none,.list (x.kids.map qau) none,.list (x.alts.map qaq) none],.gone]⟩
def qn5 (e:List CExpr) (x:CExpr) (i:Nat) (v:AVal) (s:IM Unit):St:=⟨kt [4,5,35,36,37] [v,.map (some 0),.list (e.map qam) none,.int .i64 e.length,.int .i64 i],
 [.map (encU s),.box [.int .i64 x.op,.int .i64 x.n,.list (x.binds.map qau) none,.list (x.kids.map qau) none,.list (x.alts.map qaq) none],.gone]⟩
theorem qp8 (e:List CExpr) (x:CExpr) (i:Nat) (ns:List Int) (hl:ns.length<2 ^ 30) (s0:IM Unit) :
  (∀ s,qbw qc6 ns 0 s0=.ok s→True∧qa6 L.pure (call L) 3 [5,35,36,37,50,51,52] [4,5,35,36,37] 4 qf1 (qn4 e x i ns s0 0)=some (.normal,qn5 e x i .junk s)) ∧
  (∀ u,qbw qc6 ns 0 s0=.error u→∃ R,(∃ s,R=qn5 e x i (.bool true) s)∧qa6 L.pure (call L) 3 [5,35,36,37,50,51,52] [4,5,35,36,37] 4 qf1 (qn4 e x i ns s0 0)=some (.ret,R)):=by
 have hdE:=qaz e
 refine qce ns qc6 (fun s j=>qn4 e x i ns s j) (qn5 e x i .junk) (fun _ R=>∃ s,R=qn5 e x i (.bool true) s) (fun _ _=>True) s0 trivial ?_ ?_ ?_
 ·intro j hj s s' _ hq
  obtain⟨h1,h2,h3⟩:=qaR qau ns hl j hj
  refine⟨?_,trivial⟩
  unfold qc6 at hq
  split at hq
  ·cases hq
  ·rename_i hn
   injection hq with hq
   subst hq
   generalize ns[j]=n at *
   have hf:qbR n s=none:=by simpa using hn
   have hlk:=fun (h:Heap) (hr:h[0]? = some (.map (encU s)))=>qqS (fun _:Unit=>AVal.agg []) h 0 (.agg []) true n s hr
   have hup:=fun (h:Heap) (hr:h[0]? = some (.map (encU s)))=>qzi (fun _:Unit=>AVal.agg []) h 0 n () s rfl hr
   rw[hf] at hlk
   unfold qf1 qn4
   simp -implicitDefEqProofs only[ev_,aOp,opd,qaa,qas,qay,qax,qad,qab,qag,qaN,qbS,qap,qav,ren,renC,qa1,qba,↓reduceIte,Nat.reduceEqDiff,Nat.reduceAdd,Nat.reduceLT,Nat.reduceLeDiff,qa9,qah,qan,h1,h2,h3,hlk,hup,hdE,qbe,qbf]
 ·intro j hj s u _ hq
  obtain⟨h1,h2,h3⟩:=qaR qau ns hl j hj
  refine⟨_,⟨s,rfl⟩,?_⟩
  unfold qc6 at hq
  split at hq
  ·rename_i hn
   generalize ns[j]=n at *
   obtain⟨y,hf⟩:=Option.isSome_iff_exists.1 hn
   have hlk:=fun (h:Heap) (hr:h[0]? = some (.map (encU s)))=>qqS (fun _:Unit=>AVal.agg []) h 0 (.agg []) true n s hr
   rw[hf] at hlk
   unfold qf1 qn4 qn5
   simp -implicitDefEqProofs only[ev_,aOp,opd,qaa,qas,qay,qax,qad,qab,qag,qaN,qap,gcE,qav,ren,renC,qa1,qba,↓reduceIte,Nat.reduceEqDiff,Nat.reduceAdd,Nat.reduceLT,Nat.reduceLeDiff,qa9,qah,qan,h1,h2,h3,hlk,hdE,qbe,qbf]
  ·cases hq
 ·intro s _
  have h0:=qaS ns.length
  unfold qf1 qn4 qn5
  simp -implicitDefEqProofs only[ev_,aOp,opd,qaa,qay,qax,qab,gcE,qav,ren,renC,qa1,qba,↓reduceIte,Nat.reduceEqDiff,Nat.reduceAdd,Nat.reduceLT,Nat.reduceLeDiff,qah,qan,h0,hdE,qbe,qbf]
theorem qoQ (op:Int) (binds:List Int) (as:List CAlt):(qbn op binds as).length≤(binds++as.flatMap (·.binds)).length:=by
 unfold qbn
 rw[List.length_append,List.length_append]
 split<;>simp
theorem qzP:encU []=[]:=rfl
include hL
def qn6 (e:List CExpr) (s:IM Unit) (i:Nat):St:=⟨kt [5,35,36,37] [.map (some 0),.list (e.map qam) none,.int .i64 e.length,.int .i64 i],[.map (encU s)]⟩
def qix (_:Nat) (s:IM Unit) (x:CExpr):Except Unit (IM Unit):=qbw qc6 (qbC x) 0 s
theorem qvB (h232:L.fns 232=some fn232) (e:List CExpr) (hl:e.length<2 ^ 30) (hf:∀ x∈e,NodeFit x) (hb:∀ x∈e,qtW x) (s0:IM Unit) :
  (∀ s,qbw qix e 0 s0=.ok s→True∧qa6 L.pure (call L) 1 [5,35,36,37] [4] 2 qf2 (qn6 e s0 0)=some (.normal,⟨kt [4] [.junk],[.map (encU s)]⟩)) ∧
  (∀ u,qbw qix e 0 s0=.error u→∃ R,(∃ s:IM Unit,R=⟨kt [4] [.bool true],[.map (encU s)]⟩)∧qa6 L.pure (call L) 1 [5,35,36,37] [4] 2 qf2 (qn6 e s0 0)=some (.ret,R)):=by
 have hp:=hL.pure
 have hdE:=qaz e
 refine qce e qix (qn6 e) (fun s=>⟨kt [4] [.junk],[.map (encU s)]⟩) (fun _ R=>∃ s:IM Unit,R=⟨kt [4] [.bool true],[.map (encU s)]⟩) (fun _ _=>True) s0 trivial ?_ ?_ ?_
 ·intro i hi s s' _ hq
  obtain⟨h1,h2,h3⟩:=qaR qam e hl i hi
  refine⟨?_,trivial⟩
  have hx:=hf e[i] (List.getElem_mem hi)
  have hbx:=hb e[i] (List.getElem_mem hi)
  generalize e[i]=x at *
  unfold qtW at hbx
  have hbo:=qfK hL h232 x.op 0 x.binds (.list [] none) rfl x.alts hx.alts (by omega)
  have hle:=qoQ x.op x.binds x.alts
  obtain⟨ha,_⟩:=qp8 (L:=L) e x i (qbC x) (by unfold qbC;omega) s
  obtain⟨_,ha⟩:=ha s' hq
  unfold qn4 qn5 at ha
  unfold qbC at ha
  simp only[Int.natCast_zero] at ha
  unfold qf2 qn6
  simp -implicitDefEqProofs only[ev_,aOp,opd,qaa,qas,qay,qbb,qax,qad,qab,qag,qaN,qaQ,qai,qbS,qcd,leaf,qap,qav,ren,renC,qa1,qba,↓reduceIte,reduceCtorEq,Nat.reduceEqDiff,Nat.reduceAdd,Nat.reduceLT,Nat.reduceLeDiff,frz,frzC,qjJ,qaT,qah,qan,h1,h2,h3,hbo,ha,hdE,qbe,qbf,qal L hp,hp]
 ·intro i hi s u _ hq
  obtain⟨h1,h2,h3⟩:=qaR qam e hl i hi
  have hx:=hf e[i] (List.getElem_mem hi)
  have hbx:=hb e[i] (List.getElem_mem hi)
  generalize e[i]=x at *
  unfold qtW at hbx
  have hbo:=qfK hL h232 x.op 0 x.binds (.list [] none) rfl x.alts hx.alts (by omega)
  have hle:=qoQ x.op x.binds x.alts
  obtain⟨_,ha⟩:=qp8 (L:=L) e x i (qbC x) (by unfold qbC;omega) s
  obtain⟨R,⟨t,rfl⟩,ha⟩:=ha u hq
  refine⟨_,⟨t,rfl⟩,?_⟩
  unfold qn4 qn5 at ha
  unfold qbC at ha
  simp only[Int.natCast_zero] at ha
  unfold qf2 qn6
  simp -implicitDefEqProofs only[ev_,aOp,opd,qaa,qas,qay,qbb,qax,qad,qab,qag,qaN,qaQ,qai,qbS,qcd,leaf,qap,gcE,qav,ren,renC,qa1,qba,↓reduceIte,reduceCtorEq,Nat.reduceEqDiff,Nat.reduceAdd,Nat.reduceLT,Nat.reduceLeDiff,frz,frzC,qjJ,qaT,qah,qan,h1,h2,h3,hbo,ha,hdE,qbe,qbf,qal L hp,hp]
 ·intro s _
  have h0:=qaS e.length
  unfold qf2 qn6
  simp -implicitDefEqProofs only[ev_,aOp,opd,qaa,qay,qax,qab,gcE,qav,ren,renC,qa1,qba,↓reduceIte,Nat.reduceEqDiff,h0,hdE,qbe,qbf]
def qh3 (e:List CExpr) (ps:List Int):Bool :=
 match qbw qc6 ps 0 [] with
 | .error _=>true
 | .ok s=>(match qbw qix e 0 s with | .error _=>true | .ok _=>false)
theorem qvC (h232:L.fns 232=some fn232) (h195:L.fns 195=some fn195) (e:List CExpr) (hl:e.length<2 ^ 30) (hf:∀ x∈e,NodeFit x) (hb:∀ x∈e,qtW x) (ps:List Int) (hps:ps.length<2 ^ 30) (h:Heap) :
  pcall L 195 [.list (e.map qam) none,.list (ps.map qau) none] h=some (.val (.bool (qh3 e ps)),h):=by
 have hdE:=qaz e
 refine qaY hL h195 rfl ?_ h
 obtain⟨ha,hb1⟩:=qvA (L:=L) (.list (e.map qam) none) (by rw[qaV];exact hdE) ps hps []
 unfold qh3
 cases hq:qbw qc6 ps 0 [] with
 | error u =>
   obtain⟨R,⟨s,rfl⟩,hl0⟩:=hb1 u hq
   unfold qn2 qn3 at hl0
   simp only[Int.natCast_zero,qzP] at hl0
   unfold fn195
   simp -implicitDefEqProofs only[ev_,aOp,opd,qaa,qbb,qao,qac,qae,qaj,qav,ren,renC,qa1,qba,↓reduceIte,reduceCtorEq,Nat.reduceEqDiff,Nat.reduceLT,Nat.reduceLeDiff,qak,qah,hl0,hdE,qbe,qbf]
 | ok s =>
   obtain⟨_,hl0⟩:=ha s hq
   unfold qn2 qn3 at hl0
   simp only[Int.natCast_zero,qzP] at hl0
   obtain⟨hc,hd⟩:=qvB hL h232 e hl hf hb s
   dsimp only
   cases hr:qbw qix e 0 s with
   | error u =>
     obtain⟨R,⟨t,rfl⟩,hl2⟩:=hd u hr
     unfold qn6 at hl2
     simp only[Int.natCast_zero] at hl2
     unfold fn195
     simp -implicitDefEqProofs only[ev_,aOp,opd,qaa,qbb,qao,qac,qae,qaj,qav,ren,renC,qa1,qba,↓reduceIte,reduceCtorEq,Nat.reduceEqDiff,Nat.reduceLT,Nat.reduceLeDiff,qak,qah,hl0,hl2,hdE,qbe,qbf]
   | ok t =>
     obtain⟨_,hl2⟩:=hc t hr
     unfold qn6 at hl2
     simp only[Int.natCast_zero] at hl2
     unfold fn195
     simp -implicitDefEqProofs only[ev_,aOp,opd,qaa,qbb,qao,qac,qae,qaj,qav,ren,renC,qa1,qba,↓reduceIte,reduceCtorEq,Nat.reduceEqDiff,Nat.reduceLT,Nat.reduceLeDiff,qak,qah,hl0,hl2,hdE,qbe,qbf]
end
section
theorem qre:∀ (e:List CExpr) (i j:Nat) (s:IM Unit),qbw qix e i s=qbw qc6 (e.flatMap qbC) j s:=by
 have hidx:∀ (ns:List Int) (i j:Nat) (s:IM Unit),qbw qc6 ns i s=qbw qc6 ns j s:=by
  intro ns
  induction ns with
  | nil=>intros;rfl
  | cons n ns ih =>
    intro i j s
    rw[qbw,qbw]
    have:qc6 i s n=qc6 j s n:=rfl
    rw[this]
    cases qc6 j s n with
    | error u=>rfl
    | ok t=>exact ih _ _ t
 have happ:∀ (ns ms:List Int) (i:Nat) (s:IM Unit),qbw qc6 (ns++ms) i s=(match qbw qc6 ns i s with | .ok t=>qbw qc6 ms 0 t | .error u=>.error u):=by
  intro ns
  induction ns with
  | nil=>intro ms i s;exact hidx ms i 0 s
  | cons n ns ih =>
    intro ms i s
    rw[List.cons_append,qbw,qbw]
    cases qc6 i s n with
    | error u=>rfl
    | ok t=>exact ih ms (i+1) t
 intro e
 induction e with
 | nil=>intros;rfl
 | cons x e ih =>
   intro i j s
   rw[List.flatMap_cons,happ,qbw,hidx _ j 0]
   unfold qix
   cases qbw qc6 (qbC x) 0 s with
   | error u=>rfl
   | ok t=>exact ih _ 0 t
theorem qko (e:List CExpr):qh3 e [] = !decide (e.flatMap qbC).Nodup:=by
 unfold qh3
 have hs:=qvw (e.flatMap qbC) 0 []
 rw[← qre e 0 0 []] at hs
 dsimp only[qbw]
 cases hq:qbw qix e 0 [] with
 | error u =>
   have:¬ (e.flatMap qbC).Nodup:=fun h=>hs.1 ⟨u,hq⟩ ⟨h,fun _ _=>rfl⟩
   simp[this]
 | ok t =>
   have:(e.flatMap qbC).Nodup:=by
    refine Classical.byContradiction fun h=>?_
    obtain⟨u,hu⟩:=hs.2 fun hx=>h hx.1
    rw[hq] at hu
    cases hu
   simp[this]
end
structure CPrims (L:Lib) (sortI:List Int→List Int):Prop where
 clone:∀ (l:List Int) (h:Heap),l.length<2 ^ 30→pcall L 188 [.list (l.map qau) none] h=some (.val (.list (l.map qau) none),h)
 sort:∀ (l:List Int),l≠[]→l.length<2 ^ 30→call L 138 [.vec 0 l.length] [.vec (l.map qau) 1]=some (.val (.tuple []),[.vec ((sortI l).map qau) 1])
 sort0:∀ h:Heap,pcall L 138 [.list [] none] h=some (.val (.tuple []),h)
def CTree.none:CTree:=.mk 0 0 [] [] []
def qdC (ts:List CTree) (x:CExpr):List CTree:=ts++[.mk x.op x.n x.binds (x.kids.map fun k=>ts.getD k.toNat .none) x.alts]
def qdr (e:List CExpr):List CTree:=e.foldl qdC []
def qa0 (e:List CExpr):CTree:=(qdr e).getD (e.length-1) .none
def qe5 (e:List CExpr):Prop:=∀ (i:Nat) (hi:i<e.length),∀ k∈e[i].kids,0≤k∧k<i
theorem qbI (cs:List AVal) (n:Nat):wipeR (.vptr cs n)=.vptr cs n:=rfl
theorem qbu (t:CTree):∃ tc,qar t=.vptr tc 0∧qaw tc=true:=by
 have h:=qcb t
 cases t
 rw[qbt] at h ⊢
 exact⟨_,rfl,h⟩
section
variable {L:Lib} (hL:Plain L)
def qiG (x:CExpr):AObj:=.box [.int .i64 x.op,.int .i64 x.n,.list (x.binds.map qau) none,.list (x.kids.map qau) none,.list (x.alts.map qaq) none]
end
section
theorem qij (e:List CExpr) (i:Nat) (hi:i<e.length):qdr (e.take (i+1))=qdC (qdr (e.take i)) e[i]:=by
 unfold qdr
 rw[List.take_succ_eq_append_getElem hi,List.foldl_append]
 rfl
theorem qgq:∀ (e:List CExpr) (ts:List CTree),(e.foldl qdC ts).length=ts.length+e.length
 | [],ts=>rfl
 | x :: e,ts => by
   rw[List.foldl_cons,qgq e]
   simp[qdC]
   omega
theorem qoE (e:List CExpr):(qdr e).length=e.length:=by
 unfold qdr
 rw[qgq]
 simp
theorem qil (e:List CExpr) (i:Nat) (hi:i≤e.length):(qdr (e.take i)).length=i:=by
 rw[qoE]
 simp
 omega
end
end Go.Abs
