/-
  PARTS OF A PROOF, joined: an abstract machine for quiet code, its evaluation, and what the seat's functions answer on it. Conditions: none.
-/
import Derived.Test.YtpchghpipgpkfaaDoorG
set_option linter.unusedVariables false
set_option linter.unusedSimpArgs false
set_option maxRecDepth 100000
set_option maxHeartbeats 4000000
namespace Go.Abs
abbrev IM (β:Type):=List (Int × β)
section
variable {β:Type} (f:β→AVal)
def ql6 (m:IM β):List (AVal × AVal):=m.map fun p=>(.int .i64 p.1,f p.2)
theorem qBO (hf:∀ b,qaH (f b)=true) (ρ:Nat→Option Nat) (m:IM β):qfp ρ (.map (ql6 f m))=.map (ql6 f m):=by
 have h1:∀ v:AVal,qaH v=true→ren ρ v=v:=fun v hv=>by unfold ren;rw[if_pos hv]
 unfold qfp ql6
 dsimp only
 rw[List.map_map]
 congr 1
 refine List.map_congr_left fun p _=>?_
 simp only[Function.comp,h1 _ (hf p.2),h1 (.int .i64 p.1) rfl]
theorem qBB (hf:∀ b,qaH (f b)=true) (m:IM β):qp9 (.map (ql6 f m))=[]:=by
 have h1:∀ v:AVal,qaH v=true→qa9 v=[]:=fun v hv=>by unfold qa9;rw[if_pos hv]
 unfold qp9 ql6
 dsimp only
 induction m with
 | nil=>rfl
 | cons p m ih =>
   rw[List.map_cons,List.flatMap_cons,h1 _ (hf p.2),h1 (.int .i64 p.1) rfl]
   exact ih
def qaW (v:Int):IM β→Option β
 | []=>none
 | p::m=>if v=p.1 then some p.2 else qaW v m
def qpH (v:Int) (b:β) (m:IM β):IM β:=m.map fun p=>if v=p.1 then (v,b) else p
def qnG (v:Int) (b:β):IM β→IM β
 | []=>[(v,b)]
 | p::m=>if v<p.1 then (v,b)::p::m else p::qnG v b m
def qlv (v:Int) (b:β) (m:IM β):IM β:=if (qaW v m).isSome=true then qpH v b m else qnG v b m
theorem qiY {v:Int} {b:β}:∀ {m:IM β} (i:Nat),qaW v m=some b→∃ j,qbb (.int .i64 v) (ql6 f m) i=some (some (j,f b))
 | [],i,h=>by cases h
 | p :: m,i,h => by
   unfold qaW at h
   by_cases hv:v=p.1
   ·rw[if_pos hv] at h
    injection h with h
    subst h
    exact⟨i,by simp[ql6,qbb,qc2,hv]⟩
   ·rw[if_neg hv] at h
    obtain⟨j,hj⟩:=qiY (i+1) h
    have hb:(v==p.1)=false:=by simpa using hv
    exact⟨j,by rw[← hj];simp[ql6,qbb,qc2,hb]⟩
theorem qiX {v:Int}:∀ {m:IM β} (i:Nat),qaW v m=none→qbb (.int .i64 v) (ql6 f m) i=some none
 | [],i,h=>rfl
 | p :: m,i,h => by
   unfold qaW at h
   by_cases hv:v=p.1
   ·rw[if_pos hv] at h
    cases h
   ·rw[if_neg hv] at h
    have hb:(v==p.1)=false:=by simpa using hv
    rw[← qiX (i+1) h]
    simp[ql6,qbb,qc2,hb]
theorem qry (v:Int) (b:β):∀ m:IM β,qBf (.int .i64 v) (f b) (ql6 f m)=ql6 f (qnG v b m)
 | []=>rfl
 | p :: m => by
   unfold qnG ql6
   rw[List.map_cons,qBf]
   simp only[qBD,decide_eq_true_eq]
   by_cases h:v<p.1
   ·rw[if_pos h,if_pos h]
    rfl
   ·rw[if_neg h,if_neg h,List.map_cons]
    exact congrArg _ (qry v b m)
theorem qw9 (v:Int) (b:β) (m:IM β):qA0 (.int .i64 v) (f b) (ql6 f m)=ql6 f (qpH v b m):=by
 unfold qA0 ql6 qpH
 rw[List.map_map,List.map_map]
 refine List.map_congr_left fun p _=>?_
 simp only[Function.comp,qc2,if_true,Option.some.injEq,beq_iff_eq]
 by_cases h:v=p.1
 ·rw[if_pos h,if_pos h]
 ·rw[if_neg h,if_neg h]
theorem qqM (h:Heap) (r:Nat) (zero:AVal) (ok:Bool) (v:Int) (m:IM β) (hr:h[r]? = some (.map (ql6 f m))) :
  qiP h .int zero ok (.map (some r)) (.int .i64 v)=some (match qaW v m with | some b=>(if ok=true then .tuple [f b,.bool true] else f b) | none=>(if ok=true then .tuple [zero,.bool false] else zero)):=by
 unfold qiP qpe
 rw[if_pos (show qc3 .int (.int .i64 v)=true from rfl)]
 dsimp only
 rw[hr]
 dsimp only
 cases hq:qaW v m with
 | some b =>
   obtain⟨j,hj⟩:=qiY f 0 hq
   rw[hj]
 | none=>rw[qiX f 0 hq]
theorem qCd (h:Heap) (r:Nat) (v:Int) (b:β) (m:IM β) (hw:wipe (f b)=f b) (hr:h[r]? = some (.map (ql6 f m))) :
  qeh h .int (.map (some r)) (.int .i64 v) (f b)=some (h.set r (.map (ql6 f (qlv v b m)))):=by
 unfold qeh qlv
 dsimp only
 rw[hr]
 dsimp only
 rw[if_pos (show qc3 .int (.int .i64 v)=true from rfl),hw]
 cases hq:qaW v m with
 | some c =>
   obtain⟨j,hj⟩:=qiY f 0 hq
   rw[hj]
   simp only[Option.isSome_some,if_true,qw9]
 | none =>
   rw[qiX f 0 hq]
   simp only[Option.isSome_none,Bool.false_eq_true,if_false,qry]
theorem qoD (v w:Int) (b:β):∀ m:IM β,qaW w m=none→qaW v (qnG w b m)=if v=w then some b else qaW v m
 | [],_=>by simp[qnG,qaW]
 | p :: m,h => by
   unfold qaW at h
   have hw:¬ w=p.1:=by
    intro e
    rw[if_pos e] at h
    cases h
   rw[if_neg hw] at h
   have ih:=qoD v w b m h
   unfold qnG
   by_cases hlt:w<p.1
   ·rw[if_pos hlt]
    simp only[qaW]
   ·rw[if_neg hlt]
    simp only[qaW]
    rw[ih]
    by_cases h1:v=p.1
    ·have:¬ v=w:=by omega
     rw[if_pos h1,if_neg this,if_pos h1]
    ·rw[if_neg h1,if_neg h1]
theorem qkU (v w:Int) (b:β):∀ m:IM β,(qaW w m).isSome=true→qaW v (qpH w b m)=if v=w then some b else qaW v m
 | [],h=>by cases h
 | p :: m,h => by
   unfold qpH
   rw[List.map_cons]
   by_cases hw:w=p.1
   ·rw[if_pos hw]
    simp only[qaW]
    by_cases hv:v=w
    ·rw[if_pos hv,if_pos hv]
    ·rw[if_neg hv,if_neg hv,if_neg (by omega)]
     by_cases hs:(qaW w m).isSome=true
     ·have:=qkU v w b m hs
      unfold qpH at this
      rw[this,if_neg hv]
     ·have:m.map (fun p=>if w=p.1 then (w,b) else p)=m:=by
       have hn:∀ q∈m,¬ w=q.1:=by
        clear h
        induction m with
        | nil=>simp
        | cons q m ih =>
          intro x hx
          unfold qaW at hs
          by_cases hq:w=q.1
          ·rw[if_pos hq] at hs;exact absurd rfl hs
          ·rw[if_neg hq] at hs
           rcases List.mem_cons.1 hx with rfl | hx
           ·exact hq
           ·exact ih hs x hx
       have h2:m.map (fun p=>if w=p.1 then (w,b) else p)=m.map id:=List.map_congr_left fun q hq=>if_neg (hn q hq)
       rw[h2,List.map_id]
      rw[this]
   ·rw[if_neg hw]
    unfold qaW at h
    rw[if_neg hw] at h
    have:=qkU v w b m h
    unfold qpH at this
    simp only[qaW]
    rw[this]
    by_cases h1:v=p.1
    ·rw[if_pos h1,if_neg (by omega),if_pos h1]
    ·rw[if_neg h1,if_neg h1]
theorem qcd (v w:Int) (b:β) (m:IM β):qaW v (qlv w b m)=if v=w then some b else qaW v m:=by
 unfold qlv
 by_cases h:(qaW w m).isSome=true
 ·rw[if_pos h,qkU v w b m h]
 ·rw[if_neg h,qoD v w b m (by simpa using h)]
end
abbrev encU:IM Unit→List (AVal × AVal):=ql6 fun _=>.agg []
def qdA (_:Nat) (s:IM Unit) (n:Int):Except Unit (IM Unit):=if (qaW n s).isSome=true then .error () else .ok (qlv n () s)
theorem qyd (ns:List Int):∀ (i:Nat) (s:IM Unit),(∃ u,qbJ qdA ns i s=.error u)↔¬ (ns.Nodup∧∀ n∈ns,qaW n s=none):=by
 induction ns with
 | nil=>intro i s;simp[qbJ]
 | cons n ns ih =>
   intro i s
   rw[qbJ]
   unfold qdA
   by_cases h:(qaW n s).isSome=true
   ·rw[if_pos h]
    simp only[List.forall_mem_cons]
    constructor
    ·intro _ hx
     rw[hx.2.1] at h
     cases h
    ·intro _;simp
   ·rw[if_neg h]
    dsimp only
    have h':qaW n s=none:=by simpa using h
    have:=ih (i+1) (qlv n () s)
    unfold qdA at this
    rw[this]
    simp only[qcd,List.nodup_cons,List.forall_mem_cons]
    apply not_congr
    constructor
    ·rintro ⟨h1,h2⟩
     refine⟨⟨?_,h1⟩,h',?_⟩
     ·intro hm
      have:=h2 n hm
      rw[if_pos rfl] at this
      cases this
     ·intro m hm
      have:=h2 m hm
      by_cases e:m=n
      ·rw[if_pos e] at this;cases this
      ·rwa [if_neg e] at this
    ·rintro ⟨⟨h1,h2⟩,_,h4⟩
     refine⟨h2,fun m hm=>?_⟩
     rw[if_neg (fun e:m=n=>h1 (e ▸ hm))]
     exact h4 m hm
theorem qbo (s:IM Unit):qp9 (.map (encU s))=[]:=qBB _ (fun _=>rfl) s
theorem qbp (ρ:Nat→Option Nat) (s:IM Unit):qfp ρ (.map (encU s))=.map (encU s):=qBO _ (fun _=>rfl) ρ s
section
variable {L:Lib} (hL:Plain L)
def qp2 (E:AVal) (s:IM Unit) (ns:List Int) (j:Nat):St:=⟨kt [0,5,18,19,20] [E,.map (some 0),.list (ns.map qav) none,.int .i64 ns.length,.int .i64 j],[.map (encU s)]⟩
def qp3 (E:AVal) (v:AVal) (s:IM Unit):St:=⟨kt [0,4,5] [E,v,.map (some 0)],[.map (encU s)]⟩
theorem qyj (E:AVal) (hE:qaH E=true) (ns:List Int) (hl:ns.length<2 ^ 30) (s0:IM Unit) :
  (∀ s,qbJ qdA ns 0 s0=.ok s→True∧qba L.pure (call L) 1 [0,5,18,19,20] [0,4,5] 0 qg0 (qp2 E s0 ns 0)=some (.normal,qp3 E .junk s)) ∧
  (∀ u,qbJ qdA ns 0 s0=.error u→∃ R,(∃ s,R=qp3 E (.bool true) s)∧qba L.pure (call L) 1 [0,5,18,19,20] [0,4,5] 0 qg0 (qp2 E s0 ns 0)=some (.ret,R)):=by
 refine qcD ns qdA (fun s j=>qp2 E s ns j) (qp3 E .junk) (fun _ R=>∃ s,R=qp3 E (.bool true) s) (fun _ _=>True) s0 trivial ?_ ?_ ?_
 ·intro i hi s s' _ hq
  obtain⟨h1,h2,h3⟩:=qaN qav ns hl i hi
  refine⟨?_,trivial⟩
  unfold qdA at hq
  split at hq
  ·cases hq
  ·rename_i hn
   injection hq with hq
   subst hq
   generalize ns[i]=n at *
   have hf:qaW n s=none:=by simpa using hn
   have hlk:=fun (h:Heap) (hr:h[0]? = some (.map (encU s)))=>qqM (fun _:Unit=>AVal.agg []) h 0 (.agg []) true n s hr
   have hup:=fun (h:Heap) (hr:h[0]? = some (.map (encU s)))=>qCd (fun _:Unit=>AVal.agg []) h 0 n () s rfl hr
   rw[hf] at hlk
   unfold qg0 qp2
   simp -implicitDefEqProofs only[ev_,aOp,opd,qaa,qay,qaB,qaA,qad,qab,qag,qaT,qcj,qat,qaC,ren,renC,qa9,qbq,↓reduceIte,reduceCtorEq,Nat.reduceEqDiff,Nat.reduceAdd,Nat.reduceLT,Nat.reduceLeDiff,qa1,qah,h1,h2,h3,hlk,hup,hE,qbo,qbp]
 ·intro i hi s u _ hq
  obtain⟨h1,h2,h3⟩:=qaN qav ns hl i hi
  refine⟨_,⟨s,rfl⟩,?_⟩
  unfold qdA at hq
  split at hq
  ·rename_i hn
   generalize ns[i]=n at *
   obtain⟨x,hf⟩:=Option.isSome_iff_exists.1 hn
   have hlk:=fun (h:Heap) (hr:h[0]? = some (.map (encU s)))=>qqM (fun _:Unit=>AVal.agg []) h 0 (.agg []) true n s hr
   rw[hf] at hlk
   unfold qg0 qp2 qp3
   simp -implicitDefEqProofs only[ev_,aOp,opd,qaa,qay,qaB,qaA,qad,qab,qag,qaT,qat,gcE,qaC,ren,renC,qa9,qbq,↓reduceIte,reduceCtorEq,Nat.reduceEqDiff,Nat.reduceAdd,Nat.reduceLT,Nat.reduceLeDiff,qa1,h1,h2,h3,hlk,hE,qbo,qbp]
  ·cases hq
 ·intro s _
  have h0:=qaQ ns.length
  unfold qg0 qp2 qp3
  simp -implicitDefEqProofs only[ev_,aOp,opd,qaa,qaB,qaA,qab,gcE,qaC,ren,renC,qa9,qbq,↓reduceIte,reduceCtorEq,Nat.reduceEqDiff,Nat.reduceLT,Nat.reduceLeDiff,h0,hE,qbo,qbp]
def qbB (x:CExpr):List Int:=qaq x.op x.binds x.alts
def qwF (x:CExpr):Prop:=(x.binds++x.alts.flatMap (·.binds)).length<2 ^ 30
def qp4 (e:List CExpr) (x:CExpr) (i:Nat) (ns:List Int) (s:IM Unit) (j:Nat):St:=⟨kt [5,35,36,37,50,51,52] [.map (some 0),.list (e.map qam) none,.int .i64 e.length,.int .i64 i,.list (ns.map qav) none,.int .i64 ns.length,.int .i64 j],
 [.map (encU s),.box [.int .i64 x.op,.int .i64 x.n,.list (x.binds.map qav) none,.list (x.kids.map qav) none,.list (x.alts.map qas) none],.gone]⟩
def qp5 (e:List CExpr) (x:CExpr) (i:Nat) (v:AVal) (s:IM Unit):St:=⟨kt [4,5,35,36,37] [v,.map (some 0),.list (e.map qam) none,.int .i64 e.length,.int .i64 i],
 [.map (encU s),.box [.int .i64 x.op,.int .i64 x.n,.list (x.binds.map qav) none,.list (x.kids.map qav) none,.list (x.alts.map qas) none],.gone]⟩
theorem qsi (e:List CExpr) (x:CExpr) (i:Nat) (ns:List Int) (hl:ns.length<2 ^ 30) (s0:IM Unit) :
  (∀ s,qbJ qdA ns 0 s0=.ok s→True∧qba L.pure (call L) 3 [5,35,36,37,50,51,52] [4,5,35,36,37] 4 qg1 (qp4 e x i ns s0 0)=some (.normal,qp5 e x i .junk s)) ∧
  (∀ u,qbJ qdA ns 0 s0=.error u→∃ R,(∃ s,R=qp5 e x i (.bool true) s)∧qba L.pure (call L) 3 [5,35,36,37,50,51,52] [4,5,35,36,37] 4 qg1 (qp4 e x i ns s0 0)=some (.ret,R)):=by
 have hdE:=qaI e
 refine qcD ns qdA (fun s j=>qp4 e x i ns s j) (qp5 e x i .junk) (fun _ R=>∃ s,R=qp5 e x i (.bool true) s) (fun _ _=>True) s0 trivial ?_ ?_ ?_
 ·intro j hj s s' _ hq
  obtain⟨h1,h2,h3⟩:=qaN qav ns hl j hj
  refine⟨?_,trivial⟩
  unfold qdA at hq
  split at hq
  ·cases hq
  ·rename_i hn
   injection hq with hq
   subst hq
   generalize ns[j]=n at *
   have hf:qaW n s=none:=by simpa using hn
   have hlk:=fun (h:Heap) (hr:h[0]? = some (.map (encU s)))=>qqM (fun _:Unit=>AVal.agg []) h 0 (.agg []) true n s hr
   have hup:=fun (h:Heap) (hr:h[0]? = some (.map (encU s)))=>qCd (fun _:Unit=>AVal.agg []) h 0 n () s rfl hr
   rw[hf] at hlk
   unfold qg1 qp4
   simp -implicitDefEqProofs only[ev_,aOp,opd,qaa,qay,qaB,qaA,qad,qab,qag,qaT,qcj,qat,qaC,ren,renC,qa9,qbq,↓reduceIte,Nat.reduceEqDiff,Nat.reduceAdd,Nat.reduceLT,Nat.reduceLeDiff,qa1,qah,qap,h1,h2,h3,hlk,hup,hdE,qbo,qbp]
 ·intro j hj s u _ hq
  obtain⟨h1,h2,h3⟩:=qaN qav ns hl j hj
  refine⟨_,⟨s,rfl⟩,?_⟩
  unfold qdA at hq
  split at hq
  ·rename_i hn
   generalize ns[j]=n at *
   obtain⟨y,hf⟩:=Option.isSome_iff_exists.1 hn
   have hlk:=fun (h:Heap) (hr:h[0]? = some (.map (encU s)))=>qqM (fun _:Unit=>AVal.agg []) h 0 (.agg []) true n s hr
   rw[hf] at hlk
   unfold qg1 qp4 qp5
   simp -implicitDefEqProofs only[ev_,aOp,opd,qaa,qay,qaB,qaA,qad,qab,qag,qaT,qat,gcE,qaC,ren,renC,qa9,qbq,↓reduceIte,Nat.reduceEqDiff,Nat.reduceAdd,Nat.reduceLT,Nat.reduceLeDiff,qa1,qah,qap,h1,h2,h3,hlk,hdE,qbo,qbp]
  ·cases hq
 ·intro s _
  have h0:=qaQ ns.length
  unfold qg1 qp4 qp5
  simp -implicitDefEqProofs only[ev_,aOp,opd,qaa,qaB,qaA,qab,gcE,qaC,ren,renC,qa9,qbq,↓reduceIte,Nat.reduceEqDiff,Nat.reduceAdd,Nat.reduceLT,Nat.reduceLeDiff,qah,qap,h0,hdE,qbo,qbp]
theorem qnS (op:Int) (binds:List Int) (as:List CAlt):(qaq op binds as).length≤(binds++as.flatMap (·.binds)).length:=by
 unfold qaq
 rw[List.length_append,List.length_append]
 split<;>simp
theorem qCL:encU []=[]:=rfl
include hL
def qp6 (e:List CExpr) (s:IM Unit) (i:Nat):St:=⟨kt [5,35,36,37] [.map (some 0),.list (e.map qam) none,.int .i64 e.length,.int .i64 i],[.map (encU s)]⟩
def qjN (_:Nat) (s:IM Unit) (x:CExpr):Except Unit (IM Unit):=qbJ qdA (qbB x) 0 s
theorem qyk (h232:L.fns 232=some fn232) (e:List CExpr) (hl:e.length<2 ^ 30) (hf:∀ x∈e,NodeFit x) (hb:∀ x∈e,qwF x) (s0:IM Unit) :
  (∀ s,qbJ qjN e 0 s0=.ok s→True∧qba L.pure (call L) 1 [5,35,36,37] [4] 2 qg2 (qp6 e s0 0)=some (.normal,⟨kt [4] [.junk],[.map (encU s)]⟩)) ∧
  (∀ u,qbJ qjN e 0 s0=.error u→∃ R,(∃ s:IM Unit,R=⟨kt [4] [.bool true],[.map (encU s)]⟩)∧qba L.pure (call L) 1 [5,35,36,37] [4] 2 qg2 (qp6 e s0 0)=some (.ret,R)):=by
 have hp:=hL.pure
 have hdE:=qaI e
 refine qcD e qjN (qp6 e) (fun s=>⟨kt [4] [.junk],[.map (encU s)]⟩) (fun _ R=>∃ s:IM Unit,R=⟨kt [4] [.bool true],[.map (encU s)]⟩) (fun _ _=>True) s0 trivial ?_ ?_ ?_
 ·intro i hi s s' _ hq
  obtain⟨h1,h2,h3⟩:=qaN qam e hl i hi
  refine⟨?_,trivial⟩
  have hx:=hf e[i] (List.getElem_mem hi)
  have hbx:=hb e[i] (List.getElem_mem hi)
  generalize e[i]=x at *
  unfold qwF at hbx
  have hbo:=qe1 hL h232 x.op 0 x.binds (.list [] none) rfl x.alts hx.alts (by omega)
  have hle:=qnS x.op x.binds x.alts
  obtain⟨ha,_⟩:=qsi (L:=L) e x i (qbB x) (by unfold qbB;omega) s
  obtain⟨_,ha⟩:=ha s' hq
  unfold qp4 qp5 at ha
  unfold qbB at ha
  simp only[Int.natCast_zero] at ha
  unfold qg2 qp6
  simp -implicitDefEqProofs only[ev_,aOp,opd,qaa,qay,qaB,qbd,qaA,qad,qab,qag,qaT,qaS,qai,qcj,qcK,leaf,qat,qaC,ren,renC,qa9,qbq,↓reduceIte,reduceCtorEq,Nat.reduceEqDiff,Nat.reduceAdd,Nat.reduceLT,Nat.reduceLeDiff,frz,frzC,qlY,qa5,qah,qap,h1,h2,h3,hbo,ha,hdE,qbo,qbp,qal L hp,hp]
 ·intro i hi s u _ hq
  obtain⟨h1,h2,h3⟩:=qaN qam e hl i hi
  have hx:=hf e[i] (List.getElem_mem hi)
  have hbx:=hb e[i] (List.getElem_mem hi)
  generalize e[i]=x at *
  unfold qwF at hbx
  have hbo:=qe1 hL h232 x.op 0 x.binds (.list [] none) rfl x.alts hx.alts (by omega)
  have hle:=qnS x.op x.binds x.alts
  obtain⟨_,ha⟩:=qsi (L:=L) e x i (qbB x) (by unfold qbB;omega) s
  obtain⟨R,⟨t,rfl⟩,ha⟩:=ha u hq
  refine⟨_,⟨t,rfl⟩,?_⟩
  unfold qp4 qp5 at ha
  unfold qbB at ha
  simp only[Int.natCast_zero] at ha
  unfold qg2 qp6
  simp -implicitDefEqProofs only[ev_,aOp,opd,qaa,qay,qaB,qbd,qaA,qad,qab,qag,qaT,qaS,qai,qcj,qcK,leaf,qat,gcE,qaC,ren,renC,qa9,qbq,↓reduceIte,reduceCtorEq,Nat.reduceEqDiff,Nat.reduceAdd,Nat.reduceLT,Nat.reduceLeDiff,frz,frzC,qlY,qa5,qah,qap,h1,h2,h3,hbo,ha,hdE,qbo,qbp,qal L hp,hp]
 ·intro s _
  have h0:=qaQ e.length
  unfold qg2 qp6
  simp -implicitDefEqProofs only[ev_,aOp,opd,qaa,qaB,qaA,qab,gcE,qaC,ren,renC,qa9,qbq,↓reduceIte,Nat.reduceEqDiff,h0,hdE,qbo,qbp]
def qjm (e:List CExpr) (ps:List Int):Bool :=
 match qbJ qdA ps 0 [] with
 | .error _=>true
 | .ok s=>(match qbJ qjN e 0 s with | .error _=>true | .ok _=>false)
theorem qyl (h232:L.fns 232=some fn232) (h195:L.fns 195=some fn195) (e:List CExpr) (hl:e.length<2 ^ 30) (hf:∀ x∈e,NodeFit x) (hb:∀ x∈e,qwF x) (ps:List Int) (hps:ps.length<2 ^ 30) (h:Heap) :
  pcall L 195 [.list (e.map qam) none,.list (ps.map qav) none] h=some (.val (.bool (qjm e ps)),h):=by
 have hdE:=qaI e
 refine qaX hL h195 rfl ?_ h
 obtain⟨ha,hb1⟩:=qyj (L:=L) (.list (e.map qam) none) (by rw[qa3];exact hdE) ps hps []
 unfold qjm
 cases hq:qbJ qdA ps 0 [] with
 | error u =>
   obtain⟨R,⟨s,rfl⟩,hl0⟩:=hb1 u hq
   unfold qp2 qp3 at hl0
   simp only[Int.natCast_zero,qCL] at hl0
   unfold fn195
   simp -implicitDefEqProofs only[ev_,aOp,opd,qaa,qbd,qan,qac,qae,qaj,qaC,ren,renC,qa9,qbq,↓reduceIte,reduceCtorEq,Nat.reduceEqDiff,Nat.reduceLT,Nat.reduceLeDiff,qak,qah,hl0,hdE,qbo,qbp]
 | ok s =>
   obtain⟨_,hl0⟩:=ha s hq
   unfold qp2 qp3 at hl0
   simp only[Int.natCast_zero,qCL] at hl0
   obtain⟨hc,hd⟩:=qyk hL h232 e hl hf hb s
   dsimp only
   cases hr:qbJ qjN e 0 s with
   | error u =>
     obtain⟨R,⟨t,rfl⟩,hl2⟩:=hd u hr
     unfold qp6 at hl2
     simp only[Int.natCast_zero] at hl2
     unfold fn195
     simp -implicitDefEqProofs only[ev_,aOp,opd,qaa,qbd,qan,qac,qae,qaj,qaC,ren,renC,qa9,qbq,↓reduceIte,reduceCtorEq,Nat.reduceEqDiff,Nat.reduceLT,Nat.reduceLeDiff,qak,qah,hl0,hl2,hdE,qbo,qbp]
   | ok t =>
     obtain⟨_,hl2⟩:=hc t hr
     unfold qp6 at hl2
     simp only[Int.natCast_zero] at hl2
     unfold fn195
     simp -implicitDefEqProofs only[ev_,aOp,opd,qaa,qbd,qan,qac,qae,qaj,qaC,ren,renC,qa9,qbq,↓reduceIte,reduceCtorEq,Nat.reduceEqDiff,Nat.reduceLT,Nat.reduceLeDiff,qak,qah,hl0,hl2,hdE,qbo,qbp]
end
section
theorem qtv:∀ (e:List CExpr) (i j:Nat) (s:IM Unit),qbJ qjN e i s=qbJ qdA (e.flatMap qbB) j s:=by
 have hidx:∀ (ns:List Int) (i j:Nat) (s:IM Unit),qbJ qdA ns i s=qbJ qdA ns j s:=by
  intro ns
  induction ns with
  | nil=>intros;rfl
  | cons n ns ih =>
    intro i j s
    rw[qbJ,qbJ]
    have:qdA i s n=qdA j s n:=rfl
    rw[this]
    cases qdA j s n with
    | error u=>rfl
    | ok t=>exact ih _ _ t
 have happ:∀ (ns ms:List Int) (i:Nat) (s:IM Unit),qbJ qdA (ns++ms) i s=(match qbJ qdA ns i s with | .ok t=>qbJ qdA ms 0 t | .error u=>.error u):=by
  intro ns
  induction ns with
  | nil=>intro ms i s;exact hidx ms i 0 s
  | cons n ns ih =>
    intro ms i s
    rw[List.cons_append,qbJ,qbJ]
    cases qdA i s n with
    | error u=>rfl
    | ok t=>exact ih ms (i+1) t
 intro e
 induction e with
 | nil=>intros;rfl
 | cons x e ih =>
   intro i j s
   rw[List.flatMap_cons,happ,qbJ,hidx _ j 0]
   unfold qjN
   cases qbJ qdA (qbB x) 0 s with
   | error u=>rfl
   | ok t=>exact ih _ 0 t
theorem qlT (e:List CExpr):qjm e [] = !decide (e.flatMap qbB).Nodup:=by
 unfold qjm
 have hs:=qyd (e.flatMap qbB) 0 []
 rw[← qtv e 0 0 []] at hs
 dsimp only[qbJ]
 cases hq:qbJ qjN e 0 [] with
 | error u =>
   have:¬ (e.flatMap qbB).Nodup:=fun h=>hs.1 ⟨u,hq⟩ ⟨h,fun _ _=>rfl⟩
   simp[this]
 | ok t =>
   have:(e.flatMap qbB).Nodup:=by
    refine Classical.byContradiction fun h=>?_
    obtain⟨u,hu⟩:=hs.2 fun hx=>h hx.1
    rw[hq] at hu
    cases hu
   simp[this]
end
structure CPrims (L:Lib) (sortI:List Int→List Int):Prop where
 clone:∀ (l:List Int) (h:Heap),l.length<2 ^ 30→pcall L 188 [.list (l.map qav) none] h=some (.val (.list (l.map qav) none),h)
 sort:∀ (l:List Int),l≠[]→l.length<2 ^ 30→call L 138 [.vec 0 l.length] [.vec (l.map qav) 1]=some (.val (.tuple []),[.vec ((sortI l).map qav) 1])
 sort0:∀ h:Heap,pcall L 138 [.list [] none] h=some (.val (.tuple []),h)
def CTree.none:CTree:=.mk 0 0 [] [] []
def qea (ts:List CTree) (x:CExpr):List CTree:=ts++[.mk x.op x.n x.binds (x.kids.map fun k=>ts.getD k.toNat .none) x.alts]
def qdV (e:List CExpr):List CTree:=e.foldl qea []
def qbD (e:List CExpr):CTree:=(qdV e).getD (e.length-1) .none
def qdr (e:List CExpr):Prop:=∀ (i:Nat) (hi:i<e.length),∀ k∈e[i].kids,0≤k∧k<i
theorem qng (cs:List AVal) (n:Nat):wipeR (.vptr cs n)=.vptr cs n:=rfl
theorem qbC (t:CTree):∃ tc,qao t=.vptr tc 0∧qax tc=true:=by
 have h:=qbY t
 cases t
 rw[qbj] at h ⊢
 exact⟨_,rfl,h⟩
section
variable {L:Lib} (hL:Plain L)
def qmh (x:CExpr):AObj:=.box [.int .i64 x.op,.int .i64 x.n,.list (x.binds.map qav) none,.list (x.kids.map qav) none,.list (x.alts.map qas) none]
end
section
theorem qjA (e:List CExpr) (i:Nat) (hi:i<e.length):qdV (e.take (i+1))=qea (qdV (e.take i)) e[i]:=by
 unfold qdV
 rw[List.take_succ_eq_append_getElem hi,List.foldl_append]
 rfl
theorem qho:∀ (e:List CExpr) (ts:List CTree),(e.foldl qea ts).length=ts.length+e.length
 | [],ts=>rfl
 | x :: e,ts => by
   rw[List.foldl_cons,qho e]
   simp[qea]
   omega
theorem qqD (e:List CExpr):(qdV e).length=e.length:=by
 unfold qdV
 rw[qho]
 simp
theorem qjC (e:List CExpr) (i:Nat) (hi:i≤e.length):(qdV (e.take i)).length=i:=by
 rw[qqD]
 simp
 omega
end
end Go.Abs
